/-
  A part of the proof: rules and plain facts. No condition.
-/
import Derived.WalkKit
import Derived.Laws.AppendOwn
import Derived.Orders
import Derived.TacticsIn
import Derived.OrdersIn
import Derived.RangeFuncCalls
import Derived.RangeFuncLeaves
import Derived.Laws.BytesArg
import Derived.Laws.MakeOwn
import Derived.Laws.Strings2
import Derived.Laws.IdiomStrings
import Derived.WalkSpells
import Derived.Laws.StructEq
import Derived.RangeFuncIn
import Derived.Laws.FloatArith
import Derived.Laws.Cover2
import Derived.Laws.Externs
set_option linter.all false
open Go renaming FuncId → Ce,TypeId → At,Value → AG
open _root_ renaming UInt8 → DC
namespace Go.IL

inductive D where
 | dead
 | bool (b:Bool)
 | int (k:IntKind) (n:Int)
 | float (k:FloatKind) (n:Nat)
 | str (l:List DC)
 | slice (full:Bool) (l:List D)
 | nils
 | agg (cs:List D)
 | tuple (cs:List D)
 | fptr (cs:List D)
 | nilp | nilf | nili
 | fn (f:Ce) (caps:List D)
 | mv (f:Ce) (first:List D)
 | ref (id off:Nat)
 | rsl (id sz off len cap:Nat)
 | gsl (id sz:Nat) (l:List D)
 | osl (id sz len:Nat)
 | cnd (b:Bool) (d:D)
 | yld (id:Nat)
 | mref (id:Nat)
 | optp (b:Bool)
 | mapp
 deriving Inhabited

def fnan:FloatKind→Nat
 | .f64=>9221120237041090561
 | .f32=>2143289344
def fcan(k:FloatKind)(m:Nat):Nat:=if (k.decode m).isNaN then fnan k else m

def D.cells:D→List D
 | .agg cs=>cs
 | d=>[d]
def D.flat(l:List D):List D:=l.flatMap D.cells

def bs(l:List DC):ByteArray:=⟨l.toArray⟩

structure Env where
 w:World
 X:Nat→Nat→Prop

abbrev bY:=Nat→Option Nat
def β0:bY:=fun _=>none

def Env.row(E:Env)(b off:Nat)(vs:List AG):Prop :=
 ∀ (k:Nat) (v:AG),vs[k]? = some v→E.w.cell? ⟨b,off+k,none⟩=some v∧¬ E.X b (off+k)

mutual
inductive Rd (E:Env):bY→AG→D→Prop
 | dead (β v):Rd E β v .dead
 | bool (β b):Rd E β (.bool b) (.bool b)
 | int (β k n):Rd E β (.int k n) (.int k n)
 | float (β k m n) (h:fcan k m=n):Rd E β (.float k m) (.float k n)
 | str (β l):Rd E β (.string (bs l)) (.str l)
 | slice (β) (b off len cap sz:Nat) (full:Bool) (vs:List AG) (l:List D) (hl:l.length=len) (hc:len≤cap)
  (hf:full=true→cap=len) (hz:∀ d∈l,d.cells.length=sz) (hsz:0<sz) (hr:E.row b off vs) (hv:RdL E β0 vs (D.flat l)) :
  Rd E β (.slice (some ⟨b,off,none⟩) len cap) (.slice full l)
 | nslice (β full):Rd E β (.slice none 0 0) (.slice full [])
 | eslice (β) (a:Addr) (cap:Nat) (full:Bool) (hf:full=true→cap=0):Rd E β (.slice (some a) 0 cap) (.slice full [])
 | nils (β):Rd E β (.slice none 0 0) .nils
 | agg (β vs cs) (h:RdL E β vs cs):Rd E β (.agg vs.toArray) (.agg cs)
 | tuple (β vs cs) (h:RdL E β vs cs):Rd E β (.tuple vs.toArray) (.tuple cs)
 | fptr (β) (b off:Nat) (vs cs) (hr:E.row b off vs) (hv:RdL E β0 vs cs):Rd E β (.pointer (some ⟨b,off,none⟩)) (.fptr cs)
 | nilp (β):Rd E β (.pointer none) .nilp
 | nilf (β):Rd E β .nilFunc .nilf
 | nili (β):Rd E β .nilIface .nili
 | fn (β f vs caps) (h:RdL E β vs caps):Rd E β (.func (.func f) #[] vs.toArray) (.fn f caps)
 | mv (β f us first) (h:RdL E β us first):Rd E β (.func (.func f) us.toArray #[]) (.mv f first)
 | ref (β id off b) (h:β id=some b):Rd E β (.pointer (some ⟨b,off,none⟩)) (.ref id off)
 | rsl (β id sz off len cap b o) (h:β id=some b) (hc:len≤cap) (hsz:0<sz) (ho:(0<cap→o=off)∧o≤off) (c:Array AG) (e:At) (f:Nat×Nat) (hcap:E.w.heap[b]? = some (Obj.cells c e f)) (hcs:off+cap*sz≤c.size) (hcm:cap≤maxLen) :
  Rd E β (.slice (some ⟨b,o,none⟩) len cap) (.rsl id sz off len cap)
 | gsl (β id b) (len cap sz:Nat) (vs:List AG) (l:List D) (h:β id=some b) (hl:l.length=len) (hc:len≤cap)
  (hz:∀ d∈l,d.cells.length=sz) (hsz:0<sz) (hr:E.row b 0 vs) (hv:RdL E β0 vs (D.flat l)) (c:Array AG) (e:At) (f:Nat×Nat) (hcap:E.w.heap[b]? = some (Obj.cells c e f)) (hcs:c.size=cap*sz) (hcm:cap≤maxLen) :
  Rd E β (.slice (some ⟨b,0,none⟩) len cap) (.gsl id sz l)
 | ngsl (β id sz):Rd E β (.slice none 0 0) (.gsl id sz [])
 | osl (β id b) (len cap sz:Nat) (h:β id=some b) (hc:len≤cap) (hsz:0<sz) (c:Array AG) (e:At) (f:Nat×Nat) (hcap:E.w.heap[b]? = some (Obj.cells c e f)) (hcs:cap*sz≤c.size) (hcm:cap≤maxLen) :
  Rd E β (.slice (some ⟨b,0,none⟩) len cap) (.osl id sz len)
 | nosl (β id sz):Rd E β (.slice none 0 0) (.osl id sz 0)
 | cnd (β v b d) (h:b=true→Rd E β v d) (h':b=false→v=undef):Rd E β v (.cnd b d)
 | yld (β id l) (h:β id=some l):Rd E β (.func (.yield l) #[] #[]) (.yld id)
 | mref (β id b) (h:β id=some b):Rd E β (.map (some b)) (.mref id)
 | optp0 (β):Rd E β (.pointer none) (.optp false)
 | optp1 (β a):Rd E β (.pointer (some a)) (.optp true)
 | mapp (β m):Rd E β (.map m) .mapp
inductive RdL (E:Env):bY→List AG→List D→Prop
 | nil (β):RdL E β [] []
 | cons {β v d vs ds} (h:Rd E β v d) (t:RdL E β vs ds):RdL E β (v::vs) (d::ds)
end

structure Env.le (E E':Env):Prop where
 cell:∀ b o v,E.w.cell? ⟨b,o,none⟩=some v→¬ E.X b o→E'.w.cell? ⟨b,o,none⟩=some v∧¬ E'.X b o
 size:∀ (b:Nat) (c:Array AG) (e:At) (f:Nat×Nat),E.w.heap[b]? = some (Obj.cells c e f)→∃ (c':Array AG) (f':Nat×Nat),E'.w.heap[b]? = some (Obj.cells c' e f')∧c'.size=c.size

def tabs:List (Nat×List AG):=[]
structure Tabs (E:Env):Prop where
 all:∀ x∈tabs,E.row x.1 0 x.2∧∃ (c:Array AG) (e:At) (f:Nat×Nat),E.w.heap[x.1]? = some (Obj.cells c e f)∧c.size=x.2.length
structure Env.good (E:Env):Prop where
 xlt:∀ b o,E.X b o→b<E.w.heap.size
 tab:Tabs E

theorem Env.le.row{E E':Env}(h:E.le E'){b off:Nat}{vs:List AG}(r:E.row b off vs):E'.row b off vs :=
 fun k v hk=>h.cell _ _ _ (r k v hk).1 (r k v hk).2

theorem Tabs.mono{E E':Env}(h:E.le E')(k:Tabs E):Tabs E':=⟨fun x hx =>
 let ⟨h1,c,e,f,h2,h3⟩:=k.all x hx
 let ⟨c',f',h4,h5⟩:=h.size _ _ _ _ h2
 ⟨h.row h1,c',e,f',h4,h5.trans h3⟩⟩

theorem Tabs.sub{w:World}{X Y:Nat→Nat→Prop}(h:∀ b o,Y b o→X b o)(k:Tabs ⟨w,X⟩):Tabs ⟨w,Y⟩:=⟨fun x hx =>
 let ⟨h1,h2⟩:=k.all x hx
 ⟨fun i v hv=>⟨(h1 i v hv).1,fun hY=>(h1 i v hv).2 (h _ _ hY)⟩,h2⟩⟩

def bY.le(β β':bY):Prop:=∀ id b,β id=some b→β' id=some b
theorem bY.le.refl(β:bY):β.le β:=fun _ _ h=>h

mutual
theorem Rd.mono{E E':Env}(h:E.le E'){β β':bY}(hβ:β.le β'):∀ {v:AG} {d:D},Rd E β v d→Rd E' β' v d
 | _,_,.dead _ v=>.dead _ v
 | _,_,.bool _ b=>.bool _ b
 | _,_,.int _ k n=>.int _ k n
 | _,_,.float _ k m n h=>.float _ k m n h
 | _,_,.str _ l=>.str _ l
 | _,_,.slice _ b off len cap sz full vs l hl hc hf hz hsz hr hv=>.slice _ b off len cap sz full vs l hl hc hf hz hsz (h.row hr) (RdL.mono h (bY.le.refl _) hv)
 | _,_,.nslice _ f=>.nslice _ f
 | _,_,.eslice _ a c f h=>.eslice _ a c f h
 | _,_,.nils _=>.nils _
 | _,_,.agg _ vs cs hv=>.agg _ vs cs (RdL.mono h hβ hv)
 | _,_,.tuple _ vs cs hv=>.tuple _ vs cs (RdL.mono h hβ hv)
 | _,_,.fptr _ b off vs cs hr hv=>.fptr _ b off vs cs (h.row hr) (RdL.mono h (bY.le.refl _) hv)
 | _,_,.nilp _=>.nilp _
 | _,_,.nilf _=>.nilf _
 | _,_,.nili _=>.nili _
 | _,_,.fn _ f vs caps hv=>.fn _ f vs caps (RdL.mono h hβ hv)
 | _,_,.mv _ f us first hv=>.mv _ f us first (RdL.mono h hβ hv)
 | _,_,.ref _ id off b hb=>.ref _ id off b (hβ _ _ hb)
 | _,_,.rsl _ id sz off len cap b o hb hc hsz ho c e f h1 h2 h3 =>
   let ⟨c',f',h4,h5⟩:=h.size _ _ _ _ h1
   .rsl _ id sz off len cap b o (hβ _ _ hb) hc hsz ho c' e f' h4 (h5 ▸ h2) h3
 | _,_,.gsl _ id b len cap sz vs l hb hl hc hz hsz hr hv c e f h1 h2 h3 =>
   let ⟨c',f',h4,h5⟩:=h.size _ _ _ _ h1
   .gsl _ id b len cap sz vs l (hβ _ _ hb) hl hc hz hsz (h.row hr) (RdL.mono h (bY.le.refl _) hv) c' e f' h4 (h5.trans h2) h3
 | _,_,.ngsl _ id sz=>.ngsl _ id sz
 | _,_,.osl _ id b len cap sz hb hc hsz c e f h1 h2 h3 =>
   let ⟨c',f',h4,h5⟩:=h.size _ _ _ _ h1
   .osl _ id b len cap sz (hβ _ _ hb) hc hsz c' e f' h4 (h5 ▸ h2) h3
 | _,_,.nosl _ id sz=>.nosl _ id sz
 | _,_,.cnd _ v b d hv hu=>.cnd _ v b d (fun hb=>Rd.mono h hβ (hv hb)) hu
 | _,_,.yld _ id l hb=>.yld _ id l (hβ _ _ hb)
 | _,_,.mref _ id b hb=>.mref _ id b (hβ _ _ hb)
 | _,_,.optp0 _=>.optp0 _
 | _,_,.optp1 _ a=>.optp1 _ a
 | _,_,.mapp _ m=>.mapp _ m
theorem RdL.mono{E E':Env}(h:E.le E'){β β':bY}(hβ:β.le β'):∀ {vs:List AG} {ds:List D},RdL E β vs ds→RdL E' β' vs ds
 | _,_,.nil _=>.nil _
 | _,_,.cons hv t=>.cons (Rd.mono h hβ hv) (RdL.mono h hβ t)
end

theorem Env.le.refl(E:Env):E.le E:=⟨fun _ _ _ h k=>⟨h,k⟩,fun _ c _ f h=>⟨c,f,h,rfl⟩⟩
theorem Env.le.trans{E F G:Env}(h:E.le F)(k:F.le G):E.le G :=
 ⟨fun b o v a c=>let r:=h.cell b o v a c; k.cell b o v r.1 r.2,
  fun b c e f a=>let ⟨c',f',h1,h2⟩:=h.size b c e f a; let ⟨c'',f'',h3,h4⟩:=k.size b c' e f' h1; ⟨c'',f'',h3,h4.trans h2⟩⟩


mutual
def D.refsIn(p:Nat→Bool):D→Bool
 | .ref id _=>p id
 | .rsl id _ _ _ _=>p id
 | .gsl id _ _=>p id
 | .osl id _ _=>p id
 | .yld id=>p id
 | .mref id=>p id
 | .agg cs=>D.refsInL p cs
 | .tuple cs=>D.refsInL p cs
 | .fn _ cs=>D.refsInL p cs
 | .mv _ cs=>D.refsInL p cs
 | .cnd _ d=>d.refsIn p
 | _=>true
def D.refsInL(p:Nat→Bool):List D→Bool
 | []=>true
 | d::ds=>d.refsIn p&&D.refsInL p ds
end
mutual
def D.ren(ρ:Nat→Nat):D→D
 | .ref id off=>.ref (ρ id) off
 | .rsl id sz off len cap=>.rsl (ρ id) sz off len cap
 | .gsl id sz l=>.gsl (ρ id) sz l
 | .osl id sz len=>.osl (ρ id) sz len
 | .yld id=>.yld (ρ id)
 | .mref id=>.mref (ρ id)
 | .agg cs=>.agg (D.renL ρ cs)
 | .tuple cs=>.tuple (D.renL ρ cs)
 | .fn f cs=>.fn f (D.renL ρ cs)
 | .mv f cs=>.mv f (D.renL ρ cs)
 | .cnd b d=>.cnd b (d.ren ρ)
 | d=>d
def D.renL(ρ:Nat→Nat):List D→List D
 | []=>[]
 | d::ds=>d.ren ρ::D.renL ρ ds
end

mutual
theorem Rd.ren{E:Env}{β β':bY}{ρ:Nat→Nat}{p:Nat→Bool}(hp:∀ id,p id=true→β' id=β (ρ id)) :
 ∀ (d:D) {v:AG},Rd E β v (d.ren ρ)→d.refsIn p=true→Rd E β' v d
 | .dead,_,_,_=>.dead _ _
 | .bool b,_,.bool _ _,_=>.bool _ b
 | .int k n,_,.int _ _ _,_=>.int _ k n
 | .float k n,_,.float _ _ m _ h,_=>.float _ k m n h
 | .str l,_,.str _ _,_=>.str _ l
 | .slice f l,_,.slice _ b off len cap sz _ vs _ hl hc hf hz hsz hr hv,_=>.slice _ b off len cap sz f vs l hl hc hf hz hsz hr hv
 | .slice f _,_,.nslice _ _,_=>.nslice _ f
 | .slice _ _,_,.eslice _ a c f h,_=>.eslice _ a c f h
 | .nils,_,.nils _,_=>.nils _
 | .agg cs,_,.agg _ vs _ h,hr=>.agg _ vs cs (RdL.ren hp cs h (by simpa [D.refsIn] using hr))
 | .tuple cs,_,.tuple _ vs _ h,hr=>.tuple _ vs cs (RdL.ren hp cs h (by simpa [D.refsIn] using hr))
 | .fptr cs,_,.fptr _ b off vs _ hr hv,_=>.fptr _ b off vs cs hr hv
 | .nilp,_,.nilp _,_=>.nilp _
 | .nilf,_,.nilf _,_=>.nilf _
 | .nili,_,.nili _,_=>.nili _
 | .fn f cs,_,.fn _ _ vs _ h,hr=>.fn _ f vs cs (RdL.ren hp cs h (by simpa [D.refsIn] using hr))
 | .mv f cs,_,.mv _ _ us _ h,hr=>.mv _ f us cs (RdL.ren hp cs h (by simpa [D.refsIn] using hr))
 | .ref id off,_,.ref _ _ _ b h,hr=>.ref _ id off b ((hp id (by simpa [D.refsIn] using hr)).trans h)
 | .rsl id sz off len cap,_,.rsl _ _ _ _ _ _ b o h hc hsz ho c e f h1 h2 h3,hr=>.rsl _ id sz off len cap b o ((hp id (by simpa [D.refsIn] using hr)).trans h) hc hsz ho c e f h1 h2 h3
 | .gsl id sz l,_,.gsl _ _ b len cap _ vs _ h hl hc hz hsz hr' hv c e f h1 h2 h3,hr =>
   .gsl _ id b len cap sz vs l ((hp id (by simpa [D.refsIn] using hr)).trans h) hl hc hz hsz hr' hv c e f h1 h2 h3
 | .gsl id sz _,_,.ngsl _ _ _,_=>.ngsl _ id sz
 | .osl id sz len,_,.osl _ _ b _ cap _ h hc hsz c e f h1 h2 h3,hr=>.osl _ id b len cap sz ((hp id (by simpa [D.refsIn] using hr)).trans h) hc hsz c e f h1 h2 h3
 | .osl id sz _,_,.nosl _ _ _,_=>.nosl _ id sz
 | .cnd b d,_,.cnd _ v _ _ h hu,hr=>.cnd _ v b d (fun hb=>Rd.ren hp d (h hb) (by simpa [D.refsIn] using hr)) hu
 | .yld id,_,.yld _ _ l h,hr=>.yld _ id l ((hp id (by simpa [D.refsIn] using hr)).trans h)
 | .mref id,_,.mref _ _ b h,hr=>.mref _ id b ((hp id (by simpa [D.refsIn] using hr)).trans h)
 | .optp _,_,.optp0 _,_=>.optp0 _
 | .optp _,_,.optp1 _ a,_=>.optp1 _ a
 | .mapp,_,.mapp _ m,_=>.mapp _ m
theorem RdL.ren{E:Env}{β β':bY}{ρ:Nat→Nat}{p:Nat→Bool}(hp:∀ id,p id=true→β' id=β (ρ id)) :
 ∀ (ds:List D) {vs:List AG},RdL E β vs (D.renL ρ ds)→D.refsInL p ds=true→RdL E β' vs ds
 | [],_,.nil _,_=>.nil _
 | d::ds,_,.cons h t,hr =>
   have hr':d.refsIn p=true∧D.refsInL p ds=true:=by simpa [D.refsInL] using hr
   .cons (Rd.ren hp d h hr'.1) (RdL.ren hp ds t hr'.2)
end

end Go.IL
open _root_.Array renaming getElem?_setIfInBounds_ne → Bf
open Bool renaming and_eq_true → Av,false_eq_true → CF
open Go renaming Program → Ba
open List renaming toArray → Cw
open _root_ renaming Option → Ag,if_neg → Al,if_pos → Ao
namespace Go.IL

inductive Ent where
 | none | fresh
 | blk (e:At) (ds:List D)
 | tail (e:At) (sz n:Nat)
 | loop (k:Nat) (ds:List D) (st:LoopState) (pend:Ag Code)
 | kept (k:Nat) (ds:List D)
 | mp (ks:List Int) (ds:List D)
 deriving Inhabited

def Ent.held:Ent→Bool
 | .blk .. | .tail .. | .loop .. | .mp ..=>true
 | _=>false

structure bZ where
 w:World
 X:Nat→Nat→Prop
 foot:Nat→Prop
 given:bY
 round:Ag Nat
 kv:Nat→List AG
 lv:Nat→Nat
 dv:Nat→List Nat
 lc:Nat→Array Tmp×Code×Code
 mb:Nat

def bZ.FootOk(O:bZ):Prop:=O.w.heap.size≤O.mb∧∀ b,O.w.heap.size≤b→¬ O.foot b
structure bZ.Plain (O:bZ):Prop where
 round:O.round=none
 foot:O.FootOk
 dv:∀ k,O.dv k=[]

def bZ.own(O:bZ)(b:Nat):Prop:=O.w.heap.size≤b∨O.foot b

def qX(O:bZ)(E:Env)(β:bY)(id:Nat):Ent→Prop
 | .none=>True
 | .fresh=>β id = .none
 | .blk e ds=>(β id = .none∧ds=[])∨∃ b vs sp,β id=some b∧O.own b∧E.w.heap[b]? = some (.cells (Cw (vs++sp)) e (0,0))∧(∀ o,E.X b o)∧RdL E β vs ds
 | .tail e sz n=>(β id = .none∧n=0)∨∃ b c,β id=some b∧O.own b∧E.w.heap[b]? = some (.cells c e (0,0))∧∀ o,n*sz≤o→E.X b o
 | .loop lk ds st pend=>∃ b r,β id=some b∧O.own b∧E.w.heap[b]? = some (.loop r)∧(∀ o,E.X b o)∧r.params=(O.lc lk).1∧r.assign=(O.lc lk).2.1∧r.body=(O.lc lk).2.2∧r.state=st∧r.pending=pend∧O.lv lk=b∧RdL E β r.tmps.toList ds
 | .kept k ds=>RdL E β (O.kv k) ds∧∀ b∈O.dv k,E.w.heap[b]? = some (.deferred (some []))
 | .mp ks ds=>∃ b es cl,β id=some b∧O.own b∧E.w.heap[b]? = some (.map es cl)∧(∀ o,E.X b o)∧es.toList.map (·.key)=ks.map (fun n=>.int .i64 n)∧RdL E β (es.toList.map (·.val)) ds

structure HOk (O:bZ) (E:Env) (β:bY) (H:Nat→Ent):Prop where
 os:E.w.os=O.w.os
 tape:E.w.tape=O.w.tape
 output:E.w.output=O.w.output
 size:O.w.heap.size≤E.w.heap.size
 mbs:O.mb≤O.w.heap.size
 block:∀ k,k<O.w.heap.size→¬ O.foot k→E.w.heap[k]? = O.w.heap[k]?
 xlt:∀ b o,E.X b o→b<E.w.heap.size
 xold:∀ b o,b<O.w.heap.size→¬ O.foot b→(E.X b o↔O.X b o)
 ent:∀ id,qX O E β id (H id)
 inj:∀ i j b,(H i).held=true→(H j).held=true→β i=some b→β j=some b→i=j
 le:(⟨O.w,O.X⟩:Env).le E
 tab:Tabs ⟨O.w,O.X⟩
 gid:∀ i b,O.given i=some b→1000≤i
 given:∀ i b,O.given i=some b→β i=some b

theorem HOk.good{O:bZ}{E:Env}{β:bY}{H:Nat→Ent}(h:HOk O E β H):E.good:=⟨h.xlt,h.tab.mono h.le⟩

structure St where
 sl:List (Nat×D)
 H:List (Nat×Ent)

def look{α:Type}(z:α)(t:Nat):List (Nat×α)→α
 | []=>z
 | (s,d)::r=>if s=t then d else look z t r

def St.get(S:St)(t:Nat):D:=look .dead t S.sl
def defE(id:Nat):Ent:=if 1000≤id then .none else .fresh
def entL(H:List (Nat×Ent))(id:Nat):Ent:=look (defE id) id H
def St.ent(S:St)(id:Nat):Ent:=entL S.H id
def St.set(S:St)(t:Nat)(d:D):St:={ S with sl:=(t,d)::S.sl }
def St.setE(S:St)(id:Nat)(e:Ent):St:={ S with H:=(id,e)::S.H }

theorem aV{α:Type}(z:α)(t s:Nat)(d:α)(r:List (Nat×α)):look z t ((s,d)::r)=if s=t then d else look z t r:=rfl

def uJ(O:bZ)(E:Env)(ds:List Deferred):Prop:=∃ bs:List Nat,ds=bs.map (fun b=>{ target:=.collected b,args:=#[] })∧bs.Nodup∧∀ b∈bs,(O.mb≤b∧∀ k,b ∉ O.dv k)∧E.w.heap[b]? = some (.deferred (some []))
theorem uJ.mono{O:bZ}{E E':Env}{ds:List Deferred}(h:uJ O E ds)(hd:∀ b:Nat,E.w.heap[b]? = some (Obj.deferred (some []))→E'.w.heap[b]? = some (Obj.deferred (some []))):uJ O E' ds :=
 let ⟨bs,h1,h2,h3⟩:=h; ⟨bs,h1,h2,fun b hb=>⟨(h3 b hb).1,hd b (h3 b hb).2⟩⟩
theorem uJ.nil{O:bZ}{E:Env}:uJ O E []:=⟨[],rfl,.nil,fun _ h=>by cases h⟩
def fen(r:Option Nat):Fence:={ Fence.wide with round:=r }

structure Rel (O:bZ) (N:Nat) (S:St) (E:Env) (β:bY) (a:Act):Prop where
 n:a.tmps.size=N
 nd:uJ O E a.defers
 h:HOk O E β S.ent
 sl:∀ t,Rd E β (a.tmps.getD t undef) (S.get t)

def IWP(P:Program)(O:bZ)(N:Nat)(c:Code)(S:St)(Q:Exit→St→Prop):Prop :=
 ∀ E β a,Rel O N S E β a→c.wpIn (fen O.round) 0 P (fun e a' w'=>∃ S' E' β',E'.w=w'∧Rel O N S' E' β' a'∧Q e S') a E.w

def ILS(P:Program)(O:bZ)(N:Nat)(ops:Array Oper)(l:List Oper)(S:St)(Q:Exit→St→Prop):Prop :=
 ∀ E β a,Rel O N S E β a→wpListIn (fen O.round) 0 P ops (fun e a' w'=>∃ S' E' β',E'.w=w'∧Rel O N S' E' β' a'∧Q e S') l a E.w

def IOp(P:Program)(O:bZ)(N:Nat)(o:Oper)(S S':St):Prop :=
 ∀ E β a,Rel O N S E β a→∀ (next:Act→World→Prop) Q,(∀ E' β' a',Rel O N S' E' β' a'→next a' E'.w)→o.wp P a E.w next Q

def vH:Op→Bool
 | .defer _=>false
 | _=>true
def rC(o:Oper):Bool:=o.guard.isNone&&vH o.op
theorem sH{o:Oper}(h:rC o=true):o.guard=none∧vH o.op=true:=by
 unfold rC at h;rw [Av] at h;exact ⟨by simpa using h.1,h.2⟩
theorem aCJ{o:Op}(h:vH o=true):∀ c,o ≠ .defer c:=by rintro c rfl; cases h
theorem aFk{P:Program}{o:Oper}{a:Act}{w:World}{next:Act→World→Prop}{Q:Exit→Act→World→Prop}(r:Option Nat)(hd:vH o.op=true)(h:o.wp P a w next Q):o.wpIn (fen r) 0 P a w next Q:=by
 refine ⟨fun _ _=>trivial,?_⟩;unfold Oper.wp at h;rw [Oper.semAt_eq _ _ _ (aCJ hd)];generalize (execOp a.eval o).run P w=x at h;cases x with
 | ok x w' =>
   cases x
   case enter f args=>exact ⟨fun h=>by simp [fen,Fence.wide] at h,callsIn_wide (n:=0) |>.2 h⟩
   case row row args=>exact ⟨fun h=>by simp [fen,Fence.wide] at h,fun c cs _=>let ⟨v,w',r,s⟩:=h c cs; ⟨v,w',r,stepsIn_wide.2 s⟩⟩
   case round=>exact False.elim h
   all_goals exact h
 | halt x w'=>cases x <;> exact h

section rules
variable {P:Ba} {O:bZ} {N:Nat} {S S':St} {Q Q':Exit→St→Prop}

theorem vJ{c:Code}(h:IWP P O N c S Q)(hq:∀ e S,Q e S→Q' e S):IWP P O N c S Q' :=
 fun E β a hr=>wpIn_mono (h E β a hr) fun e a' w' ⟨S',E',β',h1,h2,h3⟩=>⟨S',E',β',h1,h2,hq _ _ h3⟩

def aCe(k:St→Prop)(Q:Exit→St→Prop):Exit→St→Prop
 | .normal,S=>k S
 | e,S=>Q e S

theorem aQ{x y:Code}(h:IWP P O N x S (aCe (fun S'=>IWP P O N y S' Q) Q)):IWP P O N (.seq x y) S Q:=by
 intro E β a hr;refine wpIn_seq (wpIn_mono (h E β a hr) ?_);rintro e a' w' ⟨S',E',β',rfl,h2,h3⟩;cases e with
 | normal=>exact h3 E' β' a' h2
 | _=>exact ⟨S',E',β',rfl,h2,h3⟩

theorem aR(h:Q .normal S):IWP P O N .skip S Q:=fun E β _ hr=>wpIn_skip ⟨S,E,β,rfl,hr,h⟩
theorem aHI{l:Nat}(h:Q .normal S):IWP P O N (.label l) S Q:=fun E β _ hr=>wpIn_label ⟨S,E,β,rfl,hr,h⟩
theorem cD{i:Nat}(h:Q (.exit i) S):IWP P O N (.exit i) S Q:=fun E β _ hr=>wpIn_exit ⟨S,E,β,rfl,hr,h⟩
theorem aIr{l:Nat}(h:Q (.goto l) S):IWP P O N (.goto l) S Q:=fun E β _ hr=>wpIn_goto ⟨S,E,β,rfl,hr,h⟩
theorem aU(h:Q .ret S):IWP P O N .ret S Q:=fun E β _ hr=>wpIn_ret ⟨S,E,β,rfl,hr,h⟩

def aCW(i:Nat)(Q:Exit→St→Prop):Exit→St→Prop
 | .exit j,S=>if j=i then Q .normal S else Q (.exit j) S
 | e,S=>Q e S

theorem aT{i:Nat}{c:Code}(h:IWP P O N c S (aCW i Q)):IWP P O N (.block i c) S Q:=by
 intro E β a hr;refine wpIn_block (wpIn_mono (h E β a hr) ?_);rintro e a' w' ⟨S',E',β',rfl,h2,h3⟩;cases e with
 | exit j =>
   simp only [Exit.inBlock,aCW] at h3 ⊢;split
   · rename_i hj; rw [Ao hj] at h3; exact ⟨S',E',β',rfl,h2,h3⟩
   · rename_i hj; rw [Al hj] at h3; exact ⟨S',E',β',rfl,h2,h3⟩
 | _=>exact ⟨S',E',β',rfl,h2,h3⟩

theorem aS{id:Nat}{l:List Oper}(h:ILS P O N l.toArray l S Q):IWP P O N (.region id l.toArray false) S Q :=
 fun E β a hr=>wpIn_region_lit (h E β a hr)

theorem bE{ops:Array Oper}(h:Q .normal S):ILS P O N ops [] S Q:=fun E β _ hr=>⟨S,E,β,rfl,hr,h⟩

theorem aA{ops:Array Oper}{o:Oper}{l:List Oper}(hg:rC o=true)(h:IOp P O N o S S')(k:ILS P O N ops l S' Q):ILS P O N ops (o::l) S Q :=
 fun E β a hr=>wpListIn_plain (sH hg).1 fun _ hK=>aFk _ (sH hg).2 (h E β a hr _ _ fun E' β' a' hr'=>hK _ _ (k E' β' a' hr'))

theorem Rel.set{E:Env}{β:bY}{a:Act}(h:Rel O N S E β a){t:Nat}(ht:t<N){v:AG}{d:D}(hv:Rd E β v d):Rel O N (S.set t d) E β (a.put (some t) v):=by
 refine ⟨by simp [Act.put,h.n],h.nd,h.h,fun s=>?_⟩;have hs:t<a.tmps.size:=h.n ▸ ht
 by_cases hst:t=s
 · subst hst; simpa [Act.put,St.get,St.set,aV,hs] using hv
 · have:=h.sl s;simpa [Act.put,St.get,St.set,aV,hst,Bf] using this

theorem kG{o:Oper}{t:Nat}{d:D}(hd:o.dst=some t)(ht:t<N)(h:∀ E β a,Rel O N S E β a→∃ v,(execOp a.eval o).run P E.w = .ok (.value v) E.w∧Rd E β v d):IOp P O N o S (S.set t d):=by
 intro E β a hr next Q hn;obtain ⟨v,hv,hd'⟩:=h E β a hr;unfold Oper.wp;rw [hv];simp only [Oper.upon,hd];exact hn _ _ _ (hr.set ht hd')

theorem Rel.cndT{E:Env}{β:bY}{a:Act}{t:Nat}{d:D}(h:Rel O N (S.set t d) E β a):Rel O N (S.set t (.cnd true d)) E β a:=by
 refine ⟨h.n,h.nd,h.h,fun s=>?_⟩;have:=h.sl s
 by_cases hst:t=s
 · subst hst;simp only [St.get,St.set,aV,if_true] at this ⊢;exact .cnd _ _ _ _ (fun _=>this) (fun h=>by cases h)
 · simpa [St.get,St.set,aV,hst] using this

inductive Grd (S:St) (tj:Nat) (want:Bool):Bool→Prop
 | one {b} (h:S.get tj = .bool b):Grd S tj want (b == want)
 | two {c b} (h:S.get tj = .cnd c (.bool b)):Grd S tj want (c&&(b == want))

theorem Grd.yields{E:Env}{β:bY}{a:Act}(hr:Rel O N S E β a){ops:Array Oper}{j tj:Nat}{want g:Bool}(hg:Grd S tj want g)(hj:(ops[j]?).bind (·.dst)=some tj){o:Oper}(ho:o.guard=some (j,want)) :
 Region.wanted o (yielded ops a.tmps)=g:=by
 have hv:=hr.sl tj;have bool:∀ b,Rd E β (a.tmps.getD tj undef) (.bool b)→yielded ops a.tmps j=some b:=by
  intro b hv;have htj:a.tmps[tj]? = some (.bool b):=by
   generalize hgd:a.tmps.getD tj undef=v at hv;cases hv;cases hh:a.tmps[tj]? with
   | none=>simp [hh,undef] at hgd
   | some x=>simp [hh] at hgd; rw [hgd]
  simp [yielded,hj,htj]
 cases hg with
 | @one b h =>
   rw [h] at hv;simp only [Region.wanted,ho,bool b hv];cases b <;> cases want <;> rfl
 | @two c b h =>
   rw [h] at hv;have hcn:(c=true→Rd E β (a.tmps.getD tj undef) (.bool b))∧(c=false→a.tmps.getD tj undef=undef):=by
    generalize a.tmps.getD tj undef=v at hv;cases hv with
    | cnd _ _ _ _ h1 h2=>exact ⟨h1,h2⟩
   obtain ⟨h1,h2⟩:=hcn;cases c with
   | true =>
     simp only [Region.wanted,ho,bool b (h1 rfl)];cases b <;> cases want <;> rfl
   | false =>
     have hu:=h2 rfl;have:yielded ops a.tmps j=none:=by
      simp only [yielded,hj,Option.bind_some];cases hh:a.tmps[tj]? with
      | none=>rfl
      | some x=>simp [hh] at hu; subst hu; rfl
     simp only [Region.wanted,ho,this];cases b <;> cases want <;> rfl

theorem zG{ops:Array Oper}{o:Oper}{l:List Oper}{j tj t:Nat}{want g:Bool}{d:D}(hg:o.guard=some (j,want))(hj:(ops[j]?).bind (·.dst)=some tj)(hb:Grd S tj want g)(hd:(o.dst,vH o.op)=(some t,true))(ht:t<N)(h:g=true→IOp P O N o S (S.set t d))(k:ILS P O N ops l (S.set t (.cnd g d)) Q):ILS P O N ops (o::l) S Q:=by
 obtain ⟨hd,hnd⟩:=Prod.mk.inj hd;intro E β a hr;have hwant:=hb.yields hr hj hg;refine wpListIn_step fun K hK=>?_
 rw [hwant];cases g with
 | true =>
   simp only [if_true];exact aFk _ hnd (h rfl E β a hr _ _ fun E' β' a' hr'=>hK _ _ (k E' β' a' hr'.cndT))
 | false =>
   simp only [CF,if_false,hd];exact ⟨fun _ _=>trivial,hK _ _ (k E β _ (hr.set ht (.cnd _ _ _ _ (fun h=>by cases h) fun _=>rfl)))⟩

end rules
end Go.IL
open Bool renaming beq_eq_decide_eq → DV
open Go renaming Operand → Am
namespace Go.IL

def D.ofScalar:Value→D
 | .bool b=>.bool b
 | .int k n=>.int k n
 | .float k n=>.float k (fcan k n)
 | .string s=>.str s.data.toList
 | .slice none 0 0=>.nils
 | .pointer none=>.nilp
 | .nilFunc=>.nilf
 | .nilIface=>.nili
 | _=>.dead
def D.ofVal:Value→D
 | .agg cs=>.agg (cs.toList.map D.ofScalar)
 | v=>D.ofScalar v

theorem bs_data(s:ByteArray):bs s.data.toList=s:=by simp [bs]

theorem aBH(E:Env)(β:bY)(v:Value):Rd E β v (D.ofScalar v):=by
 unfold D.ofScalar;split
 · exact .bool _ _
 · exact .int _ _ _
 · exact .float _ _ _ _ rfl
 · rename_i s; have:=Rd.str (E:=E) β s.data.toList; rwa [bs_data] at this
 · exact .nils _
 · exact .nilp _
 · exact .nilf _
 · exact .nili _
 · exact .dead _ _

theorem aAU(E:Env)(β:bY):∀ (vs:List AG),RdL E β vs (vs.map D.ofScalar)
 | []=>.nil _
 | v::vs=>.cons (aBH E β v) (aAU E β vs)

theorem tW(E:Env)(β:bY)(v:Value):Rd E β v (D.ofVal v):=by
 unfold D.ofVal;split
 · rename_i cs;have:=Rd.agg (E:=E) β cs.toList _ (aAU E β cs.toList);simpa using this
 · exact aBH E β v

def St.op(S:St):Operand→D
 | .tmp t=>S.get t
 | .const v=>D.ofVal v
 | .func f=>.fn f []
 | .global _=>.dead

section
variable {P:Ba} {O:bZ} {N:Nat} {S S':St}

theorem Rel.op{E:Env}{β:bY}{a:Act}(h:Rel O N S E β a)(x:Am):Rd E β (a.eval x) (S.op x):=by
 cases x with
 | tmp t=>exact h.sl t
 | const v=>exact tW E β v
 | func f=>exact Rd.fn β f [] [] (.nil _)
 | global g=>exact .dead _ _

def SV(S:St)(x:Operand)(d:D):Prop:=∀ E β v,Rd E β v (S.op x)→Rd E β v d

theorem sv{x:Operand}{d:D}(h:S.op x=d):SV S x d:=fun _ _ _ k=>h ▸ k
theorem svc{x:Operand}{b:Bool}{d:D}(h:S.op x = .cnd b d)(hb:b=true):SV S x d:=fun _ _ _ k=>by
 rw [h] at k; cases k with | cnd _ _ _ _ k _=>exact k hb
theorem svg{x:Operand}{id sz:Nat}{l:List D}(h:S.op x = .gsl id sz l):SV S x (.slice false l):=fun E β v k=>by
 rw [h] at k;cases k with
 | gsl _ _ b len cap _ vs _ hβ hl hc hz hsz hr hv c e f h1 h2 h3=>exact .slice _ _ _ _ _ _ _ _ _ hl hc (by simp) hz hsz hr hv
 | ngsl=>exact .nslice _ _
theorem svn{x:Operand}{f:Bool}(h:S.op x = .nils):SV S x (.slice f []):=fun E β v k=>by
 rw [h] at k; cases k; exact .nslice _ _
theorem SV.rd{x:Operand}{d:D}(h:SV S x d){E:Env}{β:bY}{a:Act}(hr:Rel O N S E β a):Rd E β (a.eval x) d:=h _ _ _ (hr.op x)

theorem lS{E:Env}{β:bY}{v:Value}{k:IntKind}{n:Int}(h:Rd E β v (.int k n)):v = .int k n:=by cases h; rfl
theorem zV{E:Env}{β:bY}{v:Value}{b:Bool}(h:Rd E β v (.bool b)):v = .bool b:=by cases h; rfl
theorem aE0{E:Env}{β:bY}{v:Value}{l:List DC}(h:Rd E β v (.str l)):v = .string (bs l):=by cases h; rfl
variable {o:Oper} {t:Nat}

theorem bM{x:Operand}{d:D}(ho:o.op = .move x)(hd:o.dst=some t)(ht:t<N)(hx:SV S x d):IOp P O N o S (S.set t d) :=
 kG hd ht fun E β a hr=>⟨a.eval x,by simp [execOp,ho],hx.rd hr⟩
theorem bH{x:Operand}{d:D}(ho:o.op = .assign x)(hd:o.dst=some t)(ht:t<N)(hx:SV S x d):IOp P O N o S (S.set t d) :=
 kG hd ht fun E β a hr=>⟨a.eval x,by simp [execOp,ho],hx.rd hr⟩

def int2(op:BinOp)(k:IntKind)(a b:Int):Ag D :=
 match op with
 | .add=>some (.int k (k.wrap (a+b)))
 | .sub=>some (.int k (k.wrap (a-b)))
 | .mul=>some (.int k (k.wrap (a*b)))
 | .quo=>if b=0 then none else some (.int k (k.wrap (a.tdiv b)))
 | .rem=>if b=0 then none else some (.int k (a.tmod b))
 | .and=>some (.int k (k.wrap ((BitVec.ofInt k.bits a) &&& (BitVec.ofInt k.bits b)).toNat))
 | .or=>some (.int k (k.wrap ((BitVec.ofInt k.bits a) ||| (BitVec.ofInt k.bits b)).toNat))
 | .xor=>some (.int k (k.wrap ((BitVec.ofInt k.bits a) ^^^ (BitVec.ofInt k.bits b)).toNat))
 | .andNot=>some (.int k (k.wrap ((BitVec.ofInt k.bits a) &&& ~~~(BitVec.ofInt k.bits b)).toNat))
 | .eql=>some (.bool (decide (a=b)))
 | .neq=>some (.bool (!decide (a=b)))
 | .lss=>some (.bool (decide (a<b)))
 | .leq=>some (.bool (decide (a≤b)))
 | .gtr=>some (.bool (decide (b<a)))
 | .geq=>some (.bool (decide (b≤a)))
 | _=>none

theorem aIx{op:BinOp}{k:IntKind}{a b:Int}{d:D}(h:int2 op k a b=some d)(T:At)(w:World)(E:Env)(β:bY) :
 ∃ v,(binOp op T (.int k a) (.int k b)).run P w = .ok v w∧Rd E β v d:=by
 cases op <;> simp only [int2,Option.some.injEq,reduceCtorEq] at h <;> (try subst h)
 case quo =>
  split at h
  · cases h
  · rename_i hb; cases h; refine ⟨_,?_,.int _ _ _⟩; simp [binOp,Op.intDiv,hb]
 case rem =>
  split at h
  · cases h
  · rename_i hb; cases h; refine ⟨_,?_,.int _ _ _⟩; simp [binOp,Op.intDiv,hb]
 all_goals first
  | (refine ⟨_,?_,.int _ _ _⟩; simp [binOp,Op.intArith,Op.intBits]; done)
  | (refine ⟨_,?_,.bool _ _⟩; simp [binOp,Op.intCmp,bne,DV]; done)

theorem aAt{op:BinOp}{xt yt:At}{x y:Am}{k:IntKind}{a b:Int}{d:D}(ho:o.op = .binOp op xt x y yt)(hd:o.dst=some t)(ht:t<N)(hx:SV S x (.int k a))(hy:SV S y (.int k b))(hr:int2 op k a b=some d):IOp P O N o S (S.set t d) :=
 kG hd ht fun E β ac hrel=>by
  have h1:=lS (hx.rd hrel);have h2:=lS (hy.rd hrel);obtain ⟨v,h3,h4⟩:=aIx (P:=P) hr xt E.w E β;refine ⟨v,?_,h4⟩;simp only [execOp,ho,h1,h2,eqGuard];simp [h3]

def aGd(op:BinOp)(k:IntKind)(a b:Int):Ag D :=
 if b<0 then none else
 match op with
 | .shl=>some (.int k (k.wrap (a*2 ^ (min b.toNat k.bits))))
 | .shr=>some (.int k (a.fdiv (2 ^ (min b.toNat k.bits))))
 | _=>none

theorem aHL{op:BinOp}{xt yt:At}{x y:Am}{k k':IntKind}{a b:Int}{d:D}(ho:o.op = .binOp op xt x y yt)(hd:o.dst=some t)(ht:t<N)(hx:SV S x (.int k a))(hy:SV S y (.int k' b))(hr:aGd op k a b=some d):IOp P O N o S (S.set t d) :=
 kG hd ht fun E β ac hrel=>by
  have h1:=lS (hx.rd hrel);have h2:=lS (hy.rd hrel);simp only [aGd] at hr;split at hr
  · cases hr
  · rename_i hb;cases op <;> simp only [Option.some.injEq,reduceCtorEq] at hr
    all_goals
     subst hr;refine ⟨_,?_,.int _ _ _⟩;simp [execOp,ho,h1,h2,eqGuard,binOp,Op.shift,hb]

theorem aAh(d:Nat){T:TypeId}(a b:Bool)(hu:P.underlying T=some .bool)(w:World):(Op.equalIn (d+1) T (.bool a) (.bool b)).run P w = .ok (a == b) w:=by
 simp [Op.equalIn,run_underlying hu]

theorem aHU{op:BinOp}{xt yt:At}{x y:Am}{a b c:Bool}(ho:o.op = .binOp op xt x y yt)(hd:o.dst=some t)(ht:t<N)(hu:P.underlying xt=some .bool)(hx:SV S x (.bool a))(hy:SV S y (.bool b))(hr:(op = .eql∧c=(a == b))∨(op = .neq∧c = !(a == b))):IOp P O N o S (S.set t (.bool c)) :=
 kG hd ht fun E β ac hrel=>by
  have h1:=zV (hx.rd hrel);have h2:=zV (hy.rd hrel);refine ⟨.bool c,?_,.bool _ _⟩;have he:=aAh (P:=P) 9999 a b hu E.w
  rcases hr with ⟨rfl,rfl⟩ | ⟨rfl,rfl⟩ <;> simp only [execOp,ho,h1,h2,eqGuard,binOp,Op.equal,Op.maxDepth] <;> simp [he]

theorem eP{xt:TypeId}{x:Operand}{a:Bool}(ho:o.op = .unOp .not xt x)(hd:o.dst=some t)(ht:t<N)(hx:SV S x (.bool a)):IOp P O N o S (S.set t (.bool !a)) :=
 kG hd ht fun E β ac hrel=>⟨.bool !a,by simp [execOp,ho,zV (hx.rd hrel),Op.unary],.bool _ _⟩
theorem iop_neg{xt:TypeId}{x:Operand}{k:IntKind}{a b:Int}(ho:o.op = .unOp .neg xt x)(hd:o.dst=some t)(ht:t<N)(hx:SV S x (.int k a))(hb:k.wrap (0-a)=b):IOp P O N o S (S.set t (.int k b)) :=
 kG hd ht fun E β ac hrel=>⟨.int k b,by subst hb; simp [execOp,ho,lS (hx.rd hrel),Op.unary,Op.intArith],.int _ _ _⟩

theorem aAr{c x y:Am}{b:Bool}{d:D}(ho:o.op = .pick c x y)(hd:o.dst=some t)(ht:t<N)(hc:SV S c (.bool b))(hx:b=true→SV S x d)(hy:b=false→SV S y d):IOp P O N o S (S.set t d) :=
 kG hd ht fun E β ac hrel=>by
  have h1:=zV (hc.rd hrel);cases b with
  | true=>exact ⟨ac.eval x,by simp [execOp,ho,h1,asBool],(hx rfl).rd hrel⟩
  | false=>exact ⟨ac.eval y,by simp [execOp,ho,h1,asBool],(hy rfl).rd hrel⟩

theorem iop_and{c x y:Am}{b z:Bool}(ho:o.op = .pick c x y)(hd:o.dst=some t)(ht:t<N)(hc:SV S c (.bool b))(hx:S.op x = .cnd (b == true) (.bool z))(hy:S.op y = .bool false):IOp P O N o S (S.set t (.bool (b&&z))) :=
 aAr ho hd ht hc (fun h=>by subst h; simpa using svc hx rfl) (fun h=>by subst h; simpa using sv hy)
theorem iop_or{c x y:Am}{b z:Bool}(ho:o.op = .pick c x y)(hd:o.dst=some t)(ht:t<N)(hc:SV S c (.bool b))(hx:S.op x = .bool true)(hy:S.op y = .cnd (b == false) (.bool z)):IOp P O N o S (S.set t (.bool (b||z))) :=
 aAr ho hd ht hc (fun h=>by subst h; simpa using sv hx) (fun h=>by subst h; simpa using svc hy rfl)
theorem iop_or2{c x y:Am}{b z g:Bool}(ho:o.op = .pick c x y)(hd:o.dst=some t)(ht:t<N)(hg:g=true)(hc:SV S c (.bool b))(hx:S.op x = .bool true)(hy:S.op y = .cnd (g&&(b == false)) (.bool z)):IOp P O N o S (S.set t (.bool (b||z))) :=
 aAr ho hd ht hc (fun h=>by subst h; simpa using sv hx) (fun h=>by subst h; subst hg; simpa using svc hy rfl)

theorem wD{st dt:At}{x:Am}{k k':IntKind}{a b:Int}(ho:o.op = .convert st dt x)(hd:o.dst=some t)(ht:t<N)(hs:∃ u,P.underlying st=some u)(hu:P.underlying dt=some (.int k'))(hx:SV S x (.int k a))(hb:k'.wrap a=b) :
 IOp P O N o S (S.set t (.int k' b)) :=
 kG hd ht fun E β ac hrel=>by
  obtain ⟨u,hs⟩:=hs;refine ⟨.int k' b,?_,.int _ _ _⟩;subst hb;cases u <;> simp [execOp,ho,lS (hx.rd hrel),convert,run_underlying hs,run_underlying hu,Conv.intToInt]

end
end Go.IL
open _root_.Array renaming getElem?_eq_some_iff → Cy
open Go.IL.RdL renaming mono → AW
open Nat renaming le_trans → BG,lt_of_lt_of_le → BH
open _root_ renaming absurd → Ay
namespace Go.IL

def aGQ(O:bZ)(E:Env)(β:bY)(b:Nat):Ent→Prop
 | .none | .fresh=>False
 | .blk e ds=>∃ vs sp,E.w.heap[b]? = some (.cells (Cw (vs++sp)) e (0,0))∧(∀ o,E.X b o)∧RdL E β vs ds
 | .tail e sz n=>∃ c,E.w.heap[b]? = some (.cells c e (0,0))∧∀ o,n*sz≤o→E.X b o
 | .loop lk ds st pend=>∃ r,E.w.heap[b]? = some (.loop r)∧(∀ o,E.X b o)∧r.params=(O.lc lk).1∧r.assign=(O.lc lk).2.1∧r.body=(O.lc lk).2.2∧r.state=st∧r.pending=pend∧O.lv lk=b∧RdL E β r.tmps.toList ds
 | .kept ..=>False
 | .mp ks ds=>∃ es cl,E.w.heap[b]? = some (.map es cl)∧(∀ o,E.X b o)∧es.toList.map (·.key)=ks.map (fun n=>.int .i64 n)∧RdL E β (es.toList.map (·.val)) ds

theorem aGQ.at{O:bZ}{E:Env}{β:bY}{b id:Nat}{e:Ent}(h:aGQ O E β b e)(hb:β id=some b)(ho:O.own b):qX O E β id e:=by
 cases e with
 | none=>exact h.elim
 | fresh=>exact h.elim
 | blk e ds=>obtain ⟨vs,sp,h1,h2,h3⟩:=h; exact .inr ⟨b,vs,sp,hb,ho,h1,h2,h3⟩
 | tail e sz n=>obtain ⟨c,h1,h2⟩:=h; exact .inr ⟨b,c,hb,ho,h1,h2⟩
 | loop lk ds st pend=>obtain ⟨r,h1,h2⟩:=h; exact ⟨b,r,hb,ho,h1,h2⟩
 | kept k ds=>exact h.elim
 | mp ks ds=>obtain ⟨es,cl,h1,h2⟩:=h; exact ⟨b,es,cl,hb,ho,h1,h2⟩

theorem sZ{O:bZ}{E:Env}{β:bY}{id b:Nat}{e:At}{ds:List D}(h:qX O E β id (.blk e ds))(hb:β id=some b) :
 ∃ vs sp,O.own b∧E.w.heap[b]? = some (.cells (Cw (vs++sp)) e (0,0))∧(∀ o,E.X b o)∧RdL E β vs ds:=by
 rcases h with ⟨h1,_⟩ | ⟨b',vs,sp,h1,h2,h3,h4,h5⟩
 · rw [hb] at h1; cases h1
 · rw [hb] at h1; cases h1; exact ⟨vs,sp,h2,h3,h4,h5⟩

structure Step (O:bZ) (E E':Env) (b:Nat):Prop where
 os:E'.w.os=E.w.os
 tape:E'.w.tape=E.w.tape
 output:E'.w.output=E.w.output
 size:E.w.heap.size≤E'.w.heap.size
 lt:b<E'.w.heap.size
 own:O.own b
 block:∀ k,k<E.w.heap.size→k≠b→E'.w.heap[k]? = E.w.heap[k]?
 X:∀ k o,k≠b→(E'.X k o↔E.X k o)
 dfr:∀ ds,E.w.heap[b]? ≠ some (.deferred ds)

theorem World.cell_block{w w':World}{b o:Nat}(h:w'.heap[b]? = w.heap[b]?):w'.cell? ⟨b,o,none⟩=w.cell? ⟨b,o,none⟩:=by
 simp [World.cell?,h]

theorem dR{w:World}{b:Nat}{o:Obj}(h:w.heap[b]? = some o):b<w.heap.size:=(Cy.1 h).1

theorem Step.le{O:bZ}{E E':Env}{b:Nat}(h:Step O E E' b)(hc:∀ o v,E.w.cell? ⟨b,o,none⟩=some v→¬ E.X b o→E'.w.cell? ⟨b,o,none⟩=some v∧¬ E'.X b o)(hz:∀ (c:Array AG) (e:At) (f:Nat×Nat),E.w.heap[b]? = some (Obj.cells c e f)→∃ (c':Array AG) (f':Nat×Nat),E'.w.heap[b]? = some (Obj.cells c' e f')∧c'.size=c.size):E.le E':=by
 constructor
 · intro k o v h1 h2
   by_cases hk:k=b
   · subst hk; exact hc o v h1 h2
   · have hlt:k<E.w.heap.size:=World.block_lt_of_cell? _ _ h1;exact ⟨(World.cell_block (h.block k hlt hk)).trans h1,fun h3=>h2 ((h.X k o hk).1 h3)⟩
 · intro k c e f h1
   by_cases hk:k=b
   · subst hk; exact hz c e f h1
   · exact ⟨c,f,(h.block k (dR h1) hk).trans h1,rfl⟩

theorem uJ.step{O:bZ}{E E':Env}{b:Nat}{ds:List Deferred}(h:uJ O E ds)(hs:Step O E E' b):uJ O E' ds:=h.mono fun k h1=>by
 by_cases hk:k=b
 · subst hk; exact Ay h1 (hs.dfr _)
 · exact (hs.block k (dR h1) hk).trans h1
theorem HOk.nodef{O:bZ}{E:Env}{β:bY}{H:Nat→Ent}(h:HOk O E β H){j b:Nat}(hh:(H j).held=true)(hb:β j=some b)(ds:Ag (List Deferred)):E.w.heap[b]? ≠ some (.deferred ds):=by
 intro hx;have he:=h.ent j;cases hH:H j with
 | none=>rw [hH] at hh; cases hh
 | fresh=>rw [hH] at hh; cases hh
 | kept k ds=>rw [hH] at hh; cases hh
 | blk e ds =>
   rw [hH] at he
   rcases he with ⟨h3,_⟩ | ⟨k,vs,sp,h3,_,h5,_⟩
   · rw [hb] at h3; cases h3
   · rw [hb] at h3; cases h3; rw [hx] at h5; cases h5
 | tail e sz n =>
   rw [hH] at he
   rcases he with ⟨h3,_⟩ | ⟨k,c,h3,_,h5,_⟩
   · rw [hb] at h3; cases h3
   · rw [hb] at h3; cases h3; rw [hx] at h5; cases h5
 | loop lk ds st pend =>
   rw [hH] at he;obtain ⟨k,r,h3,_,h5,_⟩:=he;rw [hb] at h3; cases h3; rw [hx] at h5; cases h5
 | mp ks ds =>
   rw [hH] at he;obtain ⟨k,es,cl,h3,_,h5,_⟩:=he;rw [hb] at h3; cases h3; rw [hx] at h5; cases h5
theorem HOk.own{O:bZ}{E:Env}{β:bY}{H:Nat→Ent}(h:HOk O E β H){j b:Nat}(hh:(H j).held=true)(hb:β j=some b):O.own b:=by
 have he:=h.ent j;cases hH:H j with
 | none=>rw [hH] at hh; cases hh
 | fresh=>rw [hH] at hh; cases hh
 | kept k ds=>rw [hH] at hh; cases hh
 | blk e ds=>rw [hH] at he; obtain ⟨_,_,g2,_⟩:=sZ he hb; exact g2
 | tail e sz n =>
   rw [hH] at he
   rcases he with ⟨h3,_⟩ | ⟨k,c,h3,h4,_⟩
   · rw [hb] at h3; cases h3
   · rw [hb] at h3; cases h3; exact h4
 | loop lk ds st pend =>
   rw [hH] at he;obtain ⟨k,r,h3,h4,_⟩:=he;rw [hb] at h3; cases h3; exact h4
 | mp ks ds =>
   rw [hH] at he;obtain ⟨k,es,cl,h3,h4,_⟩:=he;rw [hb] at h3; cases h3; exact h4
theorem HOk.lt{O:bZ}{E:Env}{β:bY}{H:Nat→Ent}(h:HOk O E β H){j b:Nat}(hh:(H j).held=true)(hb:β j=some b):b<E.w.heap.size:=by
 have he:=h.ent j;cases hH:H j with
 | none=>rw [hH] at hh; cases hh
 | fresh=>rw [hH] at hh; cases hh
 | kept k ds=>rw [hH] at hh; cases hh
 | blk e ds =>
   rw [hH] at he
   rcases he with ⟨h3,_⟩ | ⟨k,vs,sp,h3,_,h5,_⟩
   · rw [hb] at h3; cases h3
   · rw [hb] at h3; cases h3; exact dR h5
 | tail e sz n =>
   rw [hH] at he
   rcases he with ⟨h3,_⟩ | ⟨k,c,h3,_,h5,_⟩
   · rw [hb] at h3; cases h3
   · rw [hb] at h3; cases h3; exact dR h5
 | loop lk ds st pend =>
   rw [hH] at he;obtain ⟨k,r,h3,_,h5,_⟩:=he;rw [hb] at h3; cases h3; exact dR h5
 | mp ks ds =>
   rw [hH] at he;obtain ⟨k,es,cl,h3,_,h5,_⟩:=he;rw [hb] at h3; cases h3; exact dR h5

theorem HOk.put{O:bZ}{E E':Env}{β β':bY}{H H':Nat→Ent}{b id:Nat}(h:HOk O E β H)(hs:Step O E E' b)(hle:E.le E')(hβ:β.le β')(hother:∀ j,j≠id→(H' j=H j∧(β' j=β j))∨H' j = .none)(hapart:∀ j,j≠id→(H' j).held=true→β j≠some b)(hid:β' id=some b)(hent:aGQ O E' β' b (H' id))(_hx:∀ o,E'.X b o→True):HOk O E' β' H' where
 os:=hs.os.trans h.os
 tab:=h.tab
 tape:=hs.tape.trans h.tape
 output:=hs.output.trans h.output
 size:=BG h.size hs.size
 mbs:=h.mbs
 block k hk hf:=by
  have hne:k≠b:=by
   rintro rfl
   rcases hs.own with h1 | h1
   · omega
   · exact hf h1
  exact (hs.block k (by have:=h.size; omega) hne).trans (h.block k hk hf)
 xlt k o hX:=by
  by_cases hk:k=b
  · subst hk; exact hs.lt
  · exact BH (h.xlt k o ((hs.X k o hk).1 hX)) hs.size
 xold k o hk hf:=by
  have hne:k≠b:=by
   rintro rfl
   rcases hs.own with h1 | h1
   · omega
   · exact hf h1
  exact (hs.X k o hne).trans (h.xold k o hk hf)
 ent j := by
  by_cases hj:j=id
  · subst hj; exact hent.at hid hs.own
  · rcases hother j hj with ⟨h1,h2⟩ | h1
    · have hap:=hapart j hj;rw [h1] at hap ⊢;have he:=h.ent j;cases hH:H j with
      | none=>trivial
      | fresh=>rw [hH] at he; exact h2.trans he
      | blk e ds =>
        rw [hH] at he hap
        rcases he with ⟨h3,h4⟩ | ⟨k,vs,sp,h3,h4,h5,h6,h7⟩
        · exact .inl ⟨h2.trans h3,h4⟩
        · have hne:k≠b:=fun e=>hap rfl (e ▸ h3)
          exact .inr ⟨k,vs,sp,h2.trans h3,h4,(hs.block k (dR h5) hne).trans h5,fun o=>(hs.X k o hne).2 (h6 o),AW hle hβ h7⟩
      | tail e sz n =>
        rw [hH] at he hap
        rcases he with ⟨h3,h4⟩ | ⟨k,c,h3,h4,h5,h6⟩
        · exact .inl ⟨h2.trans h3,h4⟩
        · have hne:k≠b:=fun e=>hap rfl (e ▸ h3)
          exact .inr ⟨k,c,h2.trans h3,h4,(hs.block k (dR h5) hne).trans h5,fun o ho=>(hs.X k o hne).2 (h6 o ho)⟩
      | loop lk ds st pend =>
        rw [hH] at he hap;obtain ⟨k,r,h3,h4,h5,h6,h7,h8,h9,h10,h11,h12⟩:=he;have hne:k≠b:=fun e=>hap rfl (e ▸ h3)
        exact ⟨k,r,h2.trans h3,h4,(hs.block k (dR h5) hne).trans h5,fun o=>(hs.X k o hne).2 (h6 o),h7,h8,h9,h10,h11,h12.1,AW hle hβ h12.2⟩
      | mp ks ds =>
        rw [hH] at he hap;obtain ⟨k,es,cl,h3,h4,h5,h6,h7,h8⟩:=he;have hne:k≠b:=fun e=>hap rfl (e ▸ h3)
        exact ⟨k,es,cl,h2.trans h3,h4,(hs.block k (dR h5) hne).trans h5,fun o=>(hs.X k o hne).2 (h6 o),h7,AW hle hβ h8⟩
      | kept n ds =>
        rw [hH] at he;refine ⟨AW hle hβ he.1,fun c hc=>?_⟩;have h5:=he.2 c hc
        by_cases hcb:c=b
        · subst hcb; exact Ay h5 (hs.dfr _)
        · exact (hs.block c (dR h5) hcb).trans h5
    · rw [h1]; trivial
 le:=h.le.trans hle
 gid:=h.gid
 given i b hi:=hβ _ _ (h.given i b hi)
 inj i j k hi hj h1 h2:=by
  by_cases hii:i=id
  · by_cases hjj:j=id
    · rw [hii,hjj]
    · subst hii;have:k=b:=by rw [hid] at h1; exact (Option.some.inj h1).symm
      subst this;have hap:=hapart j hjj hj
      rcases hother j hjj with ⟨_,h4⟩ | h3
      · exact Ay (h4 ▸ h2) hap
      · rw [h3] at hj; cases hj
  · by_cases hjj:j=id
    · subst hjj;have:k=b:=by rw [hid] at h2; exact (Option.some.inj h2).symm
      subst this;have hap:=hapart i hii hi
      rcases hother i hii with ⟨_,h4⟩ | h3
      · exact Ay (h4 ▸ h1) hap
      · rw [h3] at hi; cases hi
    · rcases hother i hii with ⟨h3,h4⟩ | h3
      · rcases hother j hjj with ⟨h5,h6⟩ | h5
        · exact h.inj i j k (h3 ▸ hi) (h5 ▸ hj) (h4 ▸ h1) (h6 ▸ h2)
        · rw [h5] at hj; cases hj
      · rw [h3] at hi; cases hi

end Go.IL
open _root_.Array renaming getD_eq_getD_getElem? → BI,getElem?_setIfInBounds_self → BZ
open Go.IL.D renaming ofVal → DO
open Go.IL.Env.le renaming refl → Co
open Go.IL.HOk renaming put → Dd
open Go.IL.Rd renaming mono → CA
open Go.IL.St renaming ent → BA,get → Cf,set → Bo,setE → Br
open Iff renaming rfl → Dy
open List renaming append_nil → Ax,drop_append_of_le_length → Bn,getElem?_append_left → AJ,getElem?_drop → Ep,getElem?_take → Ca,head?_drop → EN,headD_eq_head?_getD → CU,length_drop → BV,length_take → Bm,take_append_of_le_length → AT
open Nat renaming add_zero → CP,lt_irrefl → BU,min_eq_left → Cg
open Option renaming getD_some → CM
namespace Go.IL

def D.boxable:D→Bool
 | .dead | .tuple _ | .cnd _ _=>false
 | _=>true

theorem nR(b off k:Nat):(⟨b,off,none⟩:Addr).add k=⟨b,off+k,none⟩:=by
 unfold Addr.add; split
 · rename_i h; subst h; rfl
 · rfl

theorem wK{E:Env}{β:bY}{v:Value}{d:D}(h:Rd E β v d)(hb:d.boxable=true):RdL E β v.cells.toList d.cells:=by
 cases h with
 | dead=>cases hb
 | tuple=>cases hb
 | cnd=>cases hb
 | agg _ vs cs h=>simpa [Value.cells,D.cells] using h
 | _ =>
   simp only [Value.cells,D.cells];refine .cons ?_ (.nil _);constructor <;> assumption

theorem RdL.length{E:Env}{β:bY}:∀ {vs:List AG} {ds:List D},RdL E β vs ds→vs.length=ds.length
 | _,_,.nil _=>rfl
 | _,_,.cons _ t=>by simp [RdL.length t]
theorem RdL.append{E:Env}{β:bY}{vs us:List AG}{ds es:List D}(h:RdL E β vs ds)(k:RdL E β us es):RdL E β (vs++us) (ds++es):=by
 induction vs generalizing ds with
 | nil=>cases h; exact k
 | cons v vs ih=>cases h with | cons h t=>exact .cons h (ih t)
theorem RdL.take{E:Env}{β:bY}(n:Nat):∀ {vs:List AG} {ds:List D},RdL E β vs ds→RdL E β (vs.take n) (ds.take n):=by
 induction n with
 | zero=>intro vs ds _; simpa using RdL.nil β
 | succ n ih=>intro vs ds h; cases h with
   | nil=>simpa using RdL.nil β
   | cons h t=>simpa using RdL.cons h (ih t)
theorem RdL.drop{E:Env}{β:bY}(n:Nat):∀ {vs:List AG} {ds:List D},RdL E β vs ds→RdL E β (vs.drop n) (ds.drop n):=by
 induction n with
 | zero=>intro vs ds h; simpa using h
 | succ n ih=>intro vs ds h; cases h with
   | nil=>simpa using RdL.nil β
   | cons h t=>simpa using ih t
theorem RdL.get{E:Env}{β:bY}:∀ {vs:List AG} {ds:List D} (n:Nat) {v:AG} {d:D},RdL E β vs ds→vs[n]? = some v→ds[n]? = some d→Rd E β v d
 | _,_,n,_,_,.nil _,h,_=>by simp at h
 | _,_,0,_,_,.cons h _,h1,h2=>by simp at h1 h2; subst h1; subst h2; exact h
 | _,_,n+1,_,_,.cons _ t,h1,h2=>RdL.get n t (by simpa using h1) (by simpa using h2)
def D.one:D→Bool
 | .agg _=>false
 | d=>d.boxable
theorem rd_one{E:Env}{β:bY}{v:Value}{d:D}(h:Rd E β v d)(ho:d.one=true):v.oneCell'=true:=by
 cases h <;> first | rfl | (simp [D.one,D.boxable] at ho)
theorem aBG{E:Env}{β:bY}:∀ {vs:List AG} {ds:List D},RdL E β vs ds→ds.all D.one=true→∀ v∈vs,v.oneCell'=true
 | _,_,.nil _,_,v,hv=>by cases hv
 | _,_,.cons h t,ho,v,hv=>by
   simp only [List.all_cons,Av] at ho;cases hv with
   | head=>exact rd_one h ho.1
   | tail _ hv=>exact aBG t ho.2 v hv

def TI(P:Program)(t:TypeId)(z:Option AG)(size bytes:Nat):Prop:=(P.info? t).map (fun i=>(i.zero,i.size,i.bytes))=some (z,size,bytes)
theorem TI.at{P:Program}{t:TypeId}{z:Option AG}{size bytes:Nat}(h:TI P t z size bytes):∃ i,P.info? t=some i∧i.zero=z∧i.size=size∧i.bytes=bytes:=by
 unfold TI at h;cases hi:P.info? t with
 | none=>simp [hi] at h
 | some i=>simp [hi] at h; exact ⟨i,rfl,h.1,h.2.1,h.2.2⟩
theorem TI.run_size{P:Program}{t:TypeId}{z:Option AG}{size bytes:Nat}(h:TI P t z size bytes)(w:World):(sizeOf t).run P w = .ok size w:=by
 obtain ⟨i,hi,_,hs,_⟩:=h.at;simp [sizeOf,typeInfo,hi,hs]

section
variable {P:Ba} {O:bZ} {N:Nat} {S S':St} {o:Oper} {t:Nat}

theorem aHM{e:TypeId}{id:Nat}{ds:List D}(hd:o.dst=some t)(ht:t<N)(hf:S.ent id = .fresh)(h:∀ E β a,Rel O N S E β a→∃ vs:List AG,(execOp a.eval o).run P E.w = .ok (.value (.pointer (some ⟨E.w.heap.size,0,none⟩))) (E.w.alloc (.cells vs.toArray e))∧RdL E β vs ds) :
 IOp P O N o S ((S.setE id (.blk e ds)).set t (.ref id 0)):=by
 intro E β a hr next Q hn;obtain ⟨vs,hrun,hv⟩:=h E β a hr;unfold Oper.wp;rw [hrun];simp only [Oper.upon,hd];have hfr:β id=none:=by have:=hr.h.ent id; rw [hf] at this; exact this
 let E':Env:=⟨E.w.alloc (.cells vs.toArray e),fun b o=>b=E.w.heap.size∨E.X b o⟩
 let β':bY:=fun j=>if j=id then some E.w.heap.size else β j
 have hβ:β.le β':=fun j b hj=>by
  by_cases hji:j=id
  · subst hji; rw [hfr] at hj; cases hj
  · simp [β',hji,hj]
 have hs:Step O E E' E.w.heap.size :=
  ⟨rfl,rfl,rfl,by simp [E'],by simp [E'],.inl hr.h.size,fun k hk _=>heap_alloc_old _ _ hk,fun k o hk=>by simp [E',hk],fun _ h=>BU _ (dR h)⟩
 have hle:E.le E':=hs.le (fun o v h1 _=>by have:=World.block_lt_of_cell? _ _ h1; simp at this) (fun c e f h1=>by have:=dR h1; simp at this);refine hn E' β' _ ⟨by simp [Act.put,hr.n],hr.nd.step hs,?_,?_⟩
 · refine Dd hr.h hs hle hβ ?_ ?_ (id:=id) (by simp [β']) ?_ (fun _ _=>trivial)
   · intro j hj; left; constructor
     · simp [BA,entL,Br,Bo,aV,Ne.symm hj]
     · simp [β',hj]
   · intro j hj hheld hb;have:(S.ent j).held=true:=by simpa [BA,entL,Br,Bo,aV,Ne.symm hj] using hheld
     exact BU _ (hr.h.lt this hb)
   · simp only [BA,entL,Br,Bo,aV,if_true];exact ⟨vs,[],by rw [Ax]; exact heap_alloc_new _ _,fun o=>.inl rfl,AW hle hβ hv⟩
 · intro s;have hts:t<a.tmps.size:=hr.n ▸ ht
   by_cases hst:t=s
   · subst hst;simp only [Act.put,Cf,Bo,aV,if_true,BI,BZ,hts,CM];exact .ref _ _ _ _ (by simp [β'])
   · have:=CA hle hβ (hr.sl s);simpa [Act.put,Cf,Bo,Br,aV,hst,Bf] using this

theorem iop_box{e:TypeId}{x:Operand}{d:D}(id:Nat)(ho:o.op = .box e x)(hd:o.dst=some t)(ht:t<N)(hf:S.ent id = .fresh)(hx:SV S x d)(hb:d.boxable=true) :
 IOp P O N o S ((S.setE id (.blk e d.cells)).set t (.ref id 0)) :=
 aHM hd ht hf fun E β a hr=>⟨(a.eval x).cells.toList,by simp [execOp,ho,Instr.box,newVar,newRow],wK (hx.rd hr) hb⟩

theorem aHW{e:TypeId}{z:Value}{size bytes:Nat}(id:Nat)(ho:o.op = .alloc e)(hd:o.dst=some t)(ht:t<N)(hf:S.ent id = .fresh)(hz:TI P e (some z) size bytes)(hb:(DO z).boxable=true) :
 IOp P O N o S ((S.setE id (.blk e (DO z).cells)).set t (.ref id 0)) :=
 aHM hd ht hf fun E β a hr=>by
  obtain ⟨i,hi,hz,_⟩:=hz.at;exact ⟨z.cells.toList,by simp [execOp,ho,Instr.alloc,zeroValue,typeInfo,hi,hz,newVar,newRow],wK (tW E β z) hb⟩

theorem aAS{w:World}{b off n:Nat}{vs:List AG}{e:At}{f:Nat×Nat}(h:w.heap[b]? = some (.cells vs.toArray e f))(hn:off+n≤vs.length) :
 (loadCells ⟨b,off,none⟩ n).run P w = .ok ((vs.drop off).take n).toArray w:=by
 have:=run_loadCells_list (P:=P) w ⟨b,off,none⟩ ((vs.drop off).take n) (fun j v hj=>by
  rw [nR,cell_of_row w b _ _ e f h];rw [Ca] at hj;split at hj
  · simpa [Ep] using hj
  · cases hj)
 rw [Bm,BV,Cg (by omega)] at this;exact this

def kT(P:Program)(T:TypeId):Bool:=match P.underlying T with | some (.struct _) | some (.array _ _)=>true | _=>false
theorem sG{T:TypeId}{u:TypeDesc}(h:P.underlying T=some u)(w:World):(isAgg T).run P w = .ok (kT P T) w:=by
 simp only [isAgg,Sem.run_bind,run_underlying h,Result.andThen_ok,kT,h];cases u <;> rfl

def D.load(agg:Bool)(n:Nat)(cs:List D):D:=if agg then .agg (cs.take n) else cs.headD .dead

theorem zM{α:Type}{vs sp:List α}{off n:Nat}(h:off+n≤vs.length):((vs++sp).drop off).take n=(vs.drop off).take n:=by
 rw [Bn (by omega),AT (by simp; omega)]

theorem aAa{T:TypeId}{x:Operand}{u:TypeDesc}{z:Option AG}{size bytes:Nat}{id off:Nat}{e:At}{ds:List D}{d:D}(ho:o.op = .load T x)(hd:o.dst=some t)(ht:t<N)(hu:P.underlying T=some u)(hi:TI P T z size bytes)(hx:SV S x (.ref id off))(he:S.ent id = .blk e ds)(hn:off+size≤ds.length)(h1:0<size)(hdd:D.load (kT P T) size (ds.drop off)=d):IOp P O N o S (S.set t d) :=
 kG hd ht fun E β a hr=>by
  have hv:=hx.rd hr;have hent:=hr.h.ent id;rw [he] at hent;generalize hev:a.eval x=v at hv;cases hv with
  | ref _ _ _ b' hb' =>
    obtain ⟨vs,sp,_,hh,_,hl⟩:=sZ hent hb';have hb:=hb';have hlen:=hl.length;subst hdd;simp only [D.load];cases hag:kT P T with
    | true =>
      refine ⟨.agg ((vs.drop off).take size).toArray,?_,?_⟩
      · have hlc:=aAS (P:=P) hh (show off+size≤(vs++sp).length by simp; omega);rw [zM (by omega)] at hlc;simp [execOp,ho,hev,Instr.loadAt,Instr.sureAddr,loadVar,sG hu,hag,hi.run_size,hlc]
      · exact .agg _ _ _ ((hl.drop off).take size)
    | false =>
      have hlt:off<vs.length:=by omega
      have hcell:E.w.cell? ⟨b',off,none⟩=some vs[off]:=by rw [cell_of_row _ _ _ _ _ _ hh]; simp [AJ,hlt]
      refine ⟨vs[off],?_,?_⟩
      · simp [execOp,ho,hev,Instr.loadAt,Instr.sureAddr,loadVar,sG hu,hag,hcell]
      · have hlt':off<ds.length:=by omega
        have:=hl.get off (v:=vs[off]) (d:=ds[off]) (by simp [hlt]) (by simp [hlt']);simpa [CU,EN,hlt'] using this

theorem zF{T:TypeId}{x:Operand}{u:TypeDesc}{z:Option AG}{size bytes:Nat}{cs:List D}{d:D}(ho:o.op = .load T x)(hd:o.dst=some t)(ht:t<N)(hu:P.underlying T=some u)(hi:TI P T z size bytes)(hx:SV S x (.fptr cs))(hn:size≤cs.length)(h1:0<size)(hdd:D.load (kT P T) size cs=d):IOp P O N o S (S.set t d) :=
 kG hd ht fun E β a hr=>by
  have hv:=hx.rd hr;generalize hev:a.eval x=v at hv;cases hv with
  | fptr _ b off vs _ hrow hl =>
    have hlen:=hl.length;subst hdd;simp only [D.load];cases hag:kT P T with
    | true =>
      refine ⟨.agg (vs.take size).toArray,?_,?_⟩
      · have:=run_loadCells_list (P:=P) E.w ⟨b,off,none⟩ (vs.take size) (fun j v hj=>by
         rw [nR];rw [Ca] at hj;split at hj
         · exact (hrow j v hj).1
         · cases hj)
        rw [Bm,Cg (by omega)] at this;simp [execOp,ho,hev,Instr.loadAt,Instr.sureAddr,loadVar,sG hu,hag,hi.run_size,this]
      · exact .agg _ _ _ (AW (Co _) (fun _ _ h=>by cases h) (hl.take size))
    | false =>
      have hlt:0<vs.length:=by omega
      have hcell:=(hrow 0 vs[0] (by simp [hlt])).1;refine ⟨vs[0],?_,?_⟩
      · simp only [CP] at hcell;simp [execOp,ho,hev,Instr.loadAt,Instr.sureAddr,loadVar,sG hu,hag,hcell]
      · have hlt':0<cs.length:=by omega
        have:=AW (β':=β) (Co E) (fun _ _ h=>by cases h) hl;have:=this.get 0 (v:=vs[0]) (d:=cs[0]) (by simp [hlt]) (by simp [hlt']);simpa [CU,List.head?_eq_getElem?,hlt'] using this

def jG(ds:List D)(off:Nat)(new:List D):List D:=ds.take off++new++ds.drop (off+new.length)

theorem aC2{T:TypeId}{x y:Am}{z:Ag AG}{size bytes:Nat}{id off:Nat}{e:At}{ds ds':List D}{d:D}(ho:o.op = .store T x y)(hd:o.dst=none)(hi:TI P T z size bytes)(hx:SV S x (.ref id off))(he:S.ent id = .blk e ds)(hy:SV S y d)(hb:d.boxable=true)(hsz:d.cells.length=size)(h1:d.cells.all D.one=true)(hn:off+size≤ds.length)(hds:jG ds off d.cells=ds'):IOp P O N o S (S.setE id (.blk e ds')):=by
 intro E β a hr next Q hn';have hv:=hx.rd hr;have hent:=hr.h.ent id;rw [he] at hent;generalize hev:a.eval x=v at hv;cases hv with
 | ref _ _ _ b hβb =>
   obtain ⟨vs,sp,hown,hh,hX,hl⟩:=sZ hent hβb;have hc:=wK (hy.rd hr) hb;generalize hu:(a.eval y).cells.toList=us at hc;have hus:(a.eval y).cells=us.toArray:=by rw [←hu]
   have hlu:us.length=size:=by rw [hc.length,hsz]
   have hlen:=hl.length;have hst:=run_storeCells_at P b off e us 0 (vs++sp).toArray E.w hh (by simp; omega) (aBG hc h1);simp only [CP] at hst;unfold Oper.wp;have hrun:(execOp a.eval o).run P E.w = .ok .skip (E.w.setRow b ((vs.take off++us++vs.drop (off+us.length))++sp).toArray):=by
    simp [execOp,ho,hev,Instr.storeAt,Instr.sureAddr,storeVar,hus,hi.run_size,hlu];have h5:=hst;have e1:(vs++sp).take off=vs.take off:=AT (by omega);have e2:(vs++sp).drop (off+size)=vs.drop (off+size)++sp:=Bn (by omega);simp only [hlu] at h5;rw [e1,e2] at h5;simp at h5;simp [h5]
   rw [hrun];simp only [Oper.upon,hd,Act.put]
   let E':Env:=⟨E.w.setRow b ((vs.take off++us++vs.drop (off+us.length))++sp).toArray,E.X⟩
   have hs:Step O E E' b:=⟨rfl,rfl,rfl,by simp [E'],by simpa [E'] using dR hh,hown,fun k _ hk=>setRow_other _ _ _ _ hk,fun _ _ _=>Dy,fun _ h=>by first | (rw [hc] at h; cases h) | (rw [hh] at h; cases h)⟩;have hle:E.le E':=hs.le (fun o v _ h2=>Ay (hX o) h2) (fun c e' f h3=>by
    rw [hh] at h3; cases h3;exact ⟨_,_,setRow_heap _ _ _ _ _ _ hh,by simp; omega⟩)
   refine hn' E' β a ⟨hr.n,hr.nd.step hs,?_,fun s=>CA hle (bY.le.refl _) (hr.sl s)⟩;refine Dd hr.h hs hle (bY.le.refl _) ?_ ?_ hβb ?_ (fun _ _=>trivial)
   · intro j hj; left; exact ⟨by simp [BA,entL,Br,aV,Ne.symm hj],rfl⟩
   · intro j hj hheld hbj;have:(S.ent j).held=true:=by simpa [BA,entL,Br,aV,Ne.symm hj] using hheld
     exact hj (hr.h.inj j id b this (by rw [he]; rfl) hbj hβb)
   · simp only [BA,entL,Br,aV,if_true];refine ⟨_,sp,setRow_heap _ _ _ _ _ _ hh,hX,?_⟩;rw [←hds,jG];have h4:us.length=d.cells.length:=hc.length;rw [h4];exact AW hle (bY.le.refl _) (((hl.take off).append hc).append (hl.drop _))

end
end Go.IL
open Go.IL.D renaming flat → Ac,load → Ea
open List renaming drop_length_add_append → Ef,flatMap_cons → CK,getElem?_eq_some_iff → Aj,length_append → AO,length_cons → AR,mem_of_getElem? → Eb
open Nat renaming add_assoc → Ed,add_comm → EO,add_mul → Bw,one_mul → CL
namespace Go.IL
section
variable {P:Ba} {O:bZ} {N:Nat} {S S':St} {o:Oper} {t:Nat}

theorem aDY{E:Env}{β:bY}{v:Value}{id off:Nat}(h:Rd E β v (.ref id off)):∃ b,β id=some b∧v = .pointer (some ⟨b,off,none⟩):=by
 cases h with | ref _ _ _ b hb=>exact ⟨b,hb,rfl⟩
theorem rd_fptr{E:Env}{β:bY}{v:Value}{cs:List D}(h:Rd E β v (.fptr cs)):∃ b off vs,v = .pointer (some ⟨b,off,none⟩)∧E.row b off vs∧RdL E β0 vs cs:=by
 cases h with | fptr _ b off vs _ h1 h2=>exact ⟨b,off,vs,rfl,h1,h2⟩
theorem rd_agg{E:Env}{β:bY}{v:Value}{cs:List D}(h:Rd E β v (.agg cs)):∃ vs:List AG,v = .agg vs.toArray∧RdL E β vs cs:=by
 cases h with | agg _ vs _ h=>exact ⟨vs,rfl,h⟩
theorem aIa{E:Env}{β:bY}{v:Value}{cs:List D}(h:Rd E β v (.tuple cs)):∃ vs:List AG,v = .tuple vs.toArray∧RdL E β vs cs:=by
 cases h with | tuple _ vs _ h=>exact ⟨vs,rfl,h⟩
theorem aFs{E:Env}{β:bY}{v:Value}{f:FuncId}{cs:List D}(h:Rd E β v (.fn f cs)):∃ vs:List AG,v = .func (.func f) #[] vs.toArray∧RdL E β vs cs:=by
 cases h with | fn _ _ vs _ h=>exact ⟨vs,rfl,h⟩
theorem rd_mv{E:Env}{β:bY}{v:Value}{f:FuncId}{cs:List D}(h:Rd E β v (.mv f cs)):∃ us:List AG,v = .func (.func f) us.toArray #[]∧RdL E β us cs:=by
 cases h with | mv _ _ us _ h=>exact ⟨us,rfl,h⟩
theorem Rd.up{E:Env}{β:bY}{v:Value}{d:D}(h:Rd E β0 v d):Rd E β v d:=CA (Co _) (fun _ _ h=>by cases h) h

theorem aN{x:Operand}{id off:Nat}(ho:o.op = .nilCheck x)(hd:o.dst=some t)(ht:t<N)(hx:SV S x (.ref id off)):IOp P O N o S (S.set t (.ref id off)) :=
 kG hd ht fun E β a hr=>by
  obtain ⟨b,hb,hev⟩:=aDY (hx.rd hr);exact ⟨.pointer (some ⟨b,off,none⟩),by simp [execOp,ho,hev],.ref _ _ _ _ hb⟩
theorem bs_size(l:List DC):(bs l).size=l.length:=by simp [bs,ByteArray.size]

theorem tV{E:Env}{β:bY}{v:Value}{f:Bool}{l:List D}(h:Rd E β v (.slice f l)) :
 (v = .slice none 0 0∧l=[])∨(∃ b off cap sz vs,v = .slice (some ⟨b,off,none⟩) l.length cap∧l.length≤cap∧(f=true→cap=l.length)∧(∀ d∈l,d.cells.length=sz)∧0<sz∧E.row b off vs∧RdL E β0 vs (Ac l))∨∃ ad cap,v = .slice (some ad) 0 cap∧l=[]:=by
 cases h with
 | slice _ b off len cap sz _ vs _ hl hc hf hz hsz hr hv=>subst hl; exact .inr (.inl ⟨b,off,cap,sz,vs,rfl,hc,hf,hz,hsz,hr,hv⟩)
 | nslice=>exact .inl ⟨rfl,rfl⟩
 | eslice _ ad cap _ _=>exact .inr (.inr ⟨ad,cap,rfl,rfl⟩)

theorem qQ{sz:Nat}:∀ {l:List D},(∀ d∈l,d.cells.length=sz)→(Ac l).length=l.length*sz
 | [],_=>by simp [Ac]
 | d::l,h=>by
   have h1:=h d (by simp);have h2:=qQ (l:=l) (fun d hd=>h d (by simp [hd]));simp only [Ac,CK,AO,AR] at h2 ⊢;rw [h1,h2,Bw,CL,EO]

theorem aEd{sz:Nat}:∀ {l:List D} (_:∀ d∈l,d.cells.length=sz) (n:Nat) (d:D),l[n]? = some d→((Ac l).drop (n*sz)).take sz=d.cells
 | [],_,n,d,h=>by simp at h
 | x::l,hz,0,d,h=>by
   simp at h; subst h;have h1:=hz x (by simp);simp [Ac,←h1]
 | x::l,hz,n+1,d,h=>by
   have h1:=hz x (by simp);have h2:=aEd (l:=l) (fun d hd=>hz d (by simp [hd])) n d (by simpa using h);simp only [Ac,CK] at h2 ⊢;rw [Bw,CL,EO,←h1,Ef,h1];exact h2

theorem Env.row.drop{E:Env}{b off:Nat}{vs:List AG}(h:E.row b off vs)(n:Nat):E.row b (off+n) (vs.drop n):=fun k v hk=>by
 rw [Ed]; exact h (n+k) v (by simpa [Ep] using hk)
theorem Env.row.take{E:Env}{b off:Nat}{vs:List AG}(h:E.row b off vs)(n:Nat):E.row b off (vs.take n):=fun k v hk=>by
 rw [Ca] at hk;split at hk
 · exact h k v hk
 · cases hk

theorem aBh{T e:At}{x y:Am}{f:Bool}{l:List D}{k:IntKind}{n:Int}{z:Ag AG}{size bytes:Nat}{d:D}{cs:List D}(ho:o.op = .indexAddr T x y)(hd:o.dst=some t)(ht:t<N)(hu:P.underlying T=some (.slice e))(hi:TI P e z size bytes)(hx:SV S x (.slice f l))(hy:SV S y (.int k n))(h0:0≤n)(hn:l[n.toNat]? = some d)(hcs:d.cells=cs)(hsz:cs.length=size) :
 IOp P O N o S (S.set t (.fptr cs)) :=
 kG hd ht fun E β a hr=>by
  have hlt:n.toNat<l.length:=(Aj.1 hn).1
  rcases tV (hx.rd hr) with ⟨_,rfl⟩ | ⟨b,off,cap,sz,vs,hev,hc,_,hz,hsp,hrow,hl⟩ | ⟨_,_,_,rfl⟩
  · simp at hlt
  rotate_left
  · simp at hlt
  · have hsz':sz=size:=by rw [←hsz,←hcs]; exact (hz d (Eb hn)).symm
    subst hsz';refine ⟨.pointer (some ⟨b,off+n.toNat*sz,none⟩),?_,?_⟩
    · have h1:=lS (hy.rd hr);have h2:n<(l.length:Int):=by omega
      simp [execOp,ho,hev,h1,Instr.indexAt,asIntOf,run_underlying hu,h0,h2,hi.run_size,nR]
    · rw [←hcs,←aEd hz n.toNat d hn];exact .fptr _ _ _ _ _ ((hrow.drop _).take _) ((hl.drop _).take _)

theorem fG{T:TypeId}{x:Operand}{i:Nat}{fs:Array Field}{F:Field}{z:Ag AG}{size bytes:Nat}{id off:Nat}(ho:o.op = .fieldAddr T x i)(hd:o.dst=some t)(ht:t<N)(hu:P.underlying T=some (.struct fs))(hf:fs[i]? = some F)(hi:TI P F.type z size bytes)(hs:0<size)(hx:SV S x (.ref id off)){off':Nat}(ho':off+F.offset=off'):IOp P O N o S (S.set t (.ref id off')) :=
 kG hd ht fun E β a hr=>by
  obtain ⟨b,hb,hev⟩:=aDY (hx.rd hr);refine ⟨.pointer (some ⟨b,off',none⟩),?_,.ref _ _ _ _ hb⟩;subst ho';have hne:¬ size=0:=by omega
  simp [execOp,ho,hev,Instr.fieldAt,run_underlying hu,hf,Instr.sureAddr,fieldPlace,hi.run_size,hne,nR]

theorem aZ{T:TypeId}{x:Operand}{i:Nat}{fs:Array Field}{F:Field}{z:Ag AG}{size bytes:Nat}{cs cs':List D}(ho:o.op = .fieldAddr T x i)(hd:o.dst=some t)(ht:t<N)(hu:P.underlying T=some (.struct fs))(hf:fs[i]? = some F)(hi:TI P F.type z size bytes)(hs:0<size)(hx:SV S x (.fptr cs))(hcs:(cs.drop F.offset).take size=cs'):IOp P O N o S (S.set t (.fptr cs')) :=
 kG hd ht fun E β a hr=>by
  obtain ⟨b,off,vs,hev,hrow,hl⟩:=rd_fptr (hx.rd hr);refine ⟨.pointer (some ⟨b,off+F.offset,none⟩),?_,?_⟩
  · have hne:¬ size=0:=by omega
    simp [execOp,ho,hev,Instr.fieldAt,run_underlying hu,hf,Instr.sureAddr,fieldPlace,hi.run_size,hne,nR]
  · rw [←hcs]; exact .fptr _ _ _ _ _ ((hrow.drop _).take _) ((hl.drop _).take _)

theorem rJ{T e:At}{len:Nat}{x y:Am}{k:IntKind}{n:Int}{z:Ag AG}{size bytes:Nat}{id off off':Nat}(ho:o.op = .indexAddr T x y)(hd:o.dst=some t)(ht:t<N)(hu:P.underlying T=some (.array len e))(hi:TI P e z size bytes)(hx:SV S x (.ref id off))(hy:SV S y (.int k n))(h0:0≤n)(hn:n.toNat<len)(ho':off+n.toNat*size=off') :
 IOp P O N o S (S.set t (.ref id off')) :=
 kG hd ht fun E β a hr=>by
  obtain ⟨b,hb,hev⟩:=aDY (hx.rd hr);refine ⟨.pointer (some ⟨b,off',none⟩),?_,.ref _ _ _ _ hb⟩;have h1:=lS (hy.rd hr);have h2:n<(len:Int):=by omega
  subst ho';simp [execOp,ho,hev,h1,Instr.indexAt,asIntOf,run_underlying hu,h0,h2,hi.run_size,nR,Instr.sureAddr]

theorem aC5{T e:At}{x:Am}{f:Bool}{l:List D}{n:Int}(ho:o.op = .call { callee:=.builtin .len,args:=#[x],argTypes:=#[T] })(hd:o.dst=some t)(ht:t<N)(hu:P.underlying T=some (.slice e))(hx:SV S x (.slice f l))(hn:(l.length:Int)=n):IOp P O N o S (S.set t (.int .i64 n)) :=
 kG hd ht fun E β a hr=>⟨.int .i64 n,by
  subst hn
  rcases tV (hx.rd hr) with ⟨hev,rfl⟩ | ⟨b,off,cap,sz,vs,hev,_⟩ | ⟨ad,cap,hev,rfl⟩ <;>
  simp [execOp,ho,resolve,invoke,builtin,Builtin.len_,run_underlying hu,hev,goInt],.int _ _ _⟩
theorem fV{x:Operand}{i:Nat}{cs:List D}{d:D}(ho:o.op = .extract x i)(hd:o.dst=some t)(ht:t<N)(hx:SV S x (.tuple cs))(hc:cs[i]? = some d):IOp P O N o S (S.set t d) :=
 kG hd ht fun E β a hr=>by
  obtain ⟨vs,hev,hl⟩:=aIa (hx.rd hr);have hlt:i<vs.length:=by rw [hl.length]; exact (Aj.1 hc).1
  refine ⟨vs[i],?_,hl.get i (by simp [hlt]) hc⟩;simp [execOp,ho,hev,Instr.extract,hlt]

theorem aIX{T:TypeId}{u:TypeDesc}{z:Option AG}{size bytes:Nat}(hu:P.underlying T=some u)(hi:TI P T z size bytes){E:Env}{β:bY}{vs:List AG}{cs:List D}(h:RdL E β vs cs){off:Nat}(hn:off+size≤cs.length)(h1:0<size)(w:World) :
 ∃ v,(part T vs.toArray off).run P w = .ok v w∧Rd E β v (Ea (kT P T) size (cs.drop off)):=by
 have hlen:=h.length;simp only [Ea];cases hag:kT P T with
 | true =>
   refine ⟨.agg ((vs.drop off).take size).toArray,?_,.agg _ _ _ ((h.drop off).take size)⟩;simp [part,sG hu,hag,hi.run_size]
 | false =>
   have hlt:off<vs.length:=by omega
   have hlt':off<cs.length:=by omega
   refine ⟨vs[off],?_,?_⟩
   · simp [part,sG hu,hag,hlt]
   · have:=h.get off (v:=vs[off]) (d:=cs[off]) (by simp [hlt]) (by simp [hlt']);simpa [CU,EN,hlt'] using this

theorem aHQ{T:TypeId}{x:Operand}{i:Nat}{fs:Array Field}{F:Field}{u:TypeDesc}{z:Ag AG}{size bytes:Nat}{cs:List D}{d:D}(ho:o.op = .field T x i)(hd:o.dst=some t)(ht:t<N)(hu:P.underlying T=some (.struct fs))(hf:fs[i]? = some F)(huF:P.underlying F.type=some u)(hi:TI P F.type z size bytes)(hx:SV S x (.agg cs))(hn:F.offset+size≤cs.length)(h1:0<size)(hdd:Ea (kT P F.type) size (cs.drop F.offset)=d):IOp P O N o S (S.set t d) :=
 kG hd ht fun E β a hr=>by
  obtain ⟨vs,hev,hl⟩:=rd_agg (hx.rd hr);obtain ⟨v,h2,h3⟩:=aIX (P:=P) huF hi hl hn h1 E.w;subst hdd;exact ⟨v,by simp [execOp,ho,hev,Instr.field,run_underlying hu,hf,asAgg,h2],h3⟩

end
end Go.IL
open _root_.Array renaming getElem?_toList → CB,size_append → DP
open Go.IL.D renaming one → Ee
open List renaming all_eq_true → Bb,append_assoc → AA,ext_getElem? → FB,getElem?_eq_getElem → AY,getElem?_eq_none → Ch,length_pos_iff → Fh,mem_append → AM,mem_map → Ak,size_toArray → Cm
open Nat renaming le_add_right → Db,le_of_not_lt → CN,le_refl → AP,mul_le_mul_right → AU,zero_add → Bj
namespace Go.IL

def Flat(sz:Nat)(l:List D):Prop:=∀ d∈l,d.cells.length=sz∧∀ c∈d.cells,c.one=true
theorem Flat.len{sz:Nat}{l:List D}(h:Flat sz l):∀ d∈l,d.cells.length=sz:=fun d hd=>(h d hd).1
theorem Flat.all{sz:Nat}{l:List D}(h:Flat sz l):(Ac l).all Ee=true:=by
 simp only [Bb,Ac,List.mem_flatMap];rintro c ⟨d,hd,hc⟩;exact (h d hd).2 c hc
theorem Flat.map{α:Type}{sz:Nat}{f:α→D}(h:∀ x,(f x).cells.length=sz∧(f x).cells.all Ee=true)(l:List α):Flat sz (l.map f):=fun d hd=>by
 obtain ⟨x,_,rfl⟩:=Ak.1 hd;exact ⟨(h x).1,fun c hc=>Bb.1 (h x).2 c hc⟩
theorem aDQ{n m sz:Nat}:n*sz≤(n+m)*sz:=AU _ (Db _ _)

section
variable {P:Ba} {O:bZ} {N:Nat} {S S':St} {o:Oper} {t:Nat}

theorem pJ{w:World}{T ty e:At}{z:Ag AG}{size bytes:Nat}(hu:P.underlying T=some (.slice e))(hi:TI P e z size bytes)(a:Ag Addr)(n c:Nat)(hc:n≤c)(y:AG)(hy:y = .slice none 0 0∨∃ b c',y = .slice (some b) 0 c') :
 (Builtin.append_ #[T,T] ty #[.slice a n c,y]).run P w = .ok (.slice a n c) w:=by
 obtain ⟨i,h1,_,hs,_⟩:=hi.at
 rcases hy with rfl | ⟨b,c',rfl⟩ <;> cases a <;>
  simp [Builtin.append_,run_underlying hu,sizeOf,typeInfo,h1,Builtin.lenOf,hc,Builtin.firstCells,loadCells,loadCellsFrom,storeCells]

theorem aFr{w:World}{X:Nat→Nat→Prop}{b:Nat}{vs:List AG}{c:Array AG}{e:At}{f:Nat×Nat}(h:(⟨w,X⟩:Env).row b 0 vs)(hc:w.heap[b]? = some (.cells c e f)):c.toList.take vs.length=vs:=by
 apply FB;intro j;rw [Ca]
 by_cases hj:j<vs.length
 · have h1:=(h j vs[j] (by simp [hj])).1;simp only [Bj] at h1;rw [cell_of_row w b j c e f hc] at h1;simp only [hj,if_true,CB,h1,AY hj]
 · simp [hj,Ch (CN hj)]

theorem wF{T e:At}{x y:Am}{z:AG}{size bytes:Nat}{l ys:List D}{f:Bool}{S1:St}(id':Nat)(ho:o.op = .call { callee:=.builtin .append,args:=#[x,y],argTypes:=#[T,T] })(hd:o.dst=some t)(ht:t<N)(hu:P.underlying T=some (.slice e))(hi:TI P e (some z) size bytes)(hz:z.cells.size=size)(hsp:0<size)(hs1:S1.sl=S.sl)(hs2:∀ j,S1.ent j=S.ent j∨S1.ent j = .none)(hfr:S.ent id' = .fresh)(hx:∀ E β a,Rel O N S E β a→(a.eval x = .slice none 0 0∧l=[])∨∃ b cap c vs,a.eval x = .slice (some ⟨b,0,none⟩) l.length cap∧l.length≤cap∧cap≤maxLen∧E.w.heap[b]? = some (.cells c e (0,0)) ∧
   c.size=cap*size∧E.row b 0 vs∧RdL E β0 vs (Ac l)∧O.own b∧(∀ o,l.length*size≤o→E.X b o)∧∀ j,(S1.ent j).held=true→β j≠some b)(hl:∀ d∈l,d.cells.length=size)(hy:SV S y (.slice f ys))(hys:Flat size ys)(hm:l.length+ys.length≤maxLen)(hb:(l.length+ys.length)*bytes≤140737488355328) :
 IOp P O N o S ((S1.setE id' (.tail e size (l.length+ys.length))).set t (.gsl id' size (l++ys))):=by
 intro E β a hr next Q hn;obtain ⟨i,hi1,hi2,hi3,hi4⟩:=hi.at;have hfre:β id'=none:=by have:=hr.h.ent id'; rw [hfr] at this; exact this
 have hrun:∀ v,(Builtin.append_ #[T,T] o.type #[a.eval x,a.eval y]).run P E.w=v→(execOp a.eval o).run P E.w=v.andThen fun v w'=>.ok (.value v) w':=fun v hv=>by
  simp [execOp,ho,resolve,invoke,builtin,hv]
 have hts:t<a.tmps.size:=hr.n ▸ ht;have slots:∀ (E':Env) (β':bY) (v:AG),E.le E'→β.le β'→Rd E' β' v (.gsl id' size (l++ys))→∀ s,Rd E' β' ((a.put (some t) v).tmps.getD s undef) (((S1.setE id' (.tail e size (l.length+ys.length))).set t (.gsl id' size (l++ys))).get s):=by
  intro E' β' v hle hβ hv s
  by_cases hst:t=s
  · subst hst;simpa [Act.put,Cf,Bo,aV,hts] using hv
  · have:=CA hle hβ (hr.sl s);simpa [Act.put,Cf,Bo,Br,aV,hst,Bf,hs1] using this
 have hflat:∀ d∈l++ys,d.cells.length=size:=fun d hd=>by
  rcases AM.1 hd with h | h
  · exact hl d h
  · exact (hys d h).1
 have hfl:Ac (l++ys)=Ac l++Ac ys:=by simp [Ac]
 have hll:(Ac l).length=l.length*size:=qQ hl;have hly:(Ac ys).length=ys.length*size:=qQ hys.len
 let β':Nat→bY:=fun b j=>if j=id' then some b else β j
 have hβ:∀ b,β.le (β' b):=fun b j k hj=>by
  by_cases hji:j=id'
  · subst hji; rw [hfre] at hj; cases hj
  · simp [β',hji,hj]
 have hother:∀ b j,j≠id'→((((S1.setE id' (.tail e size (l.length+ys.length))).set t (.gsl id' size (l++ys))).ent j=S.ent j∧β' b j=β j)∨((S1.setE id' (.tail e size (l.length+ys.length))).set t (.gsl id' size (l++ys))).ent j = .none):=by
  intro b j hj;have h1:((S1.setE id' (.tail e size (l.length+ys.length))).set t (.gsl id' size (l++ys))).ent j=S1.ent j:=by simp [BA,entL,Br,Bo,aV,Ne.symm hj]
  rw [h1]
  rcases hs2 j with h | h
  · exact .inl ⟨h,by simp [β',hj]⟩
  · exact .inr h
 have hheld:∀ j,j≠id'→(((S1.setE id' (.tail e size (l.length+ys.length))).set t (.gsl id' size (l++ys))).ent j).held=true→(S1.ent j).held=true:=by
  intro j hj h;simpa [BA,entL,Br,Bo,aV,Ne.symm hj] using h
 have hentid:((S1.setE id' (.tail e size (l.length+ys.length))).set t (.gsl id' size (l++ys))).ent id' = .tail e size (l.length+ys.length):=by simp [BA,entL,Br,Bo,aV]
 -- a new block
 have fresh:∀ (vs us:List AG) (cap:Nat),RdL E β0 vs (Ac l)→RdL E β0 us (Ac ys)→l.length+ys.length≤cap→cap≤maxLen →
  (Builtin.append_ #[T,T] o.type #[a.eval x,a.eval y]).run P E.w = .ok (.slice (some ⟨E.w.heap.size,0,none⟩) (l.length+ys.length) cap) (E.w.drew.alloc (.cells (vs.toArray++us.toArray++Builtin.zeroCells z.cells (cap-(l.length+ys.length))) e)) →
  o.wp P a E.w next Q:=by
  intro vs us cap hvs hus hcap hcm hra;unfold Oper.wp;rw [hrun _ hra];simp only [Result.andThen_ok,Oper.upon,hd]
  let E':Env:=⟨E.w.drew.alloc (.cells (vs.toArray++us.toArray++Builtin.zeroCells z.cells (cap-(l.length+ys.length))) e),fun b o=>(b=E.w.heap.size∧(l.length+ys.length)*size≤o)∨E.X b o⟩
  have hs:Step O E E' E.w.heap.size :=
   ⟨rfl,rfl,rfl,by simp [E'],by simp [E'],.inl hr.h.size,fun k hk _=>heap_alloc_old E.w.drew _ hk,fun k o hk=>by simp [E',hk],fun _ h=>BU _ (dR h)⟩
  have hle:E.le E':=hs.le (fun o v h1 _=>by have:=World.block_lt_of_cell? _ _ h1; simp at this) (fun c e f h1=>by have:=dR h1; simp at this);have hnew:E'.w.heap[E.w.heap.size]? = some (.cells (vs.toArray++us.toArray++Builtin.zeroCells z.cells (cap-(l.length+ys.length))) e (0,0)):=heap_alloc_new E.w.drew _;have hvl:=hvs.length;have hul:=hus.length;have hrow:E'.row E.w.heap.size 0 (vs++us):=fun k v hk=>by
   have hlt:k<vs.length+us.length:=by have:=(Aj.1 hk).1; simpa using this
   refine ⟨?_,?_⟩
   · rw [Bj,cell_of_row _ _ _ _ _ _ hnew];simp only [←CB,Array.toList_append];rw [AJ (by simpa using hlt)];simpa using hk
   · rintro (⟨_,h⟩ | h)
     · rw [Bw] at h; omega
     · have:=hr.h.xlt _ _ h; omega
  have hvs':=(AW hle (bY.le.refl _) hvs).append (AW hle (bY.le.refl _) hus);rw [←hfl] at hvs';refine hn E' (β' E.w.heap.size) _ ⟨by simp [Act.put,hr.n],hr.nd.step hs,?_,slots E' _ _ hle (hβ _) ?_⟩
  · refine Dd hr.h hs hle (hβ _) (fun j hj=>hother _ j hj) ?_ (id:=id') (by simp [β']) ?_ (fun _ _=>trivial)
    · intro j hj hh hbj;have hh':=hheld j hj hh
      rcases hs2 j with h | h
      · rw [h] at hh'; exact BU _ (hr.h.lt hh' hbj)
      · rw [h] at hh'; cases hh'
    · rw [hentid];exact ⟨_,hnew,fun o ho=>.inl ⟨rfl,ho⟩⟩
  · exact .gsl _ _ E.w.heap.size _ cap size (vs++us) _ (by simp [β']) (by simp) hcap hflat hsp hrow hvs' _ _ _ hnew
     (by simp only [DP,Cm,size_zeroCells,hz,hvl,hul,hll,hly]; rw [←Bw,←Bw]; congr 1; omega) hcm
 -- nothing is appended
 have nothing:ys=[]→(a.eval y = .slice none 0 0∨∃ b c',a.eval y = .slice (some b) 0 c')→o.wp P a E.w next Q:=by
  intro hys0 hyv;subst hys0
  rcases hx E β a hr with ⟨hxv,rfl⟩ | ⟨b,cap,c,vs,hxv,hnc,hcm,hc,hcs,hrow,hvs,hown,hX,hap⟩
  · have hra:=pJ (P:=P) (w:=E.w) (ty:=o.type) hu hi none 0 0 (AP _) _ hyv;unfold Oper.wp;rw [←hxv] at hra;rw [hrun _ hra];simp only [Result.andThen_ok,Oper.upon,hd];refine hn E β _ ⟨by simp [Act.put,hr.n],hr.nd,?_,slots E β _ (Co _) (bY.le.refl _) (by rw [hxv]; exact .ngsl _ _ _)⟩;refine { hr.h with ent:=fun j=>?_,inj:=fun j k b hj hk h1 h2=>?_ }
    · by_cases hj:j=id'
      · subst hj; rw [hentid]; exact .inl ⟨hfre,rfl⟩
      · rcases hother 0 j hj with ⟨h,_⟩ | h
        · rw [h]; exact hr.h.ent j
        · rw [h]; trivial
    · have hnj:∀ j b,(((S1.setE id' (.tail e size (([]:List D).length+([]:List D).length))).set t (.gsl id' size ([]++[]))).ent j).held=true→β j=some b→j≠id'∧(S.ent j).held=true:=by
       intro j b hh hb;have hj:j≠id':=by rintro rfl; rw [hfre] at hb; cases hb
       refine ⟨hj,?_⟩
       rcases hother 0 j hj with ⟨h,_⟩ | h
       · rw [←h]; exact hh
       · rw [h] at hh; cases hh
      exact hr.h.inj j k b (hnj j b hj h1).2 (hnj k b hk h2).2 h1 h2
  · have hra:=pJ (P:=P) (w:=E.w) (ty:=o.type) hu hi (some ⟨b,0,none⟩) l.length cap hnc _ hyv;unfold Oper.wp;rw [←hxv] at hra;rw [hrun _ hra];simp only [Result.andThen_ok,Oper.upon,hd];have hs:Step O E E b:=⟨rfl,rfl,rfl,AP _,dR hc,hown,fun _ _ _=>rfl,fun _ _ _=>Dy,fun _ h=>by first | (rw [hc] at h; cases h) | (rw [hh] at h; cases h)⟩;refine hn E (β' b) _ ⟨by simp [Act.put,hr.n],hr.nd,?_,slots E _ _ (Co _) (hβ _) ?_⟩
    · refine Dd hr.h hs (Co _) (hβ _) (fun j hj=>hother _ j hj) (fun j hj hh=>hap j (hheld j hj hh)) (id:=id') (by simp [β']) ?_ (fun _ _=>trivial);rw [hentid];exact ⟨_,hc,fun o ho=>hX o (by simpa using ho)⟩
    · rw [hxv];simp only [Ax] at hfl ⊢;exact .gsl _ _ b _ cap size vs _ (by simp [β']) rfl hnc hl hsp hrow hvs _ _ _ hc hcs hcm
 rcases tV (hy.rd hr) with ⟨hyv,rfl⟩ | ⟨yb,yoff,ycap,ysz,us,hyv,hyc,_,hyz,hysp,hyrow,hus⟩ | ⟨ad,ycap,hyv,rfl⟩
 · exact nothing rfl (.inl hyv)
 rotate_left
 · exact nothing rfl (.inr ⟨_,_,hyv⟩)
 · by_cases hemp:ys=[]
   · exact nothing hemp (.inr ⟨_,_,by subst hemp; exact hyv⟩)
   · have hne:0<ys.length:=Fh.2 hemp;have hul:us.length=ys.length*i.size:=by rw [hus.length,hly,hi3]
     have hyr:∀ j u,us[j]? = some u→E.w.cell? ((⟨yb,yoff,none⟩:Addr).add j)=some u:=fun j u hj=>by rw [nR]; exact (hyrow j u hj).1
     rcases hx E β a hr with ⟨hxv,rfl⟩ | ⟨b,cap,c,vs,hxv,hnc,hcm,hc,hcs,hrow,hvs,hown,hX,hap⟩
     · have hra:=run_append_nil (P:=P) E.w T o.type e i z hu hi1 hi2 ⟨yb,yoff,none⟩ ys.length ycap us hul hyr hne (by simp [maxLen] at hm; omega) (by rw [hi4]; simp at hb; omega);refine fresh [] us (grownCap E.w ys.length 0 e) (by simpa [Ac] using RdL.nil β0) hus (by simpa using grownCap_ge _ _ _ _) (grownCap_le_maxLen _ _ _ _ (by simpa using hm)) ?_;rw [hxv,hyv];simpa using hra
     · have hvl:vs.length=l.length*i.size:=by rw [hvs.length,hll,hi3]
       by_cases hroom:l.length+ys.length≤cap
       · have hvt:c.toList.take (l.length*i.size)=vs:=by rw [←hvl]; exact aFr (X:=E.X) hrow hc
         have hfit:l.length*i.size+us.length≤c.size:=by rw [hul,hcs,hi3,←Bw]; exact AU _ hroom
         have hra:=run_append_room (P:=P) E.w T o.type e i hu hi1 b l.length cap c hc ⟨yb,yoff,none⟩ ys.length ycap us hul hyr (aBG hus hys.all) hroom hfit;rw [hvt] at hra;unfold Oper.wp;rw [←hxv,←hyv] at hra;rw [hrun _ hra];simp only [Result.andThen_ok,Oper.upon,hd]
         let E':Env:=⟨E.w.setRow b (vs++us++c.toList.drop (l.length*i.size+us.length)).toArray,fun k o=>if k=b then (l.length+ys.length)*size≤o else E.X k o⟩
         have hs:Step O E E' b:=⟨rfl,rfl,rfl,by simp [E'],by simpa [E'] using dR hc,hown,fun k _ hk=>setRow_other _ _ _ _ hk,fun k o hk=>by simp [E',hk],fun _ h=>by first | (rw [hc] at h; cases h) | (rw [hh] at h; cases h)⟩;have hnew:E'.w.heap[b]? = some (.cells (vs++us++c.toList.drop (l.length*i.size+us.length)).toArray e (0,0)):=setRow_heap _ _ _ _ _ _ hc;have hsz:(vs++us++c.toList.drop (l.length*i.size+us.length)).toArray.size=c.size:=by
          simp [hvl]; omega
         have hle:E.le E':=hs.le (fun o v h1 h2=>by
          have hlt:o<l.length*size:=Nat.lt_of_not_le fun h=>h2 (hX o h)
          have hlt':o<vs.length:=by rw [hvl,hi3]; exact hlt
          refine ⟨?_,?_⟩
          · rw [cell_of_row _ _ _ _ _ _ hnew];rw [cell_of_row _ _ _ _ _ _ hc] at h1;have h3:vs[o]? = some v:=by rw [←hvt,Ca,Ao (by rw [hi3]; exact hlt)]; simpa using h1
            simp only [←CB,AA];rw [AJ hlt'];exact h3
          · simp only [E',if_true];have:=@aDQ l.length ys.length size;omega) (fun c' e' f' h1=>by rw [hc] at h1; cases h1; exact ⟨_,_,hnew,hsz⟩)
         have hrow':E'.row b 0 (vs++us):=fun k v hk=>by
          have hlt:k<vs.length+us.length:=by have:=(Aj.1 hk).1; simpa using this
          refine ⟨?_,?_⟩
          · rw [Bj,cell_of_row _ _ _ _ _ _ hnew];simp only [←CB];rw [AJ (by simpa using hlt)];exact hk
          · simp only [E',if_true,Bj];rw [Bw]; rw [hvl,hul,hi3] at hlt; omega
         have hvs':=(AW hle (bY.le.refl _) hvs).append (AW hle (bY.le.refl _) hus);rw [←hfl] at hvs';refine hn E' (β' b) _ ⟨by simp [Act.put,hr.n],hr.nd.step hs,?_,slots E' _ _ hle (hβ _) ?_⟩
         · refine Dd hr.h hs hle (hβ _) (fun j hj=>hother _ j hj) (fun j hj hh=>hap j (hheld j hj hh)) (id:=id') (by simp [β']) ?_ (fun _ _=>trivial);rw [hentid];exact ⟨_,hnew,fun o ho=>by simpa [E'] using ho⟩
         · exact .gsl _ _ b _ cap size (vs++us) _ (by simp [β']) (by simp) hroom hflat hsp hrow' hvs' _ _ _ hnew (by rw [hsz,hcs]) hcm
       · have hxr:∀ j u,vs[j]? = some u→E.w.cell? ((⟨b,0,none⟩:Addr).add j)=some u:=fun j u hj=>by rw [nR]; exact (hrow j u hj).1
         have hra:=run_append_grow (P:=P) E.w T o.type e i z hu hi1 hi2 ⟨b,0,none⟩ l.length cap vs hvl hxr ⟨yb,yoff,none⟩ ys.length ycap us hul hyr (by omega) (by simp [maxLen] at hm; omega) (growslice_fits (by omega) (by rw [hi4]; exact hb));refine fresh vs us (grownCap E.w (l.length+ys.length) cap e) hvs hus (grownCap_ge _ _ _ _) (grownCap_le_maxLen _ _ _ _ hm) ?_;rw [hxv,hyv];exact hra

end
end Go.IL
open _root_.Array renaming getElem?_append → Ci,getElem?_replicate → CV,replicate → BL,toArray_toList → Dn
open Go.IL.D renaming refsInL → AE,renL → BD
open Go.IL.Rd renaming ren → FI
open Go.IL.RdL renaming ren → Cv
open Go.IL.World renaming cell_block → DZ
open List renaming mapM_toArray → DQ,nodup_cons → Bl,range → By,range' → EC,range'_succ → Du,range_eq_range' → CT,zip_cons_cons → DE
open Nat renaming not_lt_zero → Eh,sub_zero → DW
namespace Go.IL
open RowKit (Below)

mutual
theorem D.ren_id:∀ (d:D),d.ren (fun i=>i)=d
 | .dead | .bool _ | .int _ _ | .float _ _ | .str _ | .slice _ _ | .nils | .fptr _ | .nilp | .nilf | .nili | .ref _ _ | .rsl _ _ _ _ _ | .gsl _ _ _ | .osl _ _ _ | .yld _ | .mref _ | .optp _ | .mapp=>rfl
 | .agg cs=>by rw [D.ren,D.renL_id cs]
 | .tuple cs=>by rw [D.ren,D.renL_id cs]
 | .fn f cs=>by rw [D.ren,D.renL_id cs]
 | .mv f cs=>by rw [D.ren,D.renL_id cs]
 | .cnd b d=>by rw [D.ren,D.ren_id d]
theorem D.renL_id:∀ (ds:List D),BD (fun i=>i) ds=ds
 | []=>rfl
 | d::ds=>by rw [BD,D.ren_id d,D.renL_id ds]
end

def noRef:Nat→Bool:=fun _=>false
theorem Rd.bare{E:Env}{β:bY}{v:Value}{d:D}(h:Rd E β v d)(hp:d.refsIn noRef=true):Rd E β0 v d :=
 FI (ρ:=fun i=>i) (p:=noRef) (β:=β) (fun _ h=>by cases h) d (by rw [D.ren_id]; exact h) hp
theorem RdL.bare{E:Env}{β:bY}{vs:List AG}{ds:List D}(h:RdL E β vs ds)(hp:AE noRef ds=true):RdL E β0 vs ds :=
 Cv (ρ:=fun i=>i) (p:=noRef) (β:=β) (fun _ h=>by cases h) ds (by rw [D.renL_id]; exact h) hp

def dH(P:Program)(f:FuncId)(ds:List D)(r:D):Prop :=
 ∀ (E:Env) (vs:List AG),E.good→RdL E β0 vs ds →
   Calls P f vs.toArray E.w fun e w'=>∃ v,e = .returned v∧Below E.w.heap.size E.w w'∧Rd ⟨w',E.X⟩ β0 v r

def bB(P : Ba)(f : Ce) : Prop := ∃ fn, P.funcs[f]? = some fn ∧ (fn.name == "runtime.NumGoroutine") = false ∧ fn.body.isNone = false

theorem qK{w w':World}{X:Nat→Nat→Prop}(h:Below w.heap.size w w'):(⟨w,X⟩:Env).le ⟨w',X⟩:=by
 constructor
 · intro b o v h1 h2;exact ⟨(DZ (h.block b (World.block_lt_of_cell? _ _ h1))).trans h1,h2⟩
 · intro b c e f h1;exact ⟨c,f,(h.block b (dR h1)).trans h1,rfl⟩

theorem uJ.below{O:bZ}{E:Env}{ds:List Deferred}(h:uJ O E ds){w':World}(hb:Below E.w.heap.size E.w w'):uJ O ⟨w',E.X⟩ ds:=h.mono fun k h1=>(hb.block k (dR h1)).trans h1

theorem HOk.below{O:bZ}{E:Env}{β:bY}{H:Nat→Ent}(h:HOk O E β H){w':World}(hb:Below E.w.heap.size E.w w'):HOk O ⟨w',E.X⟩ β H where
 os:=hb.os.trans h.os
 tab:=h.tab
 tape:=hb.tape.trans h.tape
 output:=hb.output.trans h.output
 mbs:=h.mbs
 size:=BG h.size hb.size
 block k hk hf:=(hb.block k (BH hk h.size)).trans (h.block k hk hf)
 xlt b o hX:=BH (h.xlt b o hX) hb.size
 xold:=h.xold
 ent id:=by
  have he:=h.ent id;cases hH:H id with
  | none=>trivial
  | fresh=>rw [hH] at he; exact he
  | blk e ds =>
    rw [hH] at he
    rcases he with h1 | ⟨b,vs,sp,h1,h2,h3,h4,h5⟩
    · exact .inl h1
    · exact .inr ⟨b,vs,sp,h1,h2,(hb.block b (dR h3)).trans h3,h4,AW (qK hb) (bY.le.refl _) h5⟩
  | tail e sz n =>
    rw [hH] at he
    rcases he with h1 | ⟨b,c,h1,h2,h3,h4⟩
    · exact .inl h1
    · exact .inr ⟨b,c,h1,h2,(hb.block b (dR h3)).trans h3,h4⟩
  | loop lk ds st pend =>
    rw [hH] at he;obtain ⟨k,r,h3,h4,h5,h6,h7,h8,h9,h10,h11,h12⟩:=he;exact ⟨k,r,h3,h4,(hb.block k (dR h5)).trans h5,h6,h7,h8,h9,h10,h11,h12.1,AW (qK hb) (bY.le.refl _) h12.2⟩
  | mp ks ds =>
    rw [hH] at he;obtain ⟨k,es,cl,h3,h4,h5,h6,h7,h8⟩:=he;exact ⟨k,es,cl,h3,h4,(hb.block k (dR h5)).trans h5,h6,h7,AW (qK hb) (bY.le.refl _) h8⟩
  | kept n ds =>
    rw [hH] at he;exact ⟨AW (qK hb) (bY.le.refl _) he.1,fun c hc=>(hb.block c (dR (he.2 c hc))).trans (he.2 c hc)⟩
 inj:=h.inj
 le:=h.le.trans (qK hb)
 gid:=h.gid
 given:=h.given

inductive SVs (S:St):List Am→List D→Prop
 | nil:SVs S [] []
 | cons {x d xs ds} (h:SV S x d) (t:SVs S xs ds):SVs S (x::xs) (d::ds)

section
variable {P:Ba} {O:bZ} {N:Nat} {S S':St} {o:Oper} {t:Nat}

theorem SVs.rd{E:Env}{β:bY}{a:Act}(hr:Rel O N S E β a):∀ {xs:List Am} {ds:List D},SVs S xs ds→RdL E β (xs.map a.eval) ds
 | _,_,.nil=>.nil _
 | _,_,.cons h t=>.cons (h.rd hr) (SVs.rd hr t)

theorem aBi{f:FuncId}{ds:List D}{r:D}(hd:o.dst=some t)(ht:t<N)(h:∀ E β a,Rel O N S E β a→∃ vs:List AG,(execOp a.eval o).run P E.w = .ok (.enter f vs.toArray) E.w∧RdL E β vs ds)(hp:AE noRef ds=true)(hf:dH P f ds r):IOp P O N o S (S.set t r):=by
 intro E β a hr next Q hn;obtain ⟨vs,hrun,hv⟩:=h E β a hr;unfold Oper.wp;rw [hrun];simp only [Oper.upon,hd];refine (hf E vs hr.h.good (hv.bare hp)).mono ?_;rintro e w' ⟨v,rfl,hb,hrd⟩;have hr':Rel O N S ⟨w',E.X⟩ β a:=⟨hr.n,hr.nd.below hb,hr.h.below hb,fun s=>CA (qK hb) (bY.le.refl _) (hr.sl s)⟩;exact hn ⟨w',E.X⟩ β _ (hr'.set ht hrd.up)

theorem kB{f:FuncId}(hc:bB P f)(args:Array AG)(w:World):(callFunc f args).run P w = .ok (.enter f args) w:=by
 obtain ⟨fn,h1,h2,h3⟩:=hc;simp only [callFunc,Sem.run_bind,run_program,Result.andThen_ok,h1,h2,h3,CF,if_false];rfl

theorem bA{f:FuncId}{xs:List Am}{ts:Array At}{ds:List D}{r:D}(ho:o.op = .call { callee:=.value (.func f),args:=xs.toArray,argTypes:=ts })(hd:o.dst=some t)(ht:t<N)(hc:bB P f)(hx:SVs S xs ds)(hp:AE noRef ds=true)(hf:dH P f ds r):IOp P O N o S (S.set t r) :=
 aBi hd ht (fun E β a hr=>⟨xs.map a.eval,by
  simp [execOp,ho,resolve,Deferred.ofValue,Act.eval,invoke,kB hc],hx.rd hr⟩) hp hf

theorem pR{x:Operand}{f:FuncId}{caps:List D}{xs:List Am}{ts:Array At}{ds:List D}{r:D}(ho:o.op = .call { callee:=.value x,args:=xs.toArray,argTypes:=ts })(hd:o.dst=some t)(ht:t<N)(hc:bB P f)(hfx:SV S x (.fn f caps))(hx:SVs S xs ds)(hp:AE noRef (ds++caps)=true)(hf:dH P f (ds++caps) r):IOp P O N o S (S.set t r) :=
 aBi hd ht (fun E β a hr=>by
  obtain ⟨vs,hev,hl⟩:=aFs (hfx.rd hr);exact ⟨xs.map a.eval++vs,by simp [execOp,ho,resolve,Deferred.ofValue,hev,invoke,kB hc],(hx.rd hr).append hl⟩) hp hf

theorem aHR{x:Operand}{f:FuncId}{first:List D}{xs:List Am}{ts:Array At}{ds:List D}{r:D}(ho:o.op = .call { callee:=.value x,args:=xs.toArray,argTypes:=ts })(hd:o.dst=some t)(ht:t<N)(hc:bB P f)(hfx:SV S x (.mv f first))(hx:SVs S xs ds)(hp:AE noRef (first++ds)=true)(hf:dH P f (first++ds) r):IOp P O N o S (S.set t r) :=
 aBi hd ht (fun E β a hr=>by
  obtain ⟨us,hev,hl⟩:=rd_mv (hfx.rd hr);exact ⟨us++xs.map a.eval,by simp [execOp,ho,resolve,Deferred.ofValue,hev,invoke,kB hc],hl.append (hx.rd hr)⟩) hp hf

theorem aF2{f:FuncId}{xs:List Am}{ds:List D}(ho:o.op = .makeFunc (.func f) xs.toArray #[])(hd:o.dst=some t)(ht:t<N)(hx:SVs S xs ds):IOp P O N o S (S.set t (.mv f ds)) :=
 kG hd ht fun E β a hr=>⟨.func (.func f) (xs.map a.eval).toArray #[],by simp [execOp,ho,Instr.makeFunc],.mv _ _ _ _ (hx.rd hr)⟩

theorem mH{f:FuncId}{xs:List Am}{ds:List D}(ho:o.op = .makeFunc (.func f) #[] xs.toArray)(hd:o.dst=some t)(ht:t<N)(hx:SVs S xs ds):IOp P O N o S (S.set t (.fn f ds)) :=
 kG hd ht fun E β a hr=>⟨.func (.func f) #[] (xs.map a.eval).toArray,by simp [execOp,ho,Instr.makeFunc],.fn _ _ _ _ (hx.rd hr)⟩

def ResV(P:Program)(S:St):ResultVar→D→Prop
 | .tmp t,d=>SV S (.tmp t) d
 | .cell x T,d=>∃ id off e ds u z size bytes,SV S (.tmp x) (.ref id off)∧S.ent id = .blk e ds∧P.underlying T=some u∧TI P T z size bytes∧off+size≤ds.length∧0<size∧Ea (kT P T) size (ds.drop off)=d
inductive aAQ (P:Ba) (S:St):List ResultVar→List D→Prop
 | nil:aAQ P S [] []
 | cons {x d xs ds} (h:ResV P S x d) (t:aAQ P S xs ds):aAQ P S (x::xs) (d::ds)

theorem aDU{E:Env}{β:bY}{a:Act}(hr:Rel O N S E β a){T:At}{u:TypeDesc}{z:Ag AG}{size bytes:Nat}{id off:Nat}{e:At}{ds:List D}{v:AG}(hu:P.underlying T=some u)(hi:TI P T z size bytes)(hv:Rd E β v (.ref id off))(he:S.ent id = .blk e ds)(hn:off+size≤ds.length)(h1:0<size) :
 ∃ y b,v = .pointer (some ⟨b,off,none⟩)∧(loadVar T ⟨b,off,none⟩).run P E.w = .ok y E.w∧Rd E β y (Ea (kT P T) size (ds.drop off)):=by
 obtain ⟨b,hb,rfl⟩:=aDY hv;have hent:=hr.h.ent id;rw [he] at hent;obtain ⟨vs,sp,_,hh,_,hl⟩:=sZ hent hb;have hlen:=hl.length;simp only [Ea];cases hag:kT P T with
 | true =>
   refine ⟨.agg ((vs.drop off).take size).toArray,b,rfl,?_,.agg _ _ _ ((hl.drop off).take size)⟩;have hlc:=aAS (P:=P) hh (show off+size≤(vs++sp).length by simp; omega);rw [zM (by omega)] at hlc;simp [loadVar,sG hu,hag,hi.run_size,hlc]
 | false =>
   have hlt:off<vs.length:=by omega
   have hcell:E.w.cell? ⟨b,off,none⟩=some vs[off]:=by rw [cell_of_row _ _ _ _ _ _ hh]; simp [AJ,hlt]
   refine ⟨vs[off],b,rfl,by simp [loadVar,sG hu,hag,hcell],?_⟩;have hlt':off<ds.length:=by omega
   have:=hl.get off (v:=vs[off]) (d:=ds[off]) (by simp [hlt]) (by simp [hlt']);simpa [CU,EN,hlt'] using this

def resF(tmps:Array AG):ResultVar→Sem AG
 | .tmp t=>pure (tmps.getD t undef)
 | .cell x t=>do loadVar t (←asAddr (tmps.getD x undef))

theorem tJ{E:Env}{β:bY}{a:Act}(hr:Rel O N S E β a):∀ {rs:List ResultVar} {ds:List D},aAQ P S rs ds →
 ∃ vs,(rs.mapM (resF a.tmps)).run P E.w = .ok vs E.w∧RdL E β vs ds
 | _,_,.nil=>⟨[],by simp,.nil _⟩
 | _, _,.cons (x:=r) h t=>by
   obtain ⟨vs,h1,h2⟩:=tJ hr t;cases r with
   | tmp t =>
     exact ⟨a.tmps.getD t undef::vs,by simp [List.mapM_cons,resF,h1],.cons (h.rd hr) h2⟩
   | cell x T =>
     obtain ⟨id,off,e,ds,u,z,size,bytes,g1,g2,g3,g4,g5,g6,rfl⟩:=h;obtain ⟨y,b,e1,e2,e3⟩:=aDU (P:=P) hr g3 g4 (g1.rd hr) g2 g5 g6;have e1':a.tmps.getD x undef = .pointer (some ⟨b,off,none⟩):=e1;refine ⟨y::vs,?_,.cons e3 h2⟩;have h4:(resF a.tmps (.cell x T)).run P E.w = .ok y E.w:=by
      simp only [resF,e1'];simp [asAddr,e2]
     rw [List.mapM_cons];simp only [Sem.run_bind,h4,h1,Result.andThen_ok,Sem.run_pure]

def retD:List D→D
 | [d]=>d
 | ds=>.tuple ds

theorem aC9{w:World}{X:Nat→Nat→Prop}(hX:(⟨w,X⟩:Env).good):HOk ⟨w,X,fun _=>False,β0,none,fun _=>[],fun _=>0,fun _=>[],fun _=>(#[],.skip,.skip),w.heap.size⟩ ⟨w,X⟩ β0 (entL []) where
 os:=rfl
 tab:=hX.tab
 tape:=rfl
 output:=rfl
 mbs:=AP _
 size:=AP _
 block _ _ _:=rfl
 xlt:=hX.xlt
 xold _ _ _ _:=Dy
 ent id:=by
  show qX _ _ _ _ (defE id)
  unfold defE; split
  · trivial
  · rfl
 inj i j b hi:=by
  have:(defE i).held=true:=hi;unfold defE at this; split at this <;> cases this
 le:=Co _
 gid i b h:=by cases h
 given i b h:=by cases h

theorem zU{w:World}{X:Nat→Nat→Prop}{b:Nat}(hx:w.heap[b]? = some (.deferred (some []))):(⟨w,X⟩:Env).le ⟨w.putObj b (.deferred none),X⟩:=by
 constructor
 · intro k o v h1 h2
   by_cases hk:k=b
   · subst hk; simp [World.cell?,hx] at h1
   · exact ⟨(DZ (World.putObj_heap_other hk)).trans h1,h2⟩
 · intro k c e f h1
   by_cases hk:k=b
   · subst hk; rw [hx] at h1; cases h1
   · exact ⟨c,f,(World.putObj_heap_other hk).trans h1,rfl⟩
theorem HOk.shut{O:bZ}{E:Env}{β:bY}{H:Nat→Ent}(h:HOk O E β H){b:Nat}(hb:O.w.heap.size≤b)(hof:¬ O.foot b)(hdv:∀ k,b ∉ O.dv k)(hx:E.w.heap[b]? = some (.deferred (some []))):HOk O ⟨E.w.putObj b (.deferred none),E.X⟩ β H where
 os:=h.os
 tab:=h.tab
 tape:=h.tape
 output:=h.output
 mbs:=h.mbs
 size:=by simpa [World.putObj] using h.size
 block k hk hf:=(World.putObj_heap_other (by omega)).trans (h.block k hk hf)
 xlt k o hX:=by simpa [World.putObj] using h.xlt k o hX
 xold:=h.xold
 ent id:=by
  have hne:∀ (k:Nat) (o:Obj),E.w.heap[k]? = some o→(∀ ds,o≠Obj.deferred ds)→(E.w.putObj b (.deferred none)).heap[k]? = some o:=fun k o h1 h2=>by
   have:k≠b:=by rintro rfl; rw [hx] at h1; cases h1; exact h2 _ rfl
   exact (World.putObj_heap_other this).trans h1
  have he:=h.ent id;cases hH:H id with
  | none=>trivial
  | fresh=>rw [hH] at he; exact he
  | blk e ds =>
    rw [hH] at he
    rcases he with h1 | ⟨b,vs,sp,h1,h2,h3,h4,h5⟩
    · exact .inl h1
    · exact .inr ⟨b,vs,sp,h1,h2,hne _ _ h3 (fun _ h=>by cases h),h4,AW (zU hx) (bY.le.refl _) h5⟩
  | tail e sz n =>
    rw [hH] at he
    rcases he with h1 | ⟨b,c,h1,h2,h3,h4⟩
    · exact .inl h1
    · exact .inr ⟨b,c,h1,h2,hne _ _ h3 (fun _ h=>by cases h),h4⟩
  | loop lk ds st pend =>
    rw [hH] at he;obtain ⟨k,r,h3,h4,h5,h6,h7,h8,h9,h10,h11,h12⟩:=he;exact ⟨k,r,h3,h4,hne _ _ h5 (fun _ h=>by cases h),h6,h7,h8,h9,h10,h11,h12.1,AW (zU hx) (bY.le.refl _) h12.2⟩
  | mp ks ds =>
    rw [hH] at he;obtain ⟨k,es,cl,h3,h4,h5,h6,h7,h8⟩:=he;exact ⟨k,es,cl,h3,h4,hne _ _ h5 (fun _ h=>by cases h),h6,h7,AW (zU hx) (bY.le.refl _) h8⟩
  | kept n ds =>
    rw [hH] at he;exact ⟨AW (zU hx) (bY.le.refl _) he.1,fun c hc=>(World.putObj_heap_other (by rintro rfl; exact hdv _ hc)).trans (he.2 c hc)⟩
 inj:=h.inj
 le:=h.le.trans (zU hx)
 gid:=h.gid
 given:=h.given
theorem aAZ{O:bZ}{N:Nat}{S:St}{β:bY}{a:Act}{fn:Func}{R:Ending→World→Prop}{n:Nat}{F:Fence}{P:Program}(ho:O.FootOk):∀ (bs:List Nat) (E:Env),Rel O N S E β { a with defers:=[] }→bs.Nodup→(∀ b∈bs,(O.mb≤b∧∀ k,b ∉ O.dv k)∧E.w.heap[b]? = some (.deferred (some []))) →
 (∀ E',Rel O N S E' β { a with defers:=[] }→∃ v,(results fn a.tmps).run P E'.w = .ok v E'.w∧R (.returned v) E'.w)→LeavesInM F n P fn a.tmps R (bs.map fun b=>{ target:=.collected b,args:=#[] }) .returning E.w
 | [],E,hr,_,_,h=>h E hr
 | b::bs,E,hr,hn,hb,h=>by
   obtain ⟨⟨h0,hdv⟩,h2⟩:=hb b (by simp);have h1:=BG ho.1 h0;rw [Bl] at hn;refine ⟨by simp,.inl ⟨b,_,rfl,run_takeDeferred h2,?_⟩⟩
   exact aAZ ho bs ⟨E.w.putObj b (.deferred none),E.X⟩ ⟨hr.n,uJ.nil,hr.h.shut h1 (ho.2 b h1) hdv h2,fun s=>CA (zU h2) (bY.le.refl _) (hr.sl s)⟩ hn.2
    (fun c hc=>⟨(hb c (by simp [hc])).1,(World.putObj_heap_other (by rintro rfl; exact hn.1 hc)).trans (hb c (by simp [hc])).2⟩) h
theorem qV{P:Program}{f:FuncId}{fn:Func}{c:Code}{args:Array AG}{R:Ending→World→Prop}{O:bZ}{N:Nat}{S:St}{E:Env}{β:bY}{Q:Exit→St→Prop}(hf:P.funcs[f]? = some fn)(hb:fn.body=some c)(hO:O.round=none)(ho:O.FootOk)(hrel:Rel O N S E β { tmps:=args++BL (fn.ntmps-args.size) undef,defers:=[] })(h:IWP P O N c S Q)(hq:∀ e S' E' β' a',Rel O N S' E' β' a'→Q e S'→(e = .normal∨e = .ret)∧∃ v,(results fn a'.tmps).run P E'.w = .ok v E'.w∧R (.returned v) E'.w):Calls P f args E.w R:=by
 refine callsIn_wide (n:=0) |>.1 (callsIn_of_wp_marks hf hb trivial ?_)
 have h':=h E β _ hrel;rw [hO] at h';refine wpIn_mono h' ?_;rintro e a' w' ⟨S',E',β',rfl,hr',hQ⟩;obtain ⟨he,_⟩:=hq e S' E' β' a' hr' hQ;obtain ⟨bs,hbs,hnd,hall⟩:=hr'.nd;have hl:LeavesInM Fence.wide 0 P fn a'.tmps R a'.defers .returning E'.w:=by
  rw [hbs];exact aAZ ho bs E' ⟨hr'.n,uJ.nil,hr'.h,hr'.sl⟩ hnd hall fun E'' hr''=>(hq e S' E'' β' _ hr'' hQ).2
 rcases he with rfl | rfl
 · exact hl
 · exact hl

theorem bK{f:FuncId}{fn:Func}{c:Code}{ds rs:List D}(hf:P.funcs[f]? = some fn)(hb:fn.body=some c)(hN:fn.ntmps=N)(hlen:ds.length≤N)(hp:AE noRef rs=true)(h:∀ O:bZ,O.Plain→IWP P O N c ⟨(By ds.length).zip ds,[]⟩ (fun e S=>(e = .normal∨e = .ret)∧aAQ P S fn.results.toList rs)):dH P f ds (retD rs):=by
 intro E vs hX hvs
 let O:bZ:=⟨E.w,E.X,fun _=>False,β0,none,fun _=>[],fun _=>0,fun _=>[],fun _=>(#[],.skip,.skip),E.w.heap.size⟩
 have hl:=hvs.length;have hrel : Rel O N ⟨(By ds.length).zip ds,[]⟩ E β0 { tmps:=vs.toArray++BL (fn.ntmps-vs.toArray.size) undef,defers:=[] }:=by
  refine ⟨by simp; omega,uJ.nil,?_,?_⟩
  · exact aC9 hX
  · intro s;have key : ∀ (ds:List D) (vs:List AG) (k:Nat),RdL E β0 vs ds→Rd E β0 (if s<k then undef else vs.getD (s-k) undef) (look .dead s ((EC k ds.length).zip ds)):=by
     intro ds
     induction ds with
     | nil=>intro vs k _; simp [look]; exact .dead _ _
     | cons d ds ih =>
       intro vs k hv;cases hv with
       | cons h1 h2 =>
         simp only [AR,Du,DE,aV]
         by_cases hks:k=s
         · subst hks; simpa using h1
         · rw [Al hks];have:=ih _ (k+1) h2
           by_cases hlt:s<k
           · simpa [hlt,show s<k+1 by omega] using this
           · have h3:¬ s<k+1:=by omega
             rw [Al hlt]; rw [Al h3] at this;rw [show s-k=(s-(k+1))+1 by omega];simpa using this
    have:=key ds vs 0 hvs;rw [CT];simp only [Eh,if_false,DW] at this;have hg:(vs.toArray++BL (fn.ntmps-vs.toArray.size) undef).getD s undef=vs.getD s undef:=by
     by_cases hs:s<vs.length
     · simp [hs,Ci]
     · simp [Ci,hs,Ch (CN hs)];simp [CV];split <;> rfl
    show Rd E β0 (Array.getD _ s undef) _
    rw [hg];exact this
 refine qV hf hb rfl ⟨AP _,fun _ _ h=>h⟩ hrel (h O ⟨rfl,⟨AP _,fun _ _ h=>h⟩,fun _=>rfl⟩) ?_;rintro e S' E' β' a' hr' ⟨he,hres⟩;refine ⟨he,?_⟩;have hbelow:Below E.w.heap.size E.w E'.w:=⟨hr'.h.os,hr'.h.tape,hr'.h.output,hr'.h.size,fun k hk=>hr'.h.block k hk (fun h=>h)⟩;obtain ⟨vs',h1,h2⟩:=tJ (P:=P) hr' hres;have h3:=h2.bare hp;have hxx:E'.le ⟨E'.w,E.X⟩:=by
  constructor
  · intro b o v hc hx;refine ⟨hc,fun hX'=>hx ?_⟩;exact (hr'.h.xold b o (hX.xlt b o hX') (fun h=>h)).2 hX'
  · intro b c e f hc; exact ⟨c,f,hc,rfl⟩
 have h4:=AW hxx (bY.le.refl _) h3;have hrun:(results fn a'.tmps).run P E'.w = .ok (if h:vs'.toArray.size=1 then vs'.toArray[0] else .tuple vs'.toArray) E'.w:=by
  have hF:results fn a'.tmps=(fn.results.mapM (resF a'.tmps)) >>= fun vs=>pure (if h:vs.size=1 then vs[0] else .tuple vs):=by
   unfold results
   congr 2
  rw [hF,←Dn (xs:=fn.results),DQ];simp only [Sem.run_bind,Sem.run_map,h1,Result.andThen_ok,Sem.run_pure]
 have hfin:∃ v,(results fn a'.tmps).run P E'.w = .ok v E'.w∧Rd ⟨E'.w,E.X⟩ β0 v (retD rs):=by
  refine ⟨_,hrun,?_⟩;cases h4 with
  | nil=>simpa [retD] using Rd.tuple (E:=⟨E'.w,E.X⟩) β0 [] [] (.nil _)
  | cons h5 h6 =>
    cases h6 with
    | nil=>simpa [retD] using h5
    | cons h7 h8 =>
      simp only [retD,Cm,AR];rw [dif_neg (by omega)];exact .tuple _ _ _ (.cons h5 (.cons h7 h8))
 obtain ⟨v,h5,h6⟩:=hfin;exact ⟨v,h5,v,rfl,hbelow,h6⟩

end
end Go.IL
open _root_.Array renaming foldl_toList → Fp
open Go.IL.Ent renaming held → DD
open List renaming map_cons → Ai,replicate → AK,set_append_right → Dh,take_succ_eq_append_getElem → DM
namespace Go.IL
section
variable {P:Ba} {O:bZ} {N:Nat} {S S':St} {o:Oper} {t:Nat}

theorem aF7{T e:At}{x y:Am}{z:AG}{size bytes:Nat}{l ys:List D}{f:Bool}{id:Nat}(id':Nat)(ho:o.op = .call { callee:=.builtin .append,args:=#[x,y],argTypes:=#[T,T] })(hd:o.dst=some t)(ht:t<N)(hu:P.underlying T=some (.slice e))(hi:TI P e (some z) size bytes)(hz:z.cells.size=size)(hsp:0<size)(hx:S.op x = .gsl id size l)(he:S.ent id = .tail e size l.length)(hfr:S.ent id' = .fresh)(hl:∀ d∈l,d.cells.length=size)(hy:SV S y (.slice f ys))(hys:Flat size ys)(hm:l.length+ys.length≤maxLen)(hb:(l.length+ys.length)*bytes≤140737488355328) :
 IOp P O N o S (((S.setE id .none).setE id' (.tail e size (l.length+ys.length))).set t (.gsl id' size (l++ys))):=by
 refine wF (S1:=S.setE id .none) id' ho hd ht hu hi hz hsp rfl ?_ hfr ?_ hl hy hys hm hb
 · intro j
   by_cases hj:id=j
   · subst hj; right; simp [BA,entL,Br,aV]
   · left; simp [BA,entL,Br,aV,hj]
 · intro E β a hr;have hv:=hr.op x;rw [hx] at hv;generalize hev:a.eval x=v at hv;cases hv with
   | ngsl=>exact .inl ⟨rfl,rfl⟩
   | gsl _ _ b len cap _ vs _ hβ hln hc hzz hsz hrow hvs c e' f' h1 h2 h3 =>
     right;have hent:=hr.h.ent id;rw [he] at hent
     rcases hent with ⟨h4,_⟩ | ⟨b',c',h4,h5,h6,h7⟩
     · rw [hβ] at h4; cases h4
     · rw [hβ] at h4; cases h4;rw [h6] at h1; cases h1;subst hln;refine ⟨b,cap,_,vs,rfl,hc,h3,h6,h2,hrow,hvs,h5,h7,?_⟩;intro j hj hb
       by_cases hji:id=j
       · subst hji; simp [BA,entL,Br,aV,DD] at hj
       · have hj':(S.ent j).held=true:=by simpa [BA,entL,Br,aV,hji] using hj
         exact hji (hr.h.inj id j b (by rw [he]; rfl) hj' hβ hb)

theorem aBk{T e:At}{x y:Am}{z:AG}{size bytes:Nat}{ys:List D}{f:Bool}(id':Nat)(ho:o.op = .call { callee:=.builtin .append,args:=#[x,y],argTypes:=#[T,T] })(hd:o.dst=some t)(ht:t<N)(hu:P.underlying T=some (.slice e))(hi:TI P e (some z) size bytes)(hz:z.cells.size=size)(hsp:0<size)(hx:S.op x = .nils)(hfr:S.ent id' = .fresh)(hy:SV S y (.slice f ys))(hys:Flat size ys)(hm:ys.length≤maxLen)(hb:ys.length*bytes≤140737488355328) :
 IOp P O N o S ((S.setE id' (.tail e size ys.length)).set t (.gsl id' size ys)):=by
 have:=wF (P:=P) (O:=O) (N:=N) (l:=[]) (S1:=S) id' ho hd ht hu hi hz hsp rfl (fun j=>.inl rfl) hfr ?_ (by simp) hy hys (by simpa using hm) (by simpa using hb)
 · simpa using this
 · intro E β a hr;have hv:=hr.op x;rw [hx] at hv;generalize hev:a.eval x=v at hv;cases hv;exact .inl ⟨rfl,rfl⟩



theorem aD0(off:Nat):∀ (us:List AG) (k:Nat) (cells:Array AG),off+k+us.length≤cells.size →
 ((us.zipIdx k).foldl (fun cs (x:AG×Nat)=>cs.setIfInBounds (off+x.2) x.1) cells).toList=cells.toList.take (off+k)++us++cells.toList.drop (off+k+us.length)
 | [],k,cells,_=>by simp
 | u::us,k,cells,h=>by
   simp only [AR] at h;have ih:=aD0 off us (k+1) (cells.setIfInBounds (off+k) u) (by simp; omega);simp only [List.zipIdx_cons,List.foldl_cons];rw [ih];have h1:off+k<cells.toList.length:=by simp; omega
   simp only [Array.toList_setIfInBounds];rw [List.take_set,List.drop_set_of_lt (by omega)];have h2:(cells.toList.take (off+(k+1))).set (off+k) u=cells.toList.take (off+k)++[u]:=by
    rw [←Ed,DM (by simpa using h1)];rw [Dh _ _ (by simp; omega)];have:off+k-(List.take (off+k) cells.toList).length=0:=by simp; simp at h1; omega
    rw [this]; simp
   rw [h2];simp only [AA,List.singleton_append,AR,Ed]
   congr 3
   omega

def aAm(place:Nat→Option (Nat×Nat))(cells:List D):List (Nat×D)→Ag (List D)
 | []=>some cells
 | (i,d)::rest =>
   match place i with
   | none=>none
   | some (off,size)=>if d.boxable=false∨d.cells.length≠size∨cells.length<off+size then none else aAm place (jG cells off d.cells) rest

inductive PVs (S:St):List (Nat×Am)→List (Nat×D)→Prop
 | nil:PVs S [] []
 | cons {i x d xs ds} (h:SV S x d) (t:PVs S xs ds):PVs S ((i,x)::xs) ((i,d)::ds)

theorem aAO{E:Env}{β:bY}{a:Act}(hr:Rel O N S E β a){place:Nat→Ag (Nat×Nat)}:∀ {ps:List (Nat×Am)} {ds:List (Nat×D)} {cells:Array AG} {cs cs':List D},PVs S ps ds →
 RdL E β cells.toList cs→aAm place cs ds=some cs'→∃ cells',Instr.fill place cells (ps.map fun p=>(p.1,a.eval p.2))=some cells'∧RdL E β cells'.toList cs'
 | _,_,cells,cs,cs',.nil,hc,hf=>by simp [aAm] at hf; subst hf; exact ⟨cells,rfl,hc⟩
 | _,_,cells,cs,cs',.cons (i:=i) (x:=x) (d:=d) h t,hc,hf=>by
   simp only [aAm] at hf;split at hf
   · cases hf
   · rename_i off size hp;split at hf
     · cases hf
     · rename_i hcond;simp only [not_or] at hcond;obtain ⟨h1,h2,h3⟩:=hcond;have h2:d.cells.length=size:=by simpa using h2
       have hv:=wK (h.rd hr) (by simpa using h1);have hvl:(a.eval x).cells.size=size:=by rw [←h2,←hv.length]; simp
       have hcl:=hc.length;have hset:=aD0 off (a.eval x).cells.toList 0 cells (by simp [hvl] at hcl ⊢; omega);simp only [CP] at hset;have hrd:RdL E β ((a.eval x).cells.toList.zipIdx.foldl (fun cs (x:AG×Nat)=>cs.setIfInBounds (off+x.2) x.1) cells).toList (jG cs off d.cells):=by
        rw [hset,jG,hv.length];exact ((hc.take _).append hv).append (hc.drop _)
       obtain ⟨cells',h4,h5⟩:=aAO hr t hrd hf;refine ⟨cells',?_,h5⟩;simp only [Ai,Instr.fill,hp,hvl];rw [Al (by simp at hcl ⊢; omega)];rw [←h4]
       congr 1
       rw [←Fp,Array.toList_zipIdx]

theorem cZ{T:TypeId}{fs:Array Field}{places:Array (Nat×Nat)}{ps:List (Nat×Am)}{z:AG}{size bytes:Nat}{ds:List (Nat×D)}{cs:List D}(ho:o.op = .build T ps.toArray)(hd:o.dst=some t)(ht:t<N)(hu:P.underlying T=some (.struct fs))(hi:TI P T (some z) size bytes)(hp:∀ w,(fs.mapM fun f=>Functor.map (Prod.mk f.offset) (sizeOf f.type)).run P w = .ok places w)(hz:(DO z).boxable=true)(hx:PVs S ps ds)(hf:aAm (places[·]?) (DO z).cells ds=some cs):IOp P O N o S (S.set t (.agg cs)) :=
 kG hd ht fun E β a hr=>by
  obtain ⟨i,h1,h2,_⟩:=hi.at;obtain ⟨cells,h3,h4⟩:=aAO hr hx (wK (tW E β z) hz) hf;refine ⟨.agg cells,?_,by simpa using Rd.agg β cells.toList cs h4⟩;simp [execOp,ho,Instr.build,zeroValue,typeInfo,h1,h2,run_underlying hu,hp,h3]

theorem wE{T e:At}{len esz eb:Nat}{ez:Ag AG}{ps:List (Nat×Am)}{z:AG}{size bytes:Nat}{ds:List (Nat×D)}{cs:List D}(ho:o.op = .build T ps.toArray)(hd:o.dst=some t)(ht:t<N)(hu:P.underlying T=some (.array len e))(hi:TI P T (some z) size bytes)(he:TI P e ez esz eb)(hz:(DO z).boxable=true)(hx:PVs S ps ds)(hf:aAm (fun i=>some (i*esz,esz)) (DO z).cells ds=some cs):IOp P O N o S (S.set t (.agg cs)) :=
 kG hd ht fun E β a hr=>by
  obtain ⟨i,h1,h2,_⟩:=hi.at;obtain ⟨cells,h3,h4⟩:=aAO hr hx (wK (tW E β z) hz) hf;refine ⟨.agg cells,?_,by simpa using Rd.agg β cells.toList cs h4⟩;simp [execOp,ho,Instr.build,zeroValue,typeInfo,h1,h2,run_underlying hu,he.run_size,h3]

theorem vA(E:Env)(β:bY):∀ (vs:List AG),RdL E β vs (AK vs.length .dead)
 | []=>.nil _
 | v::vs=>.cons (.dead _ v) (vA E β vs)

end
end Go.IL
open List renaming eq_nil_of_length_eq_zero → FM,exists_mem_of_ne_nil → Eu,length_nil → Cj,mem_of_mem_drop → Fa,mem_of_mem_take → Dp,take_of_length_le → Cr
open Nat renaming le_mul_of_pos_right → ED,zero_le → CZ
open Option renaming map_none → Ei
namespace Go.IL
open RowKit (Below)
section
variable {P:Ba} {O:bZ} {N:Nat} {S S':St} {o:Oper} {t:Nat}

theorem aHV{d:D}(hd:o.dst=some t)(ht:t<N)(h:∀ E β a,Rel O N S E β a→∃ v w',(execOp a.eval o).run P E.w = .ok (.value v) w'∧Below E.w.heap.size E.w w'∧Rd ⟨w',E.X⟩ β v d):IOp P O N o S (S.set t d):=by
 intro E β a hr next Q hn;obtain ⟨v,w',hrun,hb,hrd⟩:=h E β a hr;unfold Oper.wp;rw [hrun];simp only [Oper.upon,hd];have hr':Rel O N S ⟨w',E.X⟩ β a:=⟨hr.n,hr.nd.below hb,hr.h.below hb,fun s=>CA (qK hb) (bY.le.refl _) (hr.sl s)⟩;exact hn ⟨w',E.X⟩ β _ (hr'.set ht hrd)

theorem aFz{e:TypeId}{sz:Nat}{ds:List D}(id:Nat)(hd:o.dst=some t)(ht:t<N)(hf:S.ent id = .fresh)(hz:∀ d∈ds,d.cells.length=sz)(hsp:0<sz)(h:∀ E β a,Rel O N S E β a→∃ (vs:List AG) (cap:Nat) (c:Array AG) (w1:World),(execOp a.eval o).run P E.w = .ok (.value (.slice (some ⟨E.w.heap.size,0,none⟩) ds.length cap)) (w1.alloc (.cells c e))∧w1.heap=E.w.heap ∧
   w1.os=E.w.os∧w1.tape=E.w.tape∧w1.output=E.w.output∧RdL E β0 vs (Ac ds)∧c.toList.take vs.length=vs∧c.size=cap*sz∧ds.length≤cap∧cap≤maxLen) :
 IOp P O N o S ((S.setE id (.tail e sz ds.length)).set t (.gsl id sz ds)):=by
 intro E β a hr next Q hn;obtain ⟨vs,cap,c,w1,hrun,hh,hos,htp,hou,hvs,hct,hcs,hlc,hcm⟩:=h E β a hr;unfold Oper.wp;rw [hrun];simp only [Oper.upon,hd];have hfr:β id=none:=by have:=hr.h.ent id; rw [hf] at this; exact this
 let E':Env:=⟨w1.alloc (.cells c e),fun b o=>(b=E.w.heap.size∧ds.length*sz≤o)∨E.X b o⟩
 let β':bY:=fun j=>if j=id then some E.w.heap.size else β j
 have hβ:β.le β':=fun j b hj=>by
  by_cases hji:j=id
  · subst hji; rw [hfr] at hj; cases hj
  · simp [β',hji,hj]
 have hsz1:w1.heap.size=E.w.heap.size:=by rw [hh]
 have hs:Step O E E' E.w.heap.size :=
  ⟨hos,htp,hou,by simp [E',hsz1],by simp [E',hsz1],.inl hr.h.size,fun k hk _=>by rw [heap_alloc_old w1 _ (by rw [hsz1]; exact hk),hh],fun k o hk=>by simp [E',hk],fun _ h=>BU _ (dR h)⟩
 have hle:E.le E':=hs.le (fun o v h1 _=>by have:=World.block_lt_of_cell? _ _ h1; simp at this) (fun c e f h1=>by have:=dR h1; simp at this);have hnew:E'.w.heap[E.w.heap.size]? = some (.cells c e (0,0)):=by rw [←hsz1]; exact heap_alloc_new w1 _
 have hfl:(Ac ds).length=ds.length*sz:=qQ hz;have hvl:=hvs.length;have hrow:E'.row E.w.heap.size 0 vs:=fun k v hk=>by
  have hlt:=(Aj.1 hk).1;refine ⟨?_,?_⟩
  · rw [Bj,cell_of_row _ _ _ _ _ _ hnew,←CB];have h1:(c.toList.take vs.length)[k]? = some v:=by rw [hct]; exact hk
    rwa [Ca,Ao hlt] at h1
  · rintro (⟨_,h⟩ | h)
    · omega
    · have:=hr.h.xlt _ _ h; omega
 refine hn E' β' _ ⟨by simp [Act.put,hr.n],hr.nd.step hs,?_,?_⟩
 · refine Dd hr.h hs hle hβ ?_ ?_ (id:=id) (by simp [β']) ?_ (fun _ _=>trivial)
   · intro j hj; left; constructor
     · simp [BA,entL,Br,Bo,aV,Ne.symm hj]
     · simp [β',hj]
   · intro j hj hheld hb;have:(S.ent j).held=true:=by simpa [BA,entL,Br,Bo,aV,Ne.symm hj] using hheld
     exact BU _ (hr.h.lt this hb)
   · simp only [BA,entL,Br,Bo,aV,if_true];exact ⟨c,hnew,fun o ho=>.inl ⟨rfl,ho⟩⟩
 · intro s;have hts:t<a.tmps.size:=hr.n ▸ ht
   by_cases hst:t=s
   · subst hst;simp only [Act.put,Cf,Bo,aV,if_true,BI,BZ,hts,CM];exact .gsl _ _ E.w.heap.size _ cap sz vs _ (by simp [β']) rfl hlc hz hsp hrow (AW hle (bY.le.refl _) hvs) _ _ _ hnew hcs hcm
   · have:=CA hle hβ (hr.sl s);simpa [Act.put,Cf,Bo,Br,aV,hst,Bf] using this

theorem aB8{T e:At}{len esz eb:Nat}{ez:AG}{ps:List (Nat×Am)}{dps:List (Nat×D)}{ds:List D}(id:Nat)(ho:o.op = .buildSlice T len ps.toArray)(hd:o.dst=some t)(ht:t<N)(hu:P.underlying T=some (.slice e))(he:TI P e (some ez) esz eb)(hsp:0<esz)(hf:S.ent id = .fresh)(hx:PVs S ps dps)(hfill:aAm (fun i=>some (i*esz,esz)) (AK (len*esz) .dead) dps=some (Ac ds))(hl:ds.length=len)(hz:∀ d∈ds,d.cells.length=esz)(hp:AE noRef (Ac ds)=true)(hb:len*esz≤2 ^ 24) :
 IOp P O N o S ((S.setE id (.tail e esz len)).set t (.gsl id esz ds)):=by
 subst hl;refine aFz id hd ht hf hz hsp fun E β a hr=>?_
 obtain ⟨i,h1,h2,h3,_⟩:=he.at
 let init:Array AG:=(Array.range (ds.length*esz)).map fun k=>(if ds.length*esz=0 then #[] else ez.cells)[k % (if ds.length*esz=0 then #[] else ez.cells).size]!
 have hinit:RdL E β init.toList (AK (ds.length*esz) .dead):=by
  have:=vA E β init.toList
  rwa [show init.toList.length=ds.length*esz by simp [init]] at this
 obtain ⟨cells,h4,h5⟩:=aAO hr hx hinit hfill;have hcl:cells.size=ds.length*esz:=by have:=h5.length; rw [qQ hz] at this; simpa using this
 refine ⟨cells.toList,ds.length,cells,E.w,?_,rfl,rfl,rfl,rfl,h5.bare hp,by rw [Cr (by simp)],hcl,AP _,?_⟩
 · have hb':¬ (2 ^ 24<ds.length*esz):=by omega
   simp only [execOp,ho,Instr.buildSlice,Sem.run_bind,run_underlying hu,Result.andThen_ok,he.run_size];rw [Al (by simpa using hb')]
   by_cases h0:ds.length*esz=0
   · have h4':=h4;simp only [init,h0,if_true] at h4' ⊢;simp at h4';simp [h4',newRow]
   · have h4':=h4;simp only [init,h0,if_false] at h4' ⊢;simp [zeroValue,typeInfo,h1,h2,h4',newRow]
 · have:ds.length≤ds.length*esz:=ED _ hsp;simp only [maxLen]; omega

def zS(S:St)(z:Int)(x:Option Am)(n:Int):Prop :=
 match x with
 | none=>n=z
 | some x=>∃ k,SV S x (.int k n)

theorem uL{E:Env}{β:bY}{a:Act}(hr:Rel O N S E β a){isS:Bool}{len cap:Nat}{lo hi:Ag Am}{l h:Int}(hlo:zS S 0 lo l)(hhi:zS S len hi h)(h0:0≤l)(h1:l≤h)(h2:h≤len)(h3:len≤cap) :
 (Instr.sliceBounds isS len cap (lo.map a.eval) (hi.map a.eval) none).run P E.w = .ok (l.toNat,h.toNat,cap) E.w:=by
 have hh:h≤(cap:Int):=by omega
 have e1:0≤h:=by omega
 have e2:l≤(h.toNat:Int):=by omega
 cases lo with
 | none =>
   have hlo:l=0:=hlo;subst hlo;cases hi with
   | none =>
     have hhi:h=len:=hhi;subst hhi;simp [Instr.sliceBounds]
   | some y =>
     obtain ⟨k,hy⟩:=hhi;simp [Instr.sliceBounds,Instr.sliceBound,lS (hy.rd hr),asIntOf,e1,hh]
 | some x =>
   obtain ⟨k,hx⟩:=hlo;cases hi with
   | none =>
     have hhi:h=len:=hhi;subst hhi;have:l≤(len:Int):=h1;simp [Instr.sliceBounds,Instr.sliceBound,lS (hx.rd hr),asIntOf,h0,this]
   | some y =>
     obtain ⟨k',hy⟩:=hhi;simp [Instr.sliceBounds,Instr.sliceBound,lS (hx.rd hr),lS (hy.rd hr),asIntOf,h0,e1,hh];intro _; omega

theorem aBe{T e:At}{x:Am}{lo hi:Ag Am}{s r:List D}{f:Bool}{l h:Int}{z:Ag AG}{size bytes:Nat}(ho:o.op = .slice T x lo hi none)(hd:o.dst=some t)(ht:t<N)(hu:P.underlying T=some (.slice e))(hi':TI P e z size bytes)(hx:SV S x (.slice f s))(hz:∀ d∈s,d.cells.length=size)(hlo:zS S 0 lo l)(hhi:zS S s.length hi h)(h0:0≤l)(h1:l≤h)(h2:h≤s.length)(hr':(s.take h.toNat).drop l.toNat=r):IOp P O N o S (S.set t (.slice false r)) :=
 kG hd ht fun E β a hr=>by
  subst hr'
  rcases tV (hx.rd hr) with ⟨hev,rfl⟩ | ⟨b,off,cap,sz,vs,hev,hc,_,hzz,hsp,hrow,hvs⟩ | ⟨ad,cap,hev,rfl⟩
  rotate_right
  · have hb:=uL (P:=P) hr (isS:=true) hlo hhi h0 h1 h2 (CZ cap);have e1:h.toNat=0:=by simp at h2; omega
    have e2:l.toNat=0:=by omega
    refine ⟨.slice (some ad) 0 cap,?_,by simpa using Rd.eslice β ad cap false (fun h=>by cases h)⟩;simp only [Cj] at hb;simp [execOp,ho,hev,Instr.sliceAt,Instr.slice,run_underlying hu,hb,hi'.run_size,e1,e2,Addr.add]
  · have hb:=uL (P:=P) hr (isS:=true) hlo hhi h0 h1 h2 (AP _);have e1:h.toNat=0:=by simp at h2; omega
    have e2:l.toNat=0:=by omega
    refine ⟨.slice none 0 0,?_,by simpa using Rd.nslice β false⟩;simp only [Cj] at hb;simp [execOp,ho,hev,Instr.sliceAt,Instr.slice,run_underlying hu,hb,hi'.run_size,e1,e2]
  · have hb:=uL (P:=P) hr (isS:=true) hlo hhi h0 h1 h2 hc;have hlen:((s.take h.toNat).drop l.toNat).length=h.toNat-l.toNat:=by rw [BV,Bm]; omega
    by_cases hs:s=[]
    · subst hs;have e1:h.toNat=0:=by simp at h2; omega
      have e2:l.toNat=0:=by omega
      refine ⟨.slice (some ⟨b,off,none⟩) 0 cap,?_,?_⟩
      · simp only [Cj] at hb;simp [execOp,ho,hev,Instr.sliceAt,Instr.slice,run_underlying hu,hb,hi'.run_size,e1,e2,nR]
      · simp only [List.take_nil,List.drop_nil];exact .slice _ b off 0 cap sz false vs [] rfl (CZ _) (by simp) (by simp) hsp hrow hvs
    · have hsz:sz=size:=by
       obtain ⟨d,hd⟩:=Eu s hs;rw [←hzz d hd,hz d hd]
      subst hsz;have hflat:∀ (s:List D) (n:Nat),(∀ d∈s,d.cells.length=sz)→Ac (s.take n)=(Ac s).take (n*sz):=by
       intro s
       induction s with
       | nil=>intro n _; simp [Ac]
       | cons d s ih =>
         intro n hz;cases n with
         | zero=>simp [Ac]
         | succ n =>
           have h1:=hz d (by simp);have:=ih n (fun d hd=>hz d (by simp [hd]));simp only [Ac,List.take_succ_cons,CK] at this ⊢;rw [this,Bw,CL,EO,←h1,List.take_length_add_append]
      have hflatd:∀ (s:List D) (n:Nat),(∀ d∈s,d.cells.length=sz)→Ac (s.drop n)=(Ac s).drop (n*sz):=by
       intro s
       induction s with
       | nil=>intro n _; simp [Ac]
       | cons d s ih =>
         intro n hz;cases n with
         | zero=>simp
         | succ n =>
           have h1:=hz d (by simp);have:=ih n (fun d hd=>hz d (by simp [hd]));simp only [Ac,List.drop_succ_cons,CK] at this ⊢;rw [this,Bw,CL,EO,←h1,Ef]
      have hsub:∀ d∈(s.take h.toNat).drop l.toNat,d.cells.length=sz:=fun d hd=>hzz d (Dp (Fa hd))
      have hrd:RdL E β0 ((vs.take (h.toNat*sz)).drop (l.toNat*sz)) (Ac ((s.take h.toNat).drop l.toNat)):=by
       rw [hflatd _ _ (fun d hd=>hzz d (Dp hd)),hflat _ _ hzz];exact (hvs.take _).drop _
      by_cases hcl:cap=l.toNat
      · have e3:h.toNat=l.toNat:=by omega
        refine ⟨.slice (some ⟨b,off,none⟩) (h.toNat-l.toNat) (cap-l.toNat),?_,?_⟩
        · simp only [execOp,ho,hev,Instr.sliceAt,Instr.slice,Sem.run_bind,run_underlying hu,Result.andThen_ok,Ei,hb,hi'.run_size,Sem.run_pure];rw [Ao hcl]
        · have hnil:(s.take h.toNat).drop l.toNat=[]:=FM (by rw [hlen]; omega);rw [hnil];exact .slice _ b off _ _ sz false [] [] (by simp; omega) (by omega) (by simp) (by simp) hsp (fun k v hk=>by simp at hk) (by simpa [Ac] using RdL.nil β0)
      · refine ⟨.slice (some ⟨b,off+l.toNat*sz,none⟩) (h.toNat-l.toNat) (cap-l.toNat),?_,?_⟩
        · simp [execOp,ho,hev,Instr.sliceAt,Instr.slice,run_underlying hu,hb,hi'.run_size,hcl,nR]
        · exact .slice _ b _ _ _ sz false _ _ hlen (by omega) (by simp) hsub hsp ((hrow.take _).drop _) hrd

def aH3(c:UInt8):D:=.int .u8 c.toNat

end
end Go.IL
open List renaming length_map → An,map_map → BM
open Nat renaming ble → AZ,strongRecOn → Ej
namespace Go.IL
open RowKit (Below)
section
variable {P:Ba} {O:bZ} {N:Nat} {S S':St} {o:Oper} {t:Nat}

theorem aH5(l:List DC):(bs l).toList=l:=by simp [bs]

def str2(op:BinOp)(a b:List DC):Ag D :=
 match op with
 | .eql=>some (.bool (decide (a=b)))
 | .neq=>some (.bool (!decide (a=b)))
 | .lss=>some (.bool (Op.bytesLess a b))
 | _=>none

theorem aIt{op:BinOp}{xt yt:At}{x y:Am}{a b:List DC}{d:D}(ho:o.op = .binOp op xt x y yt)(hd:o.dst=some t)(ht:t<N)(hx:SV S x (.str a))(hy:SV S y (.str b))(hr:str2 op a b=some d):IOp P O N o S (S.set t d) :=
 kG hd ht fun E β ac hrel=>by
  have h1:=aE0 (hx.rd hrel);have h2:=aE0 (hy.rd hrel);have e:(a == b)=decide (a=b):=by by_cases h:a=b <;> simp [h]
  cases op <;> simp only [str2,Option.some.injEq,reduceCtorEq] at hr <;> subst hr
  all_goals (refine ⟨_,?_,.bool _ _⟩; simp [execOp,ho,h1,h2,eqGuard,binOp,Op.stringOp,aH5,e])

theorem iop_cat{xt yt:At}{x y:Am}{a b c:List DC}(ho:o.op = .binOp .add xt x y yt)(hd:o.dst=some t)(ht:t<N)(hx:SV S x (.str a))(hy:SV S y (.str b))(hc:a++b=c)(hl:c.length≤9223372036854775807):IOp P O N o S (S.set t (.str c)) :=
 kG hd ht fun E β ac hrel=>by
  have h1:=aE0 (hx.rd hrel);have h2:=aE0 (hy.rd hrel);subst hc;refine ⟨.string (bs (a++b)),?_,.str _ _⟩;have h3:=run_string_add_sum (P:=P) (w:=E.w) (bs a) (bs b) (by simpa [bs_size] using hl);have h4:bs a++bs b=bs (a++b):=by simp only [bs]; exact ByteArray.mk_append_mk a b
  rw [h4] at h3;simp [execOp,ho,h1,h2,eqGuard,binOp,h3]

theorem aGE(l:List DC):Ac (l.map aH3)=l.map aH3:=by
 induction l with
 | nil=>rfl
 | cons c l ih=>simp only [Ac,Ai,CK] at ih ⊢; rw [ih]; rfl

theorem aDX{E:Env}{β:bY}:∀ {vs:List AG} {l:List DC},RdL E β vs (l.map aH3)→vs=l.map fun c=>.int .u8 c.toNat
 | _,[],.nil _=>rfl
 | _,c::l,.cons h t=>by
   simp only [Ai];rw [aDX t,lS (k:=.u8) (n:=c.toNat) h]

theorem aC8{T e dst:At}{x:Am}{f:Bool}{l:List DC}(ho:o.op = .convert T dst x)(hd:o.dst=some t)(ht:t<N)(hu:P.underlying T=some (.slice e))(he:P.underlying e=some (.int .u8))(hdst:P.underlying dst=some .string)(hx:SV S x (.slice f (l.map aH3))):IOp P O N o S (S.set t (.str l)) :=
 kG hd ht fun E β a hr=>by
  refine ⟨.string (bs l),?_,.str _ _⟩
  rcases tV (hx.rd hr) with ⟨hev,hl⟩ | ⟨b,off,cap,sz,vs,hev,hc,_,hz,hsp,hrow,hvs⟩ | ⟨ad,cap,hev,hl⟩
  rotate_right
  · have hl0:l=[]:=by simpa using hl
    subst hl0;have hz:=run_loadCells_list (P:=P) E.w ad [] (fun j v hj=>by simp at hj);have:=run_convert_bytes_string E.w T dst e (some ad) 0 cap hu he hdst (P:=P);simp only [Cj] at hz;simp [execOp,ho,hev,this,Conv.bytesToString,Sem.run_bind,hz];rfl
  · have hl0:l=[]:=by simpa using hl
    subst hl0;have:=run_convert_bytes_nil (P:=P) E.w T e hu he 0 0 dst hdst;simp [execOp,ho,hev,this];rfl
  · rw [aGE] at hvs;have hv:=aDX hvs;have h1:=run_convert_bytes_arg (P:=P) E.w T e hu he b off l.length cap (l.map fun c=>(c.toNat:Int)) (by simp) (fun i hi=>by
     have:=(hrow i (.int .u8 (l[i]).toNat) (by rw [hv]; simp [hi])).1;rw [this]; simp [List.getD,hi]) dst hdst
    have h2:strOfNums (l.map fun c=>(c.toNat:Int))=bs l:=by
     have:∀ s t:ByteArray,s.data.toList=t.data.toList→s=t:=fun s t h=>by
      cases s; cases t; congr; exact Array.toList_inj.1 h
     apply this;rw [strOfNums_data];simp [bs,BM,Function.comp_def]
    rw [h2] at h1;simp only [An] at hev;simp [execOp,ho,hev,h1]

theorem aAs{x y:Am}{ts:Array At}{k:IntKind}{a b c:Int}(ho:o.op = .call { callee:=.builtin .max,args:=#[x,y],argTypes:=ts })(hd:o.dst=some t)(ht:t<N)(hx:SV S x (.int k a))(hy:SV S y (.int k b))(hc:max a b=c):IOp P O N o S (S.set t (.int k c)) :=
 kG hd ht fun E β ac hr=>⟨.int k c,by
  subst hc;have:(if a<b then b else a)=max a b:=by split <;> omega
  simp [execOp,ho,resolve,invoke,builtin,Builtin.max_,Builtin.max2,lS (hx.rd hr),lS (hy.rd hr),this],.int _ _ _⟩

def St.held(S:St)(id:Nat):Bool:=(S.ent id).held
def St.okn(S:St)(id:Nat):Bool:=S.held id||AZ 1000 id

def Wk(d d':D):Prop:=∀ (E:Env) (β:bY) (v:AG),Rd E β v d→Rd E β v d'
inductive WkL:List D→List D→Prop
 | nil:WkL [] []
 | cons {d d' ds ds'} (h:Wk d d') (t:WkL ds ds'):WkL (d::ds) (d'::ds')
theorem Wk.refl(d:D):Wk d d:=fun _ _ _ h=>h
theorem WkL.refl:∀ (ds:List D),WkL ds ds
 | []=>.nil
 | d::ds=>.cons (.refl d) (WkL.refl ds)
theorem RdL.wk{E:Env}{β:bY}{ds ds':List D}(h:WkL ds ds'):∀ {vs:List AG},RdL E β vs ds→RdL E β vs ds':=by
 induction h with
 | nil=>exact fun h=>h
 | cons h t ih=>intro vs k; cases k with | cons h' k=>exact .cons (h _ _ _ h') (ih k)
inductive SlW (S S':St) (ρ:Nat→Nat):Nat→D→Prop
 | same {t d} (h:S.get t=d.ren ρ) (hr:d.refsIn S'.okn=true):SlW S S' ρ t d
 | coe {t d} (h:SV S (.tmp t) d) (hr:d.refsIn noRef=true):SlW S S' ρ t d
 | nils {t id sz} (h:S.get t = .nils):SlW S S' ρ t (.gsl id sz [])
 | nilo {t id sz} (h:S.get t = .nils):SlW S S' ρ t (.osl id sz 0)
 | cw {t d} (h:Wk (S.get t) (d.ren ρ)) (hr:d.refsIn S'.okn=true):SlW S S' ρ t d

inductive SubC:List D→List D→Prop
 | nil:SubC [] []
 | same {d ds ds'} (t:SubC ds ds'):SubC (d::ds) (d::ds')
 | nilg {id sz ds ds'} (t:SubC ds ds'):SubC (.nils::ds) (.gsl id sz []::ds')
 | nilo {id sz ds ds'} (t:SubC ds ds'):SubC (.nils::ds) (.osl id sz 0::ds')
 | nils {f ds ds'} (t:SubC ds ds'):SubC (.nils::ds) (.slice f []::ds')
 | gsl {id sz l ds ds'} (t:SubC ds ds'):SubC (.gsl id sz l::ds) (.slice false l::ds')
theorem RdL.subC{E:Env}{β:bY}{ds ds':List D}(h:SubC ds ds'):∀ {vs:List AG},RdL E β vs ds→RdL E β vs ds':=by
 induction h with
 | nil=>exact fun h=>h
 | same t ih=>intro vs h; cases h with | cons h k=>exact .cons h (ih k)
 | nilg t ih=>intro vs h; cases h with | cons h k=>cases h; exact .cons (.ngsl _ _ _) (ih k)
 | nilo t ih=>intro vs h; cases h with | cons h k=>cases h; exact .cons (.nosl _ _ _) (ih k)
 | nils t ih=>intro vs h; cases h with | cons h k=>cases h; exact .cons (.nslice _ _) (ih k)
 | gsl t ih =>
   intro vs h;cases h with
   | cons h k =>
     refine .cons ?_ (ih k);cases h with
     | gsl _ _ b len cap _ vs _ hβ hl hc hz hsz hr hv c e f h1 h2 h3=>exact .slice _ _ _ _ _ _ _ _ _ hl hc (by simp) hz hsz hr hv
     | ngsl=>exact .nslice _ _

inductive EntW (S S':St) (ρ:Nat→Nat):Nat→Ent→Prop
 | blk {id e ds ds'} (h:S.ent (ρ id) = .blk e ds') (hd:ds'=BD ρ ds) (hr:AE S'.okn ds=true):EntW S S' ρ id (.blk e ds)
 | cw {id e ds ds'} (h:S.ent (ρ id) = .blk e ds') (hd:WkL ds' (BD ρ ds)) (hr:AE S'.okn ds=true):EntW S S' ρ id (.blk e ds)
 | sub {id e ds ds'} (h:S.ent (ρ id) = .blk e ds') (hd:SubC ds' (BD ρ ds)) (hr:AE S'.okn ds=true):EntW S S' ρ id (.blk e ds)
 | tail {id e sz n} (h:S.ent (ρ id) = .tail e sz n):EntW S S' ρ id (.tail e sz n)
 | nils {id e sz} (h:S.ent (ρ id) = .fresh):EntW S S' ρ id (.tail e sz 0)
 | nilb {id e} (h:S.ent (ρ id) = .fresh):EntW S S' ρ id (.blk e [])
 | loop {id k ds ds' st pend} (h:S.ent (ρ id) = .loop k ds' st pend) (hd:ds'=BD ρ ds) (hr:AE S'.okn ds=true):EntW S S' ρ id (.loop k ds st pend)
 | kept {id k ds ds'} (h:S.ent (ρ id) = .kept k ds') (hd:ds'=BD ρ ds) (hr:AE S'.okn ds=true):EntW S S' ρ id (.kept k ds)
 | mp {id ks ds ds'} (h:S.ent (ρ id) = .mp ks ds') (hd:ds'=BD ρ ds) (hr:AE S'.okn ds=true):EntW S S' ρ id (.mp ks ds)

inductive AllW {α:Type} (p:Nat→α→Prop):List (Nat×α)→Prop
 | nil:AllW p []
 | cons {t d r} (h:p t d) (k:AllW p r):AllW p ((t,d)::r)
theorem AllW.mem{α:Type}{p:Nat→α→Prop}:∀ {l:List (Nat×α)},AllW p l→∀ t d,(t,d)∈l→p t d
 | _,.nil,_,_,h=>by cases h
 | _,.cons h k,t,d,hm=>by
   cases hm with
   | head=>exact h
   | tail _ hm=>exact k.mem t d hm

structure Weak (S S':St) (ρ:Nat→Nat):Prop where
 sl:AllW (SlW S S' ρ) S'.sl
 ent:AllW (EntW S S' ρ) S'.H
 inj:(S'.H.map fun x=>ρ x.1).Nodup
 fixed:∀ i,1000≤i→ρ i=i

theorem tC{ρ:Nat→Nat}{ds:List D}(h:BD ρ ds=[]):ds=[]:=by
 cases ds with
 | nil=>rfl
 | cons d ds=>simp [BD] at h

theorem qJ{α:Type}{z:α}{t:Nat}:∀ {l:List (Nat×α)},look z t l=z∨(t,look z t l)∈l
 | []=>.inl rfl
 | (s,d)::r=>by
   rw [aV]
   by_cases h:s=t
   · subst h; simp
   · rw [Al h]
     rcases qJ (z:=z) (t:=t) (l:=r) with h1 | h1
     · exact .inl h1
     · exact .inr (by simp [h1])

theorem vG{α:Type}{ρ:Nat→Nat}:∀ {l:List (Nat×α)},(l.map fun x=>ρ x.1).Nodup→∀ {i j:Nat} {a b:α},(i,a)∈l→(j,b)∈l→ρ i=ρ j→i=j
 | [],_,_,_,_,_,h,_,_=>by cases h
 | (k,c)::r,hn,i,j,a,b,hi,hj,he=>by
   simp only [Ai,Bl,Ak,not_exists,not_and] at hn;cases hi with
   | head=>cases hj with
     | head=>rfl
     | tail _ hj=>exact Ay he.symm (hn.1 (j,b) hj)
   | tail _ hi=>cases hj with
     | head=>exact Ay he (hn.1 (i,a) hi)
     | tail _ hj=>exact vG hn.2 hi hj he

theorem Rel.weak'{E:Env}{β:bY}{a:Act}(h:Rel O N S E β a){ρ:Nat→Nat}(hw:Weak S S' ρ):∃ β',Rel O N S' E β' a∧∀ id,S'.okn id=true→β' id=β (ρ id):=by
 let β':bY:=fun id=>if S'.held id=true then β (ρ id) else if 1000≤id then β id else none
 have hp:∀ id,S'.okn id=true→β' id=β (ρ id):=fun id hid=>by
  by_cases hh:S'.held id=true
  · simp [β',hh]
  · have h1:1000≤id:=by simpa [St.okn,hh] using hid
    simp [β',hh,h1,hw.fixed id h1]
 have hph:∀ id,S'.held id=true→β' id=β (ρ id):=fun id hid=>by simp [β',hid]
 have key:∀ id e,S'.ent id=e→e ≠ .none→e ≠ .fresh→(id,e)∈S'.H:=fun id e he h1 h2=>by
  rcases qJ (z:=defE id) (t:=id) (l:=S'.H) with h4 | h4
  · have h5:S'.ent id=defE id:=h4;rw [he] at h5;unfold defE at h5;split at h5
    · exact Ay h5 h1
    · exact Ay h5 h2
  · rw [←he]; exact h4
 have keyh:∀ id,S'.held id=true→(id,S'.ent id)∈S'.H:=fun id hid=>by
  refine key id _ rfl ?_ ?_ <;> (intro h5; rw [St.held,h5] at hid; cases hid)
 refine ⟨β',⟨h.n,h.nd,{ h.h with ent:=fun id=>?_,inj:=fun i j b hi hj hbi hbj=>?_,given:=fun i b hi=>?_ },fun t=>?_⟩,hp⟩
 · cases hh : S'.held id with
   | false =>
     cases hE:S'.ent id with
     | none=>trivial
     | fresh =>
       show β' id=none
       by_cases h1000:1000≤id
       · exfalso
         rcases qJ (z:=defE id) (t:=id) (l:=S'.H) with h4 | h4
         · have h5:S'.ent id=defE id:=h4;rw [hE] at h5;simp [defE,h1000] at h5
         · have h5:(id,Ent.fresh)∈S'.H:=by
            have:look (defE id) id S'.H = .fresh:=hE
            rwa [this] at h4
           have:=hw.ent.mem id _ h5;cases this
       · simp [β',hh,h1000]
     | blk=>rw [St.held,hE] at hh; cases hh
     | tail=>rw [St.held,hE] at hh; cases hh
     | loop=>rw [St.held,hE] at hh; cases hh
     | mp=>rw [St.held,hE] at hh; cases hh
     | kept k ds =>
       have h4:=hw.ent.mem id _ (key id _ hE (by simp) (by simp));have h5:=h.h.ent (ρ id);cases h4 with
       | kept hS hd hr =>
         rw [hS] at h5;subst hd;exact ⟨Cv hp _ h5.1 hr,h5.2⟩
   | true =>
     have h4:=hw.ent.mem id _ (keyh id hh);have hb:β' id=β (ρ id):=hph id hh;have h5:=h.h.ent (ρ id);generalize hE:S'.ent id=e at h4;cases h4 with
     | blk hS hd hr =>
       rw [hS] at h5;subst hd
       rcases h5 with ⟨h6,h7⟩ | ⟨b,vs,sp,h7,h8,h9,h10,h11⟩
       · exact .inl ⟨hb.trans h6,tC h7⟩
       · exact .inr ⟨b,vs,sp,hb.trans h7,h8,h9,h10,Cv hp _ h11 hr⟩
     | sub hS hd hr =>
       rw [hS] at h5
       rcases h5 with ⟨h6,h7⟩ | ⟨b,vs,sp,h7,h8,h9,h10,h11⟩
       · subst h7;generalize hq:BD ρ _=q at hd;cases hd;exact .inl ⟨hb.trans h6,tC hq⟩
       · exact .inr ⟨b,vs,sp,hb.trans h7,h8,h9,h10,Cv hp _ (RdL.subC hd h11) hr⟩
     | cw hS hd hr =>
       rw [hS] at h5
       rcases h5 with ⟨h6,h7⟩ | ⟨b,vs,sp,h7,h8,h9,h10,h11⟩
       · subst h7;generalize hq:BD ρ _=q at hd;cases hd;exact .inl ⟨hb.trans h6,tC hq⟩
       · exact .inr ⟨b,vs,sp,hb.trans h7,h8,h9,h10,Cv hp _ (RdL.wk hd h11) hr⟩
     | tail hS =>
       rw [hS] at h5
       rcases h5 with ⟨h6,h7⟩ | ⟨b,c,h6,h7,h8,h9⟩
       · exact .inl ⟨hb.trans h6,h7⟩
       · exact .inr ⟨b,c,hb.trans h6,h7,h8,h9⟩
     | nils hS =>
       rw [hS] at h5;exact .inl ⟨hb.trans h5,rfl⟩
     | nilb hS =>
       rw [hS] at h5;exact .inl ⟨hb.trans h5,rfl⟩
     | loop hS hd hr =>
       rw [hS] at h5;subst hd;obtain ⟨k,r,h3,h4,h5,h6,h7,h8,h9,h10,h11,h12⟩:=h5;exact ⟨k,r,hb.trans h3,h4,h5,h6,h7,h8,h9,h10,h11,h12.1,Cv hp _ h12.2 hr⟩
     | mp hS hd hr =>
       rw [hS] at h5;subst hd;obtain ⟨k,es,cl,h3,h4,h5,h6,h7,h8⟩:=h5;exact ⟨k,es,cl,hb.trans h3,h4,h5,h6,h7,Cv hp _ h8 hr⟩
     | kept hS hd hr=>rw [St.held,hE] at hh; cases hh
 · have hi':S'.held i=true:=hi;have hj':S'.held j=true:=hj;have e1:=hph i hi';have e2:=hph j hj';rw [e1] at hbi;rw [e2] at hbj;have heldρ:∀ id b,S'.held id=true→β (ρ id)=some b→(S.ent (ρ id)).held=true:=fun id b hid hb=>by
    have h4:=hw.ent.mem id _ (keyh id hid);have h5:=h.h.ent (ρ id);generalize hE:S'.ent id=e at h4;cases h4 with
    | blk hS=>rw [hS]; rfl
    | sub hS=>rw [hS]; rfl
    | cw hS=>rw [hS]; rfl
    | tail hS=>rw [hS]; rfl
    | nils hS=>rw [hS] at h5; rw [h5] at hb; cases hb
    | nilb hS=>rw [hS] at h5; rw [h5] at hb; cases hb
    | loop hS=>rw [hS]; rfl
    | mp hS=>rw [hS]; rfl
    | kept hS=>rw [St.held,hE] at hid; cases hid
   have:=h.h.inj (ρ i) (ρ j) b (heldρ i b hi' hbi) (heldρ j b hj' hbj) hbi hbj;exact vG hw.inj (keyh i hi') (keyh j hj') this
 · have h1:=h.h.gid i b hi;have h2:=h.h.given i b hi
   by_cases hh:S'.held i=true
   · simp [β',hh,hw.fixed i h1,h2]
   · simp [β',hh,h1,h2]
 · rcases qJ (z:=D.dead) (t:=t) (l:=S'.sl) with h4 | h4
   · have:S'.get t = .dead:=h4;rw [this]; exact .dead _ _
   · have h5:=hw.sl.mem t _ h4;have h7:=h.sl t;have h8:S'.get t=look D.dead t S'.sl:=rfl;rw [h8];generalize look D.dead t S'.sl=d at h5;cases h5 with
     | same he hr=>rw [he] at h7; exact FI hp _ h7 hr
     | coe he hr=>exact ((he _ _ _ h7).bare hr).up
     | cw he hr=>exact FI hp _ (he _ _ _ h7) hr
     | nilo he =>
       rw [he] at h7;generalize a.tmps.getD t undef=v at h7;cases h7;exact .nosl _ _ _
     | nils he =>
       rw [he] at h7;generalize a.tmps.getD t undef=v at h7;cases h7;exact .ngsl _ _ _

theorem Rel.weak{E:Env}{β:bY}{a:Act}(h:Rel O N S E β a){ρ:Nat→Nat}(hw:Weak S S' ρ):∃ β',Rel O N S' E β' a :=
 let ⟨β',h1,_⟩:=h.weak' hw; ⟨β',h1⟩

theorem vI{c:Code}{Q:Exit→St→Prop}(ρ:Nat→Nat)(hw:Weak S S' ρ)(h:IWP P O N c S' Q):IWP P O N c S Q :=
 fun E β a hr=>let ⟨β',hr'⟩:=hr.weak hw; h E β' a hr'
theorem iS{ops:Array Oper}{l:List Oper}{Q:Exit→St→Prop}(ρ:Nat→Nat)(hw:Weak S S' ρ)(h:ILS P O N ops l S' Q):ILS P O N ops l S Q :=
 fun E β a hr=>let ⟨β',hr'⟩:=hr.weak hw; h E β' a hr'

theorem bR{α:Type}{c:Code}{Q:Exit→St→Prop}(st:α→St)(inv:α→Prop)(m:α→Nat)(a0:α)(ρ0:Nat→Nat)(h0:Weak S (st a0) ρ0)(i0:inv a0)(round:∀ x,inv x→IWP P O N c (st x) (aCe (fun S'=>∃ y ρ,Weak S' (st y) ρ∧inv y∧m y<m x) Q)):IWP P O N (.loop c) S Q:=by
 refine vI ρ0 h0 ?_;intro E β a hr b k cs hro hb hroom
 have key:∀ n x E β a,m x=n→inv x→Rel O N (st x) E β a →
  ∃ e a' w',(∃ S' E' β',E'.w=w'∧Rel O N S' E' β' a'∧Q e S')∧ArrivesIn (Machine.fenced P (fen O.round)) P (lone (b.atR a (.code c :: .inLoop c::k)) cs E.w) b k cs e a' w':=by
  intro n
  induction n using Ej with
  | _ n ih =>
    intro x E β a hn hI hr;obtain ⟨e,a₁,w₁,⟨S₁,E₁,β₁,rfl,hr₁,hq⟩,harr⟩:=round x hI E β a hr b (.inLoop c::k) cs hro hb hroom;cases e with
    | normal =>
      obtain ⟨y,ρ,hw,hI₁,hlt⟩:=hq;obtain ⟨β₂,hr₂⟩:=hr₁.weak hw;obtain ⟨e₂,a₂,w₂,hq₂,harr₂⟩:=ih (m y) (hn ▸ hlt) y E₁ β₂ a₁ rfl hI₁ hr₂;exact ⟨e₂,a₂,w₂,hq₂,.of_steps (StepsIn.trans harr (.one (fenced_calm hb hroom rfl) stepR_inLoop)) harr₂⟩
    | exit id=>exact ⟨_,a₁,_,⟨S₁,E₁,β₁,rfl,hr₁,hq⟩,.pass (x:=.inLoop c) rfl (fun _ _=>.inl (by simp)) harr⟩
    | goto l=>exact ⟨_,a₁,_,⟨S₁,E₁,β₁,rfl,hr₁,hq⟩,.pass (x:=.inLoop c) rfl (fun _ _=>.inl (by simp)) harr⟩
    | ret=>exact ⟨_,a₁,_,⟨S₁,E₁,β₁,rfl,hr₁,hq⟩,.pass (x:=.inLoop c) rfl (fun _ _=>.inl (by simp)) harr⟩
    | panic ch=>exact ⟨_,a₁,_,⟨S₁,E₁,β₁,rfl,hr₁,hq⟩,.pass (x:=.inLoop c) rfl (fun _ _=>.inl (by simp)) harr⟩
    | outgrown=>exact ⟨_,a₁,_,⟨S₁,E₁,β₁,rfl,hr₁,hq⟩,.pass (x:=.inLoop c) rfl (fun _ _=>.inl (by simp)) harr⟩
 obtain ⟨e,a',w',hq,harr⟩:=key _ a0 E β a rfl i0 hr;exact ⟨e,a',w',hq,.of_steps (.one (fenced_calm hb hroom rfl) stepR_loop) harr⟩

theorem nY{α:Type}{x y:Code}{Q:Exit→St→Prop}(st:α→St)(inv:α→Prop)(h:IWP P O N x S (aCe (fun S'=>∃ z ρ,Weak S' (st z) ρ∧inv z) Q))(k:∀ z,inv z→IWP P O N y (st z) Q):IWP P O N (.seq x y) S Q :=
 aQ (vJ h fun e S' hq=>by
  cases e with
  | normal=>obtain ⟨z,ρ,hw,hi⟩:=hq; exact vI ρ hw (k z hi)
  | _=>exact hq)

end
end Go.IL
open _root_.Array renaming any_eq_true' → Fq
open Bool renaming not_eq_true' → DR,or_eq_true → BB
open List renaming cons_append → BW,mem_cons → Au,mem_range → DT
open Nat renaming lt_or_ge → Ck
namespace Go.IL

structure Node where
 rs:List Nat
 ri:List Nat
 us:List (Nat×D)
 ui:List (Nat×Ent)

def St.upd(S:St)(n:Node):St:=⟨n.us++S.sl,n.ui++S.H⟩

def St.eqv(S S':St):Prop:=(∀ t,S.get t=S'.get t)∧∀ i,S.ent i=S'.ent i
theorem St.eqv.refl(S:St):S.eqv S:=⟨fun _=>rfl,fun _=>rfl⟩

theorem rU{α:Type}{z:α}{t:Nat}:∀ {l r:List (Nat×α)},look z t (l++r)=if t∈l.map (·.1) then look z t l else look z t r
 | [],r=>by simp
 | (s,d)::l,r=>by
   simp only [BW,aV,Ai,Au]
   by_cases h:s=t
   · simp [h]
   · rw [Al h,rU (l:=l)]
     by_cases h2:t∈l.map (·.1)
     · simp [h2,h]
     · simp [h2,h,Ne.symm h]

theorem St.get_upd(S:St)(n:Node)(t:Nat):(S.upd n).get t=if t∈n.us.map (·.1) then look .dead t n.us else S.get t:=rU
theorem St.ent_upd(S:St)(n:Node)(i:Nat):(S.upd n).ent i=if i∈n.ui.map (·.1) then look (defE i) i n.ui else S.ent i:=rU

theorem St.eqv.upd{S S':St}(h:S.eqv S')(n:Node):(S.upd n).eqv (S'.upd n) :=
 ⟨fun t=>by rw [St.get_upd,St.get_upd,h.1],fun i=>by rw [St.ent_upd,St.ent_upd,h.2]⟩

def Node.apart(m n:Node):Bool :=
 (m.us.map (·.1)).all (fun t=>!n.rs.contains t && !(n.us.map (·.1)).contains t)&&(n.us.map (·.1)).all (fun t=>!m.rs.contains t) &&
 (m.ui.map (·.1)).all (fun t=>!n.ri.contains t && !(n.ui.map (·.1)).contains t)&&(n.ui.map (·.1)).all (fun t=>!m.ri.contains t)

structure Node.Apart (m n:Node):Prop where
 s1:∀ t∈n.rs,t ∉ m.us.map (·.1)
 s2:∀ t∈m.rs,t ∉ n.us.map (·.1)
 s3:∀ t∈m.us.map (·.1),t ∉ n.us.map (·.1)
 i1:∀ t∈n.ri,t ∉ m.ui.map (·.1)
 i2:∀ t∈m.ri,t ∉ n.ui.map (·.1)
 i3:∀ t∈m.ui.map (·.1),t ∉ n.ui.map (·.1)

theorem Node.apart_spec{m n:Node}(h:m.apart n=true):m.Apart n:=by
 simp only [Node.apart,Av,Bb,DR,List.contains_eq_mem,decide_eq_false_iff_not] at h;obtain ⟨⟨⟨h1,h2⟩,h3⟩,h4⟩:=h;exact ⟨fun t ht hm=>(h1 t hm).1 ht,fun t ht hn=>h2 t hn ht,fun t ht=>(h1 t ht).2,fun t ht hm=>(h3 t hm).1 ht,fun t ht hn=>h4 t hn ht,fun t ht=>(h3 t ht).2⟩

theorem St.upd_comm(S:St){m n:Node}(h:m.Apart n):((S.upd m).upd n).eqv ((S.upd n).upd m):=by
 constructor
 · intro t;simp only [St.get_upd]
   by_cases h1:t∈m.us.map (·.1)
   · simp [h1,h.s3 t h1]
   · simp [h1]
 · intro t;simp only [St.ent_upd]
   by_cases h1:t∈m.ui.map (·.1)
   · simp [h1,h.i3 t h1]
   · simp [h1]

theorem Rel.eqv{O:bZ}{N:Nat}{S S':St}{E:Env}{β:bY}{a:Act}(h:Rel O N S E β a)(he:S.eqv S'):Rel O N S' E β a:=by
 refine ⟨h.n,h.nd,?_,fun t=>he.1 t ▸ h.sl t⟩;have:S.ent=S'.ent:=funext he.2;rw [←this]; exact h.h

section
variable {P:Ba} {O:bZ} {N:Nat} {ops:Array Oper}

def GOp(P:Program)(O:bZ)(N:Nat)(ops:Array Oper)(i:Nat)(S S':St):Prop :=
 ∀ E β a,Rel O N S E β a→∀ (K:Act→World→Prop) Q,(∀ E' β' a',Rel O N S' E' β' a'→K a' E'.w)→wpOpIn (fen O.round) 0 P ops Q i K a E.w

theorem aHh{i:Nat}{o:Oper}{S S':St}(ho:ops[i]? = some o)(hg:rC o=true)(h:IOp P O N o S S'):GOp P O N ops i S S' :=
 fun E β a hr K Q hK=>by
  unfold wpOpIn;simp only [ho,Region.wanted,(sH hg).1,if_true];exact aFk _ (sH hg).2 (h E β a hr K Q hK)

theorem aHi{i:Nat}{o:Oper}{S:St}{j tj t:Nat}{want g:Bool}{d:D}(ho:ops[i]? = some o)(hg:o.guard=some (j,want))(hj:(ops[j]?).bind (·.dst)=some tj)(hb:Grd S tj want g)(hd:(o.dst,vH o.op)=(some t,true))(ht:t<N)(h:g=true→IOp P O N o S (S.set t d)):GOp P O N ops i S (S.set t (.cnd g d)):=by
 obtain ⟨hd,hnd⟩:=Prod.mk.inj hd;intro E β a hr K Q hK;have hwant:=hb.yields hr hj hg;unfold wpOpIn;simp only [ho,hwant];cases g with
 | true =>
   simp only [if_true];exact aFk _ hnd (h rfl E β a hr _ _ fun E' β' a' hr'=>hK E' β' a' hr'.cndT)
 | false =>
   simp only [CF,if_false,hd];exact ⟨fun _ _=>trivial,hK E β _ (hr.set ht (.cnd _ _ _ _ (fun h=>by cases h) fun _=>rfl))⟩

def vR(n:Node)(S S0:St):Prop:=(∀ t∈n.rs,S.get t=S0.get t)∧∀ i∈n.ri,S.ent i=S0.ent i
def LOp(P:Program)(O:bZ)(N:Nat)(ops:Array Oper)(i:Nat)(S0:St)(n:Node):Prop :=
 ∀ S,vR n S S0→GOp P O N ops i S (S.upd n)

def IAny(ops:Array Oper)(nd:Nat→Node)(Sq:Nat→St)(Sf:St):Nat→Array Bool→St→Prop
 | 0,listed,S=>Region.ready .any ops listed=[]∧S.eqv Sf
 | fuel+1,listed,S=>(Region.ready .any ops listed=[]→S.eqv Sf) ∧
  ∀ i∈Region.ready .any ops listed,vR (nd i) S (Sq i)∧IAny ops nd Sq Sf fuel (listed.setIfInBounds i true) (S.upd (nd i))

theorem IAny.eqv{nd:Nat→Node}{Sq:Nat→St}{Sf:St}:∀ {fuel:Nat} {listed:Array Bool} {S S':St},S.eqv S'→IAny ops nd Sq Sf fuel listed S→IAny ops nd Sq Sf fuel listed S'
 | 0,_,S,S',h,⟨h1,h2⟩=>⟨h1,fun t=>(h.1 t) ▸ h2.1 t,fun t=>(h.2 t) ▸ h2.2 t⟩
 | fuel+1,_,S,S',h,⟨h1,h2⟩=>⟨fun hr=>let k:=h1 hr; ⟨fun t=>(h.1 t) ▸ k.1 t,fun t=>(h.2 t) ▸ k.2 t⟩,
  fun i hi=>let ⟨h3,h4⟩:=h2 i hi
   ⟨⟨fun t ht=>(h.1 t) ▸ h3.1 t ht,fun t ht=>(h.2 t) ▸ h3.2 t ht⟩,IAny.eqv (h.upd _) h4⟩⟩

theorem IAny.sound{nd:Nat→Node}{Sq:Nat→St}{Sf:St}{Q:Exit→St→Prop}(hlop:∀ i,i<ops.size→LOp P O N ops i (Sq i) (nd i))(hQ:Q .normal Sf) :
 ∀ (fuel:Nat) (listed:Array Bool) (S:St),IAny ops nd Sq Sf fuel listed S→∀ E β a,Rel O N S E β a →
   wpAnyIn (fen O.round) 0 P .any ops (fun e a' w'=>∃ S' E' β',E'.w=w'∧Rel O N S' E' β' a'∧Q e S') fuel listed a E.w:=by
 intro fuel
 induction fuel with
 | zero=>exact fun listed S h E β a hr=>⟨h.1,Sf,E,β,rfl,hr.eqv h.2,hQ⟩
 | succ fuel ih =>
   intro listed S h E β a hr;refine ⟨fun h0=>⟨Sf,E,β,rfl,hr.eqv (h.1 h0),hQ⟩,fun i hi=>?_⟩;obtain ⟨h1,h2⟩:=h.2 i hi;have hlt:i<ops.size:=by
    obtain ⟨_,o,ho,_⟩:=mem_ready.1 hi;exact (Cy.1 ho).1
   exact hlop i hlt S h1 E β a hr _ _ fun E' β' a' hr'=>ih _ _ h2 E' β' a' hr'

theorem IAny.first{nd:Nat→Node}{Sq:Nat→St}{Sf:St}{i:Nat}:∀ (fuel:Nat) (listed:Array Bool) (S:St),
 (∀ j oj,ops[j]? = some oj→j≠i→listed.getD j true=false→(∀ e∈oj.after,Region.binds .any e=true→e.on≠i)→(nd i).Apart (nd j)) →
 i∈Region.ready .any ops listed→vR (nd i) S (Sq i)→IAny ops nd Sq Sf fuel (listed.setIfInBounds i true) (S.upd (nd i))→IAny ops nd Sq Sf (fuel+1) listed S:=by
 intro fuel
 induction fuel with
 | zero =>
   intro listed S _ hr ha H;refine ⟨fun h=>(by rw [h] at hr; cases hr),fun j hj=>?_⟩
   by_cases hji:j=i
   · subst hji; exact ⟨ha,H⟩
   · have:=ready_mono hj hji;rw [H.1] at this;cases this
 | succ fuel ih =>
   intro listed S hfree hr ha H;refine ⟨fun h=>(by rw [h] at hr; cases hr),fun j hj=>?_⟩
   by_cases hji:j=i
   · subst hji; exact ⟨ha,H⟩
   · obtain ⟨h1,h2⟩:=H.2 j (ready_mono hj hji);obtain ⟨hjun,oj,hoj,hall⟩:=mem_ready.1 hj;have hnot:∀ e∈oj.after,Region.binds .any e=true→e.on≠i:=fun e he hb heq=>by
      have h1:=hall e he hb;have h0:=(mem_ready.1 hr).1;rw [heq] at h1
      rcases Ck i listed.size with h' | h'
      · simp [h'] at h0 h1; rw [h0] at h1; cases h1
      · simp [Array.getElem?_eq_none h'] at h1
     have hap:=hfree j oj hoj hji hjun hnot;have haj:vR (nd j) S (Sq j):=⟨fun t ht=>by rw [←h1.1 t ht,St.get_upd,Al (hap.s1 t ht)],fun t ht=>by rw [←h1.2 t ht,St.ent_upd,Al (hap.i1 t ht)]⟩;have hai:vR (nd i) (S.upd (nd j)) (Sq i):=⟨fun t ht=>by rw [←ha.1 t ht,St.get_upd,Al (hap.s2 t ht)],fun t ht=>by rw [←ha.2 t ht,St.ent_upd,Al (hap.i2 t ht)]⟩;refine ⟨haj,ih (listed.setIfInBounds j true) _ ?_ (ready_mono hr (Ne.symm hji)) hai ?_⟩
     · refine fun k ok hk hki hun hno=>hfree k ok hk hki ?_ hno
       by_cases hjk:j=k
       · subst hjk; exact hjun
       · rw [getD_set_ne true hjk] at hun; exact hun
     · rw [Array.setIfInBounds_comm _ _ hji];exact IAny.eqv (S.upd_comm hap) h2

def aCz(ops:Array Oper)(nds:List Node):Nat→Nat→Array Bool→Bool
 | 0,_,listed=>(Region.ready .any ops listed).isEmpty
 | n + 1,k,listed=>(Region.ready .any ops listed).contains k &&
     (By ops.size).all (fun j=>j == k||listed.getD j true||match ops[j]? with
       | some oj=>oj.after.any (fun e=>Region.binds .any e&&e.on == k)||(nds.getD k ⟨[],[],[],[]⟩).apart (nds.getD j ⟨[],[],[],[]⟩)
       | none=>true)&&aCz ops nds n (k+1) (listed.setIfInBounds k true)

def seqS(S:St):List Node→St
 | []=>S
 | n::ns=>seqS (S.upd n) ns

theorem IAny.lex{nds:List Node}{S0:St}:∀ (n k:Nat) (listed:Array Bool),k+n=nds.length→aCz ops nds n k listed=true →
 IAny ops (fun i=>nds.getD i ⟨[],[],[],[]⟩) (fun i=>seqS S0 (nds.take i)) (seqS S0 nds) n listed (seqS S0 (nds.take k))
 | 0,k,listed,hk,h=>by
   have:nds.take k=nds:=Cr (by omega);rw [this];exact ⟨by simpa [aCz] using h,St.eqv.refl _⟩
 | n + 1,k,listed,hk,h=>by
   simp only [aCz,Av] at h;obtain ⟨⟨h1,h2⟩,h3⟩:=h;have hlt:k<nds.length:=by omega
   have ih:=IAny.lex (S0:=S0) n (k+1) (listed.setIfInBounds k true) (by omega) h3;have hS:seqS S0 (nds.take (k+1))=(seqS S0 (nds.take k)).upd (nds.getD k ⟨[],[],[],[]⟩):=by
    have hg:nds.getD k ⟨[],[],[],[]⟩=nds[k]:=by simp [hlt]
    rw [DM hlt,hg];clear ih h1 h2 h3 hg;generalize nds.take k=l
    induction l generalizing S0 with
    | nil=>rfl
    | cons m l ihl=>exact ihl (S0:=S0.upd m)
   rw [hS] at ih;refine IAny.first n listed _ ?_ (by simpa using h1) ⟨fun _ _=>rfl,fun _ _=>rfl⟩ ih;intro j oj hj hne hun hno;simp only [Bb,DT] at h2;have h4:=h2 j (Cy.1 hj).1;simp only [hj,BB,beq_iff_eq,hne,false_or,hun,CF] at h4
   rcases h4 with h4 | h4
   · obtain ⟨e,he,hb⟩:=Fq.1 h4;simp only [Av,beq_iff_eq] at hb;exact Ay hb.2 (hno e he hb.1)
   · exact Node.apart_spec h4

inductive DSeq (P:Ba) (O:bZ) (N:Nat) (ops:Array Oper):Nat→St→List Node→Prop
 | nil {k S}:DSeq P O N ops k S []
 | cons {k S n ns} (h:LOp P O N ops k S n) (t:DSeq P O N ops (k+1) (S.upd n) ns):DSeq P O N ops k S (n::ns)

theorem DSeq.at{k:Nat}{S:St}:∀ {nds:List Node},DSeq P O N ops k S nds→∀ i,i<nds.length→LOp P O N ops (k+i) (seqS S (nds.take i)) (nds.getD i ⟨[],[],[],[]⟩)
 | _,.nil,i,h=>by simp at h
 | _,.cons h t,0,_=>h
 | _::ns,.cons h t,i+1,hi=>by
   have:=DSeq.at t i (by simpa using hi);rw [show k+(i+1)=k+1+i by omega];exact this

theorem jL{id:Nat}{l:List Oper}{S:St}{Q:Exit→St→Prop}(hm:P.follows .mixedOrders=true)(nds:List Node)(hlen:nds.length=l.length)(hd:DSeq P O N l.toArray 0 S nds)(hchk:aCz l.toArray nds l.length 0 (BL l.length false)=true)(hQ:Q .normal (seqS S nds)):IWP P O N (.region id l.toArray true) S Q:=by
 intro E β a hr;refine wpIn_region_any hm ?_;have hr':Rel O N S ⟨{ E.w with drawn:=E.w.drawn+1 },E.X⟩ β a:=by
  have hb:RowKit.Below E.w.heap.size E.w { E.w with drawn:=E.w.drawn+1 }:=(RowKit.Below.refl _ _).drew;exact ⟨hr.n,hr.nd.below hb,hr.h.below hb,fun s=>CA (qK hb) (bY.le.refl _) (hr.sl s)⟩
 have hl:=IAny.lex (S0:=S) l.length 0 (BL l.length false) (by omega) hchk;simp only [List.take_zero,seqS] at hl;have:=IAny.sound (P:=P) (O:=O) (N:=N) (Q:=Q) (fun i hi=>by
  have:=hd.at i (by simp at hi; omega)
  rwa [Bj] at this) hQ _ _ _ hl _ β a hr'
 simpa using this

end
end Go.IL
open List renaming elem_iff → EE
open Nat renaming le_of_ble_eq_true → Di
namespace Go.IL
section
variable {P:Ba} {O:bZ} {N:Nat} {S S':St} {o:Oper} {t:Nat} {Q:Exit→St→Prop}

theorem aF{id:Nat}{l:List Oper}{y:Code}(h:ILS P O N l.toArray l S (fun e S'=>e = .normal∧IWP P O N y S' Q)):IWP P O N (.seq (.region id l.toArray false) y) S Q :=
 aQ (vJ (aS h) fun e S' ⟨h1,h2⟩=>by subst h1; exact h2)
theorem aD{ops:Array Oper}{y:Code}(h:IWP P O N y S Q):ILS P O N ops [] S (fun e S'=>e = .normal∧IWP P O N y S' Q):=bE ⟨rfl,h⟩
theorem jN{id:Nat}{l:List Oper}{y:Code}(hm:P.follows .mixedOrders=true)(nds:List Node)(hlen:nds.length=l.length)(hd:DSeq P O N l.toArray 0 S nds)(hchk:aCz l.toArray nds l.length 0 (BL l.length false)=true)(h:IWP P O N y (seqS S nds) Q):IWP P O N (.seq (.region id l.toArray true) y) S Q :=
 aQ (jL hm nds hlen hd hchk h)
theorem aI{k:St→Prop}(h:k S):aCe k Q .normal S:=h
theorem aY{k:St→Prop}(h:Q .ret S):aCe k Q .ret S:=h
theorem bC{k:St→Prop}{i:Nat}(h:Q (.exit i) S):aCe k Q (.exit i) S:=h
theorem bI{i:Nat}(h:Q .normal S):aCW i Q .normal S:=h
theorem bU{i:Nat}(h:Q .ret S):aCW i Q .ret S:=h
theorem cE{i:Nat}(h:Q .normal S):aCW i Q (.exit i) S:=by simp only [aCW,if_true]; exact h
theorem mX{c:Operand}{x y:Code}{b:Bool}(hc:S.op c = .bool b)(h1:b=true→IWP P O N x S Q)(h2:b=false→IWP P O N y S Q):IWP P O N (.cond c x y) S Q :=
 fun E β a hr=>by
  have:=zV (show Rd E β (a.eval c) (.bool b) from hc ▸ hr.op c);exact wpIn_cond_split this (fun h=>h1 h E β a hr) (fun h=>h2 h E β a hr)
theorem wP{c:Operand}{x y:Code}{b:Bool}(hc:S.op c = .bool b)(hb:b=true)(h1:IWP P O N x S Q):IWP P O N (.cond c x y) S Q :=
 mX hc (fun _=>h1) (fun h=>by rw [hb] at h; cases h)
theorem kF{c:Operand}{x y:Code}{b:Bool}(hc:S.op c = .bool b)(hb:b=false)(h1:IWP P O N y S Q):IWP P O N (.cond c x y) S Q :=
 mX hc (fun h=>by rw [hb] at h; cases h) (fun _=>h1)

theorem agr{n:Node}{S0:St}{s:Nat}{d:D}(hA:vR n S S0)(hm:n.rs.elem s=true)(h:S0.get s=d):S.op (.tmp s)=d:=(hA.1 s (EE.1 hm)).trans h
theorem agi{n:Node}{S0:St}{i:Nat}{e:Ent}(hA:vR n S S0)(hm:n.ri.elem i=true)(h:S0.ent i=e):S.ent i=e:=(hA.2 i (EE.1 hm)).trans h
theorem lop{ops:Array Oper}{i:Nat}{S0:St}{n:Node}(ho:ops[i]? = some o)(hg:rC o=true)(h:∀ S,vR n S S0→IOp P O N o S (S.upd n)):LOp P O N ops i S0 n :=
 fun S hA=>aHh ho hg (h S hA)
theorem grd1{n:Node}{S0:St}{tj:Nat}{want b:Bool}(hA:vR n S S0)(hm:n.rs.elem tj=true)(h:S0.get tj = .bool b):Grd S tj want (b == want):=.one ((hA.1 tj (EE.1 hm)).trans h)
theorem grd2{n:Node}{S0:St}{tj:Nat}{want c b:Bool}(hA:vR n S S0)(hm:n.rs.elem tj=true)(h:S0.get tj = .cnd c (.bool b)):Grd S tj want (c&&(b == want)):=.two ((hA.1 tj (EE.1 hm)).trans h)
theorem lopg{ops:Array Oper}{i:Nat}{S0:St}{rs ri:List Nat}{d:D}{j tj:Nat}{want g:Bool}(ho:ops[i]? = some o)(hg:o.guard=some (j,want))(hj:(ops[j]?).bind (·.dst)=some tj)(hd:(o.dst,vH o.op)=(some t,true))(ht:t<N)(hb:∀ S,vR ⟨rs,ri,[(t,.cnd g d)],[]⟩ S S0→Grd S tj want g)(h:∀ S,vR ⟨rs,ri,[(t,.cnd g d)],[]⟩ S S0→g=true→IOp P O N o S (S.set t d)):LOp P O N ops i S0 ⟨rs,ri,[(t,.cnd g d)],[]⟩ :=
 fun S hA=>aHi ho hg hj (hb S hA) hd ht (h S hA)

theorem aFH{α:Type}[Inhabited α]{f:α→D}{xs:List α}{i:Nat}(h:i<xs.length):(xs.map f)[i]? = some (f (xs.getD i default)):=by
 simp [h]

theorem aJQ{n:Int}(h1 : -9223372036854775808≤n)(h2:n≤9223372036854775807):IntKind.i64.wrap n=n:=by
 rw [IntKind.wrap_i64]; omega

theorem iop_neb{xt yt:At}{x y:Am}{a b:Bool}(ho:o.op = .binOp .neq xt x y yt)(hd:o.dst=some t)(ht:t<N)(hu:P.underlying xt=some .bool)(hx:SV S x (.bool a))(hy:SV S y (.bool b)):IOp P O N o S (S.set t (.bool !(a == b))):=aHU ho hd ht hu hx hy (.inr ⟨rfl,rfl⟩)

theorem iP{T:TypeId}{x:Operand}{u:TypeDesc}{z:Option AG}{size bytes:Nat}{id off:Nat}{e:At}{ds r:List D}{d:D}(ho:o.op = .load T x)(hd:o.dst=some t)(ht:t<N)(hu:P.underlying T=some u)(hg:kT P T=false)(hi:TI P T z size bytes)(h1:0<size)(hx:SV S x (.ref id off))(he:S.ent id = .blk e ds)(hn:off+size≤ds.length)(hdd:ds.drop off=d::r):IOp P O N o S (S.set t d) :=
 aAa ho hd ht hu hi hx he hn h1 (by simp [Ea,hg,hdd])
theorem nX{T:TypeId}{x:Operand}{u:TypeDesc}{z:Option AG}{size bytes:Nat}{id off:Nat}{e:At}{ds cs:List D}(ho:o.op = .load T x)(hd:o.dst=some t)(ht:t<N)(hu:P.underlying T=some u)(hg:kT P T=true)(hi:TI P T z size bytes)(h1:0<size)(hx:SV S x (.ref id off))(he:S.ent id = .blk e ds)(hn:off+size≤ds.length)(hdd:(ds.drop off).take size=cs):IOp P O N o S (S.set t (.agg cs)) :=
 aAa ho hd ht hu hi hx he hn h1 (by simp [Ea,hg,hdd])
theorem bG{T:TypeId}{x:Operand}{u:TypeDesc}{z:Option AG}{size bytes:Nat}{r:List D}{d:D}(ho:o.op = .load T x)(hd:o.dst=some t)(ht:t<N)(hu:P.underlying T=some u)(hg:kT P T=false)(hi:TI P T z size bytes)(h1:0<size)(hx:SV S x (.fptr (d::r)))(hn:size≤(d::r).length):IOp P O N o S (S.set t d) :=
 zF ho hd ht hu hi hx hn h1 (by simp [Ea,hg])
theorem cP{T:TypeId}{x:Operand}{u:TypeDesc}{z:Option AG}{size bytes:Nat}{ds cs:List D}(ho:o.op = .load T x)(hd:o.dst=some t)(ht:t<N)(hu:P.underlying T=some u)(hg:kT P T=true)(hi:TI P T z size bytes)(h1:0<size)(hx:SV S x (.fptr ds))(hn:size≤ds.length)(hdd:ds.take size=cs):IOp P O N o S (S.set t (.agg cs)) :=
 zF ho hd ht hu hi hx hn h1 (by simp [Ea,hg,hdd])
theorem yA{T:TypeId}{x:Operand}{i:Nat}{fs:Array Field}{F:Field}{u:TypeDesc}{z:Ag AG}{size bytes:Nat}{cs r:List D}{d:D}(ho:o.op = .field T x i)(hd:o.dst=some t)(ht:t<N)(hu:P.underlying T=some (.struct fs))(hf:fs[i]? = some F)(huF:P.underlying F.type=some u)(hg:kT P F.type=false)(hi:TI P F.type z size bytes)(h1:0<size)(hx:SV S x (.agg cs))(hn:F.offset+size≤cs.length)(hdd:cs.drop F.offset=d::r):IOp P O N o S (S.set t d) :=
 aHQ ho hd ht hu hf huF hi hx hn h1 (by simp [Ea,hg,hdd])
theorem dA{T:TypeId}{x y:Am}{z:Ag AG}{size bytes:Nat}{id off:Nat}{e:At}{ds ds':List D}{d:D}(ho:o.op = .store T x y)(hd:o.dst=none)(hi:TI P T z size bytes)(hx:SV S x (.ref id off))(he:S.ent id = .blk e ds)(hy:SV S y d)(hb:d.boxable=true)(hsz:d.cells.length=size)(h1:d.cells.all Ee=true)(hn:off+size≤ds.length)(hds:jG ds off d.cells=ds'):IOp P O N o S (S.setE id (.blk e ds')) :=
 aC2 ho hd hi hx he hy hb hsz h1 hn hds

theorem lU{e:TypeId}{x:Operand}{d:D}{cs:List D}(id:Nat)(ho:o.op = .box e x)(hd:o.dst=some t)(ht:t<N)(hf:S.ent id = .fresh)(hx:SV S x d)(hb:d.boxable=true)(hcs:d.cells=cs) :
 IOp P O N o S ((S.setE id (.blk e cs)).set t (.ref id 0)):=hcs ▸ iop_box id ho hd ht hf hx hb
theorem aF8{e:TypeId}{z:Value}{size bytes:Nat}{cs:List D}(id:Nat)(ho:o.op = .alloc e)(hd:o.dst=some t)(ht:t<N)(hf:S.ent id = .fresh)(hz:TI P e (some z) size bytes)(hb:(DO z).boxable=true)(hcs:(DO z).cells=cs) :
 IOp P O N o S ((S.setE id (.blk e cs)).set t (.ref id 0)):=hcs ▸ aHW id ho hd ht hf hz hb


theorem nle{a b:Nat}(h:AZ a b=true):a≤b:=Di h

theorem aA5{x:Operand}{id sz:Nat}{l m:List D}(h:S.op x = .gsl id sz l)(e:l=m):SV S x (.slice false m):=e ▸ svg h
theorem aJT{x:Operand}{f:Bool}{l:List D}(h:S.op x = .nils)(e:l=[]):SV S x (.slice f l):=e ▸ svn h

theorem resv_a{x:Nat}{T:TypeId}{id off:Nat}{e:At}{ds cs:List D}{u:TypeDesc}{z:Ag AG}{size bytes:Nat}(hx:S.get x = .ref id off)(he:S.ent id = .blk e ds)(hu:P.underlying T=some u)(hg:kT P T=true)(hi:TI P T z size bytes)(h1:0<size)(hn:off+size≤ds.length)(hd:(ds.drop off).take size=cs):ResV P S (.cell x T) (.agg cs) :=
 ⟨id,off,e,ds,u,z,size,bytes,sv hx,he,hu,hi,hn,h1,by simp [Ea,hg,hd]⟩
def fieldsOf(P:Program)(T:TypeId):Array Field:=match P.underlying T with | some (.struct fs)=>fs | _=>#[]

end
end Go.IL
open Bool renaming or_false → CJ
open Go.IL.D renaming refsIn → BK
open Go.IL.St renaming okn → FJ
open List renaming getD_eq_getElem?_getD → AB,getElem_cons_succ → EK,getElem_mem → EJ,idxOf_cons → Ek,mem_cons_of_mem → Bg,mem_cons_self → Cb
open Nat renaming ble_eq → BX,blt → DS,blt_eq → BQ,not_lt → EY
open Prod renaming fst → CG
namespace Go.IL
open RowKit (Below)

def nF(β:bY)(H:List (Nat×Ent))(b:Nat):Prop:=∃ i,(entL H i).held=true∧β i=some b

def FnH(P:Program)(f:FuncId)(ds:List D)(H0:List (Nat×Ent))(r:D)(H1:List (Nat×Ent)):Prop :=
 ∀ (E:Env) (β:bY) (vs:List AG),E.good→(∀ i b,β i=some b→1000≤i) →
   HOk ⟨E.w,E.X,nF β H0,β,none,fun _=>[],fun _=>0,fun _=>[],fun _=>(#[],.skip,.skip),E.w.heap.size⟩ E β (entL H0)→RdL E β vs ds →
   Calls P f vs.toArray E.w fun e w'=>∃ v,e = .returned v∧∃ E' β',E'.w=w'∧HOk ⟨E.w,E.X,nF β H0,β,none,fun _=>[],fun _=>0,fun _=>[],fun _=>(#[],.skip,.skip),E.w.heap.size⟩ E' β' (entL H1)∧Rd E' β' v r

def Ent.ren(ρ:Nat→Nat):Ent→Ent
 | .blk e ds=>.blk e (BD ρ ds)
 | .loop k ds st p=>.loop k (BD ρ ds) st p
 | .kept k ds=>.kept k (BD ρ ds)
 | .mp ks ds=>.mp ks (BD ρ ds)
 | e=>e
def Ent.refsIn(p:Nat→Bool):Ent→Bool
 | .blk _ ds=>AE p ds
 | .mp _ ds=>AE p ds
 | .loop ..=>false
 | .kept ..=>false
 | _=>true
theorem Ent.held_ren(ρ:Nat→Nat)(e:Ent):(e.ren ρ).held=e.held:=by cases e <;> rfl

mutual
theorem Rd.renp{E:Env}{β β':bY}{ρ:Nat→Nat}{p:Nat→Bool}(hp:∀ id b,p id=true→β id=some b→β' (ρ id)=some b):∀ {v:AG} {d:D},Rd E β v d→d.refsIn p=true→Rd E β' v (d.ren ρ)
 | _,_,.dead _ v,_=>.dead _ v
 | _,_,.bool _ b,_=>.bool _ b
 | _,_,.int _ k n,_=>.int _ k n
 | _,_,.float _ k m n h,_=>.float _ k m n h
 | _,_,.str _ l,_=>.str _ l
 | _,_,.slice _ b off len cap sz full vs l hl hc hf hz hsz hr hv,_=>.slice _ b off len cap sz full vs l hl hc hf hz hsz hr hv
 | _,_,.nslice _ f,_=>.nslice _ f
 | _,_,.eslice _ a c f h,_=>.eslice _ a c f h
 | _,_,.nils _,_=>.nils _
 | _,_,.agg _ vs cs hv,hi=>.agg _ vs _ (RdL.renp hp hv (by simpa [BK] using hi))
 | _,_,.tuple _ vs cs hv,hi=>.tuple _ vs _ (RdL.renp hp hv (by simpa [BK] using hi))
 | _,_,.fptr _ b off vs cs hr hv,_=>.fptr _ b off vs cs hr hv
 | _,_,.nilp _,_=>.nilp _
 | _,_,.nilf _,_=>.nilf _
 | _,_,.nili _,_=>.nili _
 | _,_,.fn _ f vs caps hv,hi=>.fn _ f vs _ (RdL.renp hp hv (by simpa [BK] using hi))
 | _,_,.mv _ f us first hv,hi=>.mv _ f us _ (RdL.renp hp hv (by simpa [BK] using hi))
 | _,_,.ref _ id off b hb,hi=>.ref _ _ off b (hp _ _ (by simpa [BK] using hi) hb)
 | _,_,.rsl _ id sz off len cap b o hb hc hsz ho c e f h1 h2 h3,hi=>.rsl _ _ sz off len cap b o (hp _ _ (by simpa [BK] using hi) hb) hc hsz ho c e f h1 h2 h3
 | _,_,.gsl _ id b len cap sz vs l hb hl hc hz hsz hr hv c e f h1 h2 h3,hi=>.gsl _ _ b len cap sz vs l (hp _ _ (by simpa [BK] using hi) hb) hl hc hz hsz hr hv c e f h1 h2 h3
 | _,_,.ngsl _ id sz,_=>.ngsl _ _ sz
 | _,_,.osl _ id b len cap sz hb hc hsz c e f h1 h2 h3,hi=>.osl _ _ b len cap sz (hp _ _ (by simpa [BK] using hi) hb) hc hsz c e f h1 h2 h3
 | _,_,.nosl _ id sz,_=>.nosl _ _ sz
 | _,_,.cnd _ v b d hv hu,hi=>.cnd _ v b _ (fun hb=>Rd.renp hp (hv hb) (by simpa [BK] using hi)) hu
 | _,_,.yld _ id l hb,hi=>.yld _ _ l (hp id l (by simpa [BK] using hi) hb)
 | _,_,.mref _ id l hb,hi=>.mref _ _ l (hp id l (by simpa [BK] using hi) hb)
 | _,_,.optp0 _,_=>.optp0 _
 | _,_,.optp1 _ a,_=>.optp1 _ a
 | _,_,.mapp _ m,_=>.mapp _ m
theorem RdL.renp{E:Env}{β β':bY}{ρ:Nat→Nat}{p:Nat→Bool}(hp:∀ id b,p id=true→β id=some b→β' (ρ id)=some b):∀ {vs:List AG} {ds:List D},RdL E β vs ds→AE p ds=true→RdL E β' vs (BD ρ ds)
 | _,_,.nil _,_=>.nil _
 | _,_,.cons (d:=d) (ds:=ds) hv t,hi =>
   have hi':d.refsIn p=true∧AE p ds=true:=by simpa [AE] using hi
   .cons (Rd.renp hp hv hi'.1) (RdL.renp hp t hi'.2)
end

def sig(k:Nat)(A:List Nat)(i:Nat):Nat:=if 1000≤i then A.getD (i-1000) 0 else k+i
def fT(A:List Nat)(i:Nat):Bool:=AZ 1000 i&&DS i (1000+A.length)
def rL(k:Nat)(A:List Nat)(i:Nat):Bool:=DS (k+i) 1000||fT A i

theorem kP{α:Type}{z:α}{i:Nat}:∀ {l:List (Nat×α)},i∈l.map (·.1)→∃ e,(i,e)∈l∧look z i l=e
 | (j,e)::l,h=>by
   rw [aV]
   by_cases hj:j=i
   · subst hj; exact ⟨e,by simp,by simp⟩
   · rw [Al hj];have:i∈l.map (·.1):=by simp only [Ai,Au] at h; rcases h with h | h; exact Ay h.symm hj; exact h
     obtain ⟨e',h1,h2⟩:=kP (z:=z) this;exact ⟨e',by simp [h1],h2⟩
theorem kE{α:Type}{z:α}{i:Nat}:∀ {l:List (Nat×α)},i ∉ l.map (·.1)→look z i l=z
 | [],_=>rfl
 | (j,e)::l,h=>by
   simp only [Ai,Au,not_or] at h;rw [aV,Al (Ne.symm h.1)]; exact kE h.2

theorem uW{H:List (Nat×Ent)}{i:Nat}(h:(entL H i).held=true):(i,entL H i)∈H:=by
 by_cases hm:i∈H.map (·.1)
 · obtain ⟨e,h1,h2⟩:=kP (z:=defE i) hm;rw [show entL H i=e from h2]; exact h1
 · have:entL H i=defE i:=kE hm;rw [this] at h; unfold defE at h; split at h <;> cases h

section
variable {P:Ba} {O:bZ} {N:Nat} {S S':St} {o:Oper} {t:Nat}

structure Hand (S:St) (k:Nat) (A:List Nat) (H0:List (Nat×Ent)):Prop where
 keys:(S.H.map (·.1)).all (fun i=>DS i k||AZ 1000 i)=true
 kA:A.all (fun i=>DS i k||AZ 1000 i)=true
 nd:A.Nodup
 cov:A.all (fun i=>(H0.map fun x=>sig k A x.1).contains i)=true
 ents:∀ x∈H0,fT A x.1=true∧x.2.held=true∧S.ent (sig k A x.1)=x.2.ren (sig k A)∧x.2.refsIn (fT A)=true

def zP(k:Nat)(A:List Nat)(H0 H1 H:List (Nat×Ent)):List (Nat×Ent) :=
 (H1.map fun x=>(sig k A x.1,x.2.ren (sig k A)))++((H0.map fun x=>(sig k A x.1,Ent.none))++H)

theorem qA{k i:Nat}{A:List Nat}(h:fT A i=true):sig k A i∈A:=by
 simp only [fT,Av,BX,BQ] at h;simp only [sig,Ao h.1];rw [AB,AY (show i-1000<A.length by omega)];exact EJ _
theorem aDe:∀ {A:List Nat},A.Nodup→∀ {j:Nat} (hj:j<A.length),A.idxOf A[j]=j
 | [],_,_,hj=>Ay hj (by simp)
 | a::A,_,0,_=>by simp [Ek]
 | a::A,hn,j+1,hj=>by
   rw [Bl] at hn;have hj':j<A.length:=by simpa using hj
   have hne:¬ a=A[j]:=fun h=>hn.1 (h ▸ EJ hj')
   have:=aDe hn.2 hj';simp only [EK,Ek];rw [this,show (a == A[j])=false from by simpa using hne]; rfl
theorem aHa{i:Nat}:∀ {A:List Nat} (h:A.idxOf i<A.length),A[A.idxOf i]=i
 | [],h=>Ay h (by simp)
 | a :: A,h=>by
   by_cases hai:a=i
   · subst hai; simp [Ek]
   · have e:(a::A).idxOf i=A.idxOf i+1:=by rw [Ek,show (a == i)=false from by simpa using hai]; rfl
     have h':A.idxOf i<A.length:=by rw [e] at h; simpa using h
     have:=aHa h';simp only [e,EK]; exact this
theorem aA9{k i:Nat}{A:List Nat}(hn:A.Nodup)(h:fT A i=true):1000+A.idxOf (sig k A i)=i:=by
 simp only [fT,Av,BX,BQ] at h;simp only [sig,Ao h.1];have hlt:i-1000<A.length:=by omega
 rw [AB,AY hlt,CM,aDe hn hlt];omega
theorem aA8{k i j:Nat}{A:List Nat}(hn:A.Nodup)(hi:fT A i=true)(hj:fT A j=true)(h:sig k A i=sig k A j):i=j:=by
 rw [←aA9 (k:=k) hn hi,←aA9 (k:=k) hn hj,h]
theorem wG{k i:Nat}{A:List Nat}(h:i∈A):fT A (1000+A.idxOf i)=true∧sig k A (1000+A.idxOf i)=i:=by
 have hlt:=List.idxOf_lt_length_of_mem h;constructor
 · simp only [fT,Av,BX,BQ]; omega
 · simp only [sig,Ao (Db 1000 _)];rw [show 1000+A.idxOf i-1000=A.idxOf i by omega,AB,AY hlt,CM];exact aHa hlt

theorem aCQ{f:FuncId}{ds ds':List D}{r r':D}{H0 H1 H2:List (Nat×Ent)}(k:Nat)(A:List Nat)(hd:o.dst=some t)(ht:t<N)(h:∀ E β a,Rel O N S E β a→∃ vs:List AG,(execOp a.eval o).run P E.w = .ok (.enter f vs.toArray) E.w∧RdL E β vs ds')(hds:BD (sig k A) ds=ds')(hp:AE (fT A) ds=true)(hh:Hand S k A H0)(hf:FnH P f ds H0 r H1)(hrr:r.ren (sig k A)=r')(hrp:r.refsIn (rL k A)=true)(hH1:∀ x∈H1,rL k A x.1=true∧x.2.refsIn (rL k A)=true)(hH2:zP k A H0 H1 S.H=H2):IOp P O N o S (Bo ⟨S.sl,H2⟩ t r'):=by
 intro E β a hr next Q hn;obtain ⟨vs,hrun,hv⟩:=h E β a hr;unfold Oper.wp;rw [hrun];simp only [Oper.upon,hd];subst hds hrr hH2
 let βc:bY:=fun i=>if fT A i=true then β (sig k A i) else none
 have hβc:∀ id,fT A id=true→βc id=β (sig k A id):=fun id hid=>by simp [βc,hid]
 have hvc:RdL E βc vs ds:=Cv hβc ds hv hp;have h0:∀ i,(entL H0 i).held=true→fT A i=true∧S.ent (sig k A i)=(entL H0 i).ren (sig k A)∧(entL H0 i).refsIn (fT A)=true:=fun i hi=>by
  have h1:=hh.ents _ (uW hi);exact ⟨h1.1,h1.2.2.1,h1.2.2.2⟩
 have hcall:HOk ⟨E.w,E.X,nF βc H0,βc,none,fun _=>[],fun _=>0,fun _=>[],fun _=>(#[],.skip,.skip),E.w.heap.size⟩ E βc (entL H0):={
  tab:=hr.h.good.tab,os:=rfl,tape:=rfl,output:=rfl,size:=AP _,mbs:=AP _,block:=fun _ _ _=>rfl,xlt:=hr.h.xlt,xold:=fun _ _ _ _=>Dy,le:=Co _
  gid:=fun i b hi=>by
   by_cases hg:fT A i=true
   · simp only [fT,Av,BX] at hg; exact hg.1
   · simp [βc,hg] at hi
  given:=fun _ _ hi=>hi
  ent := fun i=>by
   cases hhe:(entL H0 i).held with
   | true =>
     obtain ⟨h1,h2,h3⟩:=h0 i hhe;have he:=hr.h.ent (sig k A i);rw [h2] at he;have hown:∀ b,βc i=some b→(⟨E.w,E.X,nF βc H0,βc,none,fun _=>[],fun _=>0,fun _=>[],fun _=>(#[],.skip,.skip),E.w.heap.size⟩:bZ).own b:=fun b hb=>.inr ⟨i,hhe,hb⟩
     cases hE:entL H0 i with
     | none=>trivial
     | fresh=>rw [hE] at hhe; cases hhe
     | blk e es =>
       rw [hE] at he h3
       rcases he with ⟨g1,g2⟩ | ⟨b,ws,sp,g1,g2,g3,g4,g5⟩
       · exact .inl ⟨(hβc i h1).trans g1,tC g2⟩
       · exact .inr ⟨b,ws,sp,(hβc i h1).trans g1,hown b ((hβc i h1).trans g1),g3,g4,Cv hβc es g5 h3⟩
     | tail e sz n =>
       rw [hE] at he
       rcases he with ⟨g1,g2⟩ | ⟨b,c,g1,g2,g3,g4⟩
       · exact .inl ⟨(hβc i h1).trans g1,g2⟩
       · exact .inr ⟨b,c,(hβc i h1).trans g1,hown b ((hβc i h1).trans g1),g3,g4⟩
     | loop lk es st pe =>
       rw [hE] at h3; cases h3
     | mp ks es =>
       rw [hE] at he h3;obtain ⟨b,xs,cl,g1,g2,g3,g4,g5,g6⟩:=he;exact ⟨b,xs,cl,(hβc i h1).trans g1,hown b ((hβc i h1).trans g1),g3,g4,g5,Cv hβc es g6 h3⟩
     | kept n es=>rw [hE] at hhe; cases hhe
   | false =>
     cases hE:entL H0 i with
     | none=>trivial
     | fresh =>
       show βc i=none
       by_cases hm:i∈H0.map (·.1)
       · obtain ⟨e,h1,h2⟩:=kP (z:=defE i) hm;have h3:=hh.ents _ h1;have:entL H0 i=e:=h2;rw [hE] at this; rw [←this] at h3; exact Ay h3.2.1 (by simp [DD])
       · have:entL H0 i=defE i:=kE hm;rw [hE] at this;unfold defE at this;split at this
         · cases this
         · rename_i hlt;have:¬ fT A i=true:=by simp only [fT,Av,BX]; omega
           simp [βc,this]
     | blk=>rw [hE] at hhe; cases hhe
     | tail=>rw [hE] at hhe; cases hhe
     | loop=>rw [hE] at hhe; cases hhe
     | mp=>rw [hE] at hhe; cases hhe
     | kept n es =>
       exfalso
       by_cases hm:i∈H0.map (·.1)
       · obtain ⟨e,h1,h2⟩:=kP (z:=defE i) hm;have h3:=hh.ents _ h1;have:entL H0 i=e:=h2;rw [hE] at this; rw [←this] at h3; exact Ay h3.2.1 (by simp [DD])
       · have:entL H0 i=defE i:=kE hm;rw [hE] at this;unfold defE at this;split at this <;> cases this
  inj:=fun i j b hi hj h1 h2=>by
   obtain ⟨a1,a2,_⟩:=h0 i hi;obtain ⟨b1,b2,_⟩:=h0 j hj;have h1:β (sig k A i)=some b:=(hβc i a1).symm.trans h1;have h2:β (sig k A j)=some b:=(hβc j b1).symm.trans h2;exact aA8 hh.nd a1 b1 (hr.h.inj _ _ b (by rw [a2,Ent.held_ren]; exact hi) (by rw [b2,Ent.held_ren]; exact hj) h1 h2) }
 refine (hf E βc vs hr.h.good hcall.gid hcall hvc).mono ?_;rintro e w' ⟨v,rfl,E',β',rfl,hok,hrd⟩
 -- old blocks that were not handed over
 have hfoot:∀ b,nF βc H0 b→∃ i,fT A i=true∧(S.ent (sig k A i)).held=true∧β (sig k A i)=some b:=fun b ⟨i,hi,hb⟩=>by
  obtain ⟨h1,h2,_⟩:=h0 i hi;exact ⟨i,h1,by rw [h2,Ent.held_ren]; exact hi,by rw [←hβc i h1]; exact hb⟩
 have hfown:∀ b,nF βc H0 b→O.own b:=fun b hb=>by
  obtain ⟨i,_,h2,h3⟩:=hfoot b hb;have he:=hr.h.ent (sig k A i);exact hr.h.own h2 h3
 have hcown:∀ b,(⟨E.w,E.X,nF βc H0,βc,none,fun _=>[],fun _=>0,fun _=>[],fun _=>(#[],.skip,.skip),E.w.heap.size⟩:bZ).own b→O.own b:=fun b hb=>by
  rcases hb with hb | hb
  · exact .inl (BG hr.h.size hb)
  · exact hfown b hb
 have hfresh:∀ i,k≤i→i<1000→β i=none:=fun i h1 h2=>by
  have he:=hr.h.ent i;have:S.ent i = .fresh:=by
   have hnm:i ∉ S.H.map (·.1):=fun hm=>by
    have:=Bb.1 hh.keys i hm;simp only [BB,BQ,BX] at this; omega
   have h3:S.ent i=defE i:=kE hnm;rw [h3,defE,Al (by omega)]
  rw [this] at he; exact he
 let βn:bY:=fun i=>if k≤i∧i<1000 then β' (i-k) else if i∈A then β' (1000+A.idxOf i) else β i
 have hAk:∀ i,i∈A→¬ (k≤i∧i<1000):=fun i hi=>by
  have:=Bb.1 hh.kA _ hi;simp only [BB,BQ,BX] at this; omega
 have hnA:∀ i,i∈A→βn i=β' (1000+A.idxOf i):=fun i hi=>by simp [βn,hAk i hi,hi]
 have hnO:∀ i,i ∉ A→¬ (k≤i∧i<1000)→βn i=β i:=fun i h1 h2=>by simp [βn,h1,h2]
 have hβ1:β.le βn:=fun i b hi=>by
  by_cases hki:k≤i∧i<1000
  · rw [hfresh i hki.1 hki.2] at hi; cases hi
  · by_cases hA:i∈A
    · rw [hnA i hA];obtain ⟨h1,h2⟩:=wG (k:=k) hA;exact hok.given _ _ (((hβc _ h1).trans (by rw [h2])).trans hi)
    · rw [hnO i hA hki]; exact hi
 have hβ2:∀ i,rL k A i=true→βn (sig k A i)=β' i:=fun i hi=>by
  by_cases hg:fT A i=true
  · rw [hnA _ (qA hg),aA9 hh.nd hg]
  · simp only [rL,hg,CJ,BQ] at hi;have h2:¬ 1000≤i:=by omega
    have h1:sig k A i=k+i:=by simp [sig,h2]
    rw [h1];simp [βn,hi]
 have hle:E.le E':=hok.le
 -- the entries behind the call
 have hkey1:∀ i,rL k A i=true→∀ j,rL k A j=true→sig k A i=sig k A j→i=j:=fun i hi j hj hij=>by
  by_cases hgi:fT A i=true
  · by_cases hgj:fT A j=true
    · exact aA8 hh.nd hgi hgj hij
    · exfalso;simp only [rL,hgj,CJ,BQ] at hj;have h2:sig k A j=k+j:=by simp [sig,show ¬1000≤j by omega]
      exact hAk _ (qA (k:=k) hgi) (by rw [hij,h2]; omega)
  · by_cases hgj:fT A j=true
    · exfalso;simp only [rL,hgi,CJ,BQ] at hi;have h2:sig k A i=k+i:=by simp [sig,show ¬1000≤i by omega]
      exact hAk _ (qA (k:=k) hgj) (by rw [←hij,h2]; omega)
    · simp only [rL,hgi,hgj,CJ,BQ] at hi hj;simp only [sig,show ¬1000≤i by omega,show ¬1000≤j by omega,if_false] at hij;omega
 have hent:∀ i,(Bo ⟨S.sl,zP k A H0 H1 S.H⟩ t (r.ren (sig k A))).ent i =
  if i∈H1.map (fun x=>sig k A x.1) then (look (defE i) i (H1.map fun x=>(sig k A x.1,x.2.ren (sig k A)))) else if i∈H0.map (fun x=>sig k A x.1) then .none else S.ent i:=fun i=>by
  simp only [BA,entL,Bo,zP,rU,BM];have e1:(CG ∘ fun x:Nat×Ent=>(sig k A x.1,x.2.ren (sig k A)))=fun x=>sig k A x.1:=rfl
  have e2:(CG ∘ fun x:Nat×Ent=>(sig k A x.1,Ent.none))=fun x=>sig k A x.1:=rfl
  rw [e1,e2];split
  · rfl
  · split
    · rename_i h1 h2;obtain ⟨e,h3,h4⟩:=kP (z:=defE i) (l:=H0.map fun x=>(sig k A x.1,Ent.none)) (by rw [BM,e2]; exact h2);rw [h4];obtain ⟨x,_,hx⟩:=Ak.1 h3;cases hx; rfl
    · rfl
 have hlook1:∀ j,rL k A j=true→j∈H1.map (·.1)→look (defE (sig k A j)) (sig k A j) (H1.map fun x=>(sig k A x.1,x.2.ren (sig k A)))=(entL H1 j).ren (sig k A):=by
  intro j hj;unfold entL;have aux:∀ (z z':Ent) (l:List (Nat×Ent)),(∀ x∈l,rL k A x.1=true)→j∈l.map (·.1)→look z (sig k A j) (l.map fun x=>(sig k A x.1,x.2.ren (sig k A)))=(look z' j l).ren (sig k A):=by
   intro z z' l
   induction l with
   | nil=>intro _ h; simp at h
   | cons x l ih =>
     obtain ⟨i,e⟩:=x;intro hl hm;simp only [Ai,aV]
     by_cases hij:i=j
     · subst hij; rw [Ao rfl,Ao rfl]
     · rw [Al (fun h=>hij (hkey1 i (hl (i,e) Cb) j hj h)),Al hij];refine ih (fun x hx=>hl x (Bg _ hx)) ?_;simp only [Ai,Au] at hm
       rcases hm with h | h
       · exact Ay h.symm hij
       · exact h
  exact aux _ _ H1 (fun x hx=>(hH1 x hx).1)
 have hH1r:∀ j,j∈H1.map (·.1)→rL k A j=true∧(entL H1 j).refsIn (rL k A)=true:=fun j hj=>by
  obtain ⟨e,h1,h2⟩:=kP (z:=defE j) hj;have h3:=hH1 _ h1;exact ⟨h3.1,by rw [show entL H1 j=e from h2]; exact h3.2⟩
 have cases1:∀ i,i∈H1.map (fun x=>sig k A x.1)→∃ j,j∈H1.map (·.1)∧rL k A j=true∧i=sig k A j:=fun i hi=>by
  obtain ⟨x,hx,rfl⟩:=Ak.1 hi;exact ⟨x.1,Ak.2 ⟨x,hx,rfl⟩,(hH1 x hx).1,rfl⟩
 -- an entry that was not handed over
 have hold:∀ i,i ∉ H1.map (fun x=>sig k A x.1)→i ∉ H0.map (fun x=>sig k A x.1)→(S.ent i).held=true→∀ b,β i=some b→βn i=some b∧b<E.w.heap.size∧¬ nF βc H0 b:=fun i h1 h2 h3 b hb=>by
  refine ⟨hβ1 i b hb,?_,?_⟩
  · exact hr.h.lt h3 hb
  · rintro ⟨j,hj,hbj⟩;obtain ⟨g1,g2,_⟩:=h0 j hj;have:i=sig k A j:=hr.h.inj i (sig k A j) b h3 (by rw [g2,Ent.held_ren]; exact hj) hb (by rw [←hβc j g1]; exact hbj);exact h2 (Ak.2 ⟨_,uW hj,this.symm⟩)
 have hcov:∀ i,i∈A→i∈H0.map (fun x=>sig k A x.1):=fun i hi=>by
  have:=Bb.1 hh.cov i hi;simpa using this
 have hold':∀ i,i ∉ H0.map (fun x=>sig k A x.1)→S.ent i ≠ .fresh→βn i=β i:=fun i h0 hf=>by
  refine hnO i (fun hA=>h0 (hcov i hA)) (fun hki=>hf ?_);have hnm:i ∉ S.H.map (·.1):=fun hm=>by
   have:=Bb.1 hh.keys i hm;simp only [BB,BQ,BX] at this; omega
  have h3:S.ent i=defE i:=kE hnm;rw [h3,defE,Al (by omega)]
 refine hn E' βn _ ⟨by simp [Act.put,hr.n],hr.nd.mono (fun b hx=>(hok.block b (dR hx) (fun hf=>by obtain ⟨i,_,h2,h3⟩:=hfoot b hf; exact hr.h.nodef h2 h3 _ hx)).trans hx),?_,?_⟩
 · exact {
    tab:=hr.h.tab,os:=hok.os.trans hr.h.os,tape:=hok.tape.trans hr.h.tape,output:=hok.output.trans hr.h.output,size:=BG hr.h.size hok.size,mbs:=hr.h.mbs
    block:=fun j hj hf=>by
     have hnf:¬ nF βc H0 j:=fun h=>by
      rcases hfown j h with h1 | h1
      · omega
      · exact hf h1
     exact (hok.block j (BH hj hr.h.size) hnf).trans (hr.h.block j hj hf)
    xlt:=hok.xlt
    xold:=fun b o hb hf=>by
     have hnf:¬ nF βc H0 b:=fun h=>by
      rcases hfown b h with h1 | h1
      · omega
      · exact hf h1
     exact (hok.xold b o (BH hb hr.h.size) hnf).trans (hr.h.xold b o hb hf)
    le:=hr.h.le.trans hle
    gid:=hr.h.gid
    given:=fun i b hi=>hβ1 i b (hr.h.given i b hi)
    ent := fun i=>by
     rw [hent i]
     by_cases hi1:i∈H1.map (fun x=>sig k A x.1)
     · rw [Ao hi1];obtain ⟨j,hj,hbj,rfl⟩:=cases1 i hi1;rw [hlook1 j hbj hj];have he:=hok.ent j;have hrf:=(hH1r j hj).2;have hb2:=hβ2 j hbj;cases hE:entL H1 j with
       | none=>trivial
       | fresh=>rw [hE] at he; exact hb2.trans he
       | blk e es =>
         rw [hE] at he hrf
         rcases he with ⟨g1,g2⟩ | ⟨b,ws,sp,g1,g2,g3,g4,g5⟩
         · exact .inl ⟨hb2.trans g1,by rw [g2]; rfl⟩
         · exact .inr ⟨b,ws,sp,hb2.trans g1,hcown b g2,g3,g4,RdL.renp (fun id b hid hb=>(hβ2 id hid).trans hb) g5 hrf⟩
       | tail e sz n =>
         rw [hE] at he
         rcases he with ⟨g1,g2⟩ | ⟨b,c,g1,g2,g3,g4⟩
         · exact .inl ⟨hb2.trans g1,g2⟩
         · exact .inr ⟨b,c,hb2.trans g1,hcown b g2,g3,g4⟩
       | loop lk es st pe =>
         rw [hE] at hrf; cases hrf
       | mp ks es =>
         rw [hE] at he hrf;obtain ⟨b,xs,cl,g1,g2,g3,g4,g5,g6⟩:=he;exact ⟨b,xs,cl,hb2.trans g1,hcown b g2,g3,g4,g5,RdL.renp (fun id b hid hb=>(hβ2 id hid).trans hb) g6 hrf⟩
       | kept n es=>rw [hE] at hrf; cases hrf
     · rw [Al hi1]
       by_cases hi0:i∈H0.map (fun x=>sig k A x.1)
       · rw [Ao hi0]; trivial
       · rw [Al hi0];have he:=hr.h.ent i;have hnb:∀ b,(S.ent i).held=true→β i=some b→βn i=some b∧E'.w.heap[b]? = E.w.heap[b]? ∧ ∀ o,(E'.X b o↔E.X b o):=fun b hhe hb=>by
          obtain ⟨g1,g2,g3⟩:=hold i hi1 hi0 hhe b hb;exact ⟨g1,hok.block b g2 g3,fun o=>hok.xold b o g2 g3⟩
         cases hE:S.ent i with
         | none=>trivial
         | fresh =>
           rw [hE] at he
           show βn i=none
           by_cases hki:k≤i∧i<1000
           · -- a fresh name of the callee's that is told by nothing
             have hbi:i-k ∉ H1.map (·.1):=fun hm=>by
              have hbb:=(hH1r _ hm).1;refine hi1 ?_;obtain ⟨x,hx,hxe⟩:=Ak.1 hm;refine Ak.2 ⟨x,hx,?_⟩;have hx':x.1=i-k:=hxe;rw [hx'];simp only [sig,show ¬1000≤i-k by omega,if_false];omega
             have h3:=hok.ent (i-k);have h4:entL H1 (i-k)=defE (i-k):=kE hbi;rw [h4,defE,Al (by omega)] at h3;simp only [βn,hki,and_self,if_true];exact h3
           · rw [hnO i (fun hA=>hi0 (hcov i hA)) hki]; exact he
         | blk e es =>
           rw [hE] at he
           rcases he with ⟨g1,g2⟩ | ⟨b,ws,sp,g1,g2,g3,g4,g5⟩
           · exact .inl ⟨(hold' i hi0 (by rw [hE]; exact fun h=>by cases h)).trans g1,g2⟩
           · obtain ⟨f1,f2,f3⟩:=hnb b (by rw [hE]; rfl) g1;exact .inr ⟨b,ws,sp,f1,g2,f2.trans g3,fun o=>(f3 o).2 (g4 o),AW hle hβ1 g5⟩
         | tail e sz n =>
           rw [hE] at he
           rcases he with ⟨g1,g2⟩ | ⟨b,c,g1,g2,g3,g4⟩
           · exact .inl ⟨(hold' i hi0 (by rw [hE]; exact fun h=>by cases h)).trans g1,g2⟩
           · obtain ⟨f1,f2,f3⟩:=hnb b (by rw [hE]; rfl) g1;exact .inr ⟨b,c,f1,g2,f2.trans g3,fun o ho=>(f3 o).2 (g4 o ho)⟩
         | loop lk es st pe =>
           rw [hE] at he;obtain ⟨b,q,g1,g2,g3,g4,g5,g6,g7,g8,g9,g10⟩:=he;obtain ⟨f1,f2,f3⟩:=hnb b (by rw [hE]; rfl) g1;exact ⟨b,q,f1,g2,f2.trans g3,fun o=>(f3 o).2 (g4 o),g5,g6,g7,g8,g9,g10.1,AW hle hβ1 g10.2⟩
         | mp ks es =>
           rw [hE] at he;obtain ⟨b,xs,cl,g1,g2,g3,g4,g5,g6⟩:=he;obtain ⟨f1,f2,f3⟩:=hnb b (by rw [hE]; rfl) g1;exact ⟨b,xs,cl,f1,g2,f2.trans g3,fun o=>(f3 o).2 (g4 o),g5,AW hle hβ1 g6⟩
         | kept n es =>
           rw [hE] at he;exact ⟨AW hle hβ1 he.1,fun c hc=>(hok.block c (dR (he.2 c hc)) (fun hf=>by obtain ⟨i,_,h2,h3⟩:=hfoot c hf; exact hr.h.nodef h2 h3 _ (he.2 c hc))).trans (he.2 c hc)⟩
    inj := fun i j b hi hj hbi hbj=>by
     rw [hent i] at hi;rw [hent j] at hj;have hone:∀ i,i∈H1.map (fun x=>sig k A x.1)→(look (defE i) i (H1.map fun x=>(sig k A x.1,x.2.ren (sig k A)))).held=true→βn i=some b→∃ a,(entL H1 a).held=true∧β' a=some b∧i=sig k A a∧rL k A a=true:=fun i hm hh hb=>by
      obtain ⟨a,ha,hba,rfl⟩:=cases1 i hm;rw [hlook1 a hba ha,Ent.held_ren] at hh;exact ⟨a,hh,(hβ2 a hba).symm.trans hb,rfl,hba⟩
     have hown1:∀ a,(entL H1 a).held=true→β' a=some b→E.w.heap.size≤b∨nF βc H0 b:=fun a hh hb=>by
      exact hok.own hh hb
     have hto:∀ i,i ∉ H0.map (fun x=>sig k A x.1)→(S.ent i).held=true→βn i=some b→β i=some b:=fun i h0 hh hb=>by
      rw [←hold' i h0 (fun h=>by rw [h] at hh; cases hh)]; exact hb
     have hmix:∀ i j,i∈H1.map (fun x=>sig k A x.1)→(look (defE i) i (H1.map fun x=>(sig k A x.1,x.2.ren (sig k A)))).held=true→βn i=some b→j ∉ H1.map (fun x=>sig k A x.1)→j ∉ H0.map (fun x=>sig k A x.1)→(S.ent j).held=true→βn j=some b→False:=fun i j h1 h2 h3 h4 h5 h6 h7=>by
      obtain ⟨a,ha,hb,_⟩:=hone i h1 h2 h3;obtain ⟨_,f2,f3⟩:=hold j h4 h5 h6 b (hto j h5 h6 h7)
      rcases hown1 a ha hb with h | h
      · omega
      · exact f3 h
     by_cases hi1:i∈H1.map (fun x=>sig k A x.1)
     · rw [Ao hi1] at hi
       by_cases hj1:j∈H1.map (fun x=>sig k A x.1)
       · rw [Ao hj1] at hj;obtain ⟨a,ha,hab,rfl,_⟩:=hone i hi1 hi hbi;obtain ⟨c,hc,hcb,rfl,_⟩:=hone j hj1 hj hbj;rw [hok.inj a c b ha hc hab hcb]
       · rw [Al hj1] at hj
         by_cases hj0:j∈H0.map (fun x=>sig k A x.1)
         · rw [Ao hj0] at hj; cases hj
         · rw [Al hj0] at hj;exact (hmix i j hi1 hi hbi hj1 hj0 hj hbj).elim
     · rw [Al hi1] at hi
       by_cases hi0:i∈H0.map (fun x=>sig k A x.1)
       · rw [Ao hi0] at hi; cases hi
       · rw [Al hi0] at hi
         by_cases hj1:j∈H1.map (fun x=>sig k A x.1)
         · rw [Ao hj1] at hj;exact (hmix j i hj1 hj hbj hi1 hi0 hi hbi).elim
         · rw [Al hj1] at hj
           by_cases hj0:j∈H0.map (fun x=>sig k A x.1)
           · rw [Ao hj0] at hj; cases hj
           · rw [Al hj0] at hj;exact hr.h.inj i j b hi hj (hto i hi0 hi hbi) (hto j hj0 hj hbj) }
 · intro s;have hts:t<a.tmps.size:=hr.n ▸ ht
   by_cases hst:t=s
   · subst hst;have h1:=Rd.renp (p:=rL k A) (fun id b hid hb=>(hβ2 id hid).trans hb) hrd hrp;simpa [Act.put,Cf,Bo,aV,hts] using h1
   · have:=CA hle hβ1 (hr.sl s);simpa [Act.put,Cf,Bo,aV,hst,Bf] using this

theorem aHS{f:FuncId}{xs:List Am}{ts:Array At}{ds ds':List D}{r r':D}{H0 H1 H2:List (Nat×Ent)}(k:Nat)(A:List Nat)(ho:o.op = .call { callee:=.value (.func f),args:=xs.toArray,argTypes:=ts })(hd:o.dst=some t)(ht:t<N)(hc:bB P f)(hx:SVs S xs ds')(hds:BD (sig k A) ds=ds')(hp:AE (fT A) ds=true)(hh:Hand S k A H0)(hf:FnH P f ds H0 r H1)(hrr:r.ren (sig k A)=r')(hrp:r.refsIn (rL k A)=true)(hH1:∀ x∈H1,rL k A x.1=true∧x.2.refsIn (rL k A)=true)(hH2:zP k A H0 H1 S.H=H2):IOp P O N o S (Bo ⟨S.sl,H2⟩ t r') :=
 aCQ k A hd ht (fun E β a hr=>⟨xs.map a.eval,by
  simp [execOp,ho,resolve,Deferred.ofValue,Act.eval,invoke,kB hc],hx.rd hr⟩) hds hp hh hf hrr hrp hH1 hH2

theorem aF6{x:Operand}{f:FuncId}{caps:List D}{xs:List Am}{ts:Array At}{ds ds':List D}{r r':D}{H0 H1 H2:List (Nat×Ent)}(k:Nat)(A:List Nat)(ho:o.op = .call { callee:=.value x,args:=xs.toArray,argTypes:=ts })(hd:o.dst=some t)(ht:t<N)(hc:bB P f)(hfx:SV S x (.fn f caps))(hx:SVs S xs ds')(hds:BD (sig k A) ds=ds'++caps)(hp:AE (fT A) ds=true)(hh:Hand S k A H0)(hf:FnH P f ds H0 r H1)(hrr:r.ren (sig k A)=r')(hrp:r.refsIn (rL k A)=true)(hH1:∀ x∈H1,rL k A x.1=true∧x.2.refsIn (rL k A)=true)(hH2:zP k A H0 H1 S.H=H2):IOp P O N o S (Bo ⟨S.sl,H2⟩ t r') :=
 aCQ k A hd ht (fun E β a hr=>by
  obtain ⟨vs,hev,hl⟩:=aFs (hfx.rd hr);exact ⟨xs.map a.eval++vs,by simp [execOp,ho,resolve,Deferred.ofValue,hev,invoke,kB hc],(hx.rd hr).append hl⟩) hds hp hh hf hrr hrp hH1 hH2

theorem aAP{f:FuncId}{fn:Func}{c:Code}{ds rs:List D}{H0 H1:List (Nat×Ent)}(hf:P.funcs[f]? = some fn)(hb:fn.body=some c)(hN:fn.ntmps=N)(hlen:ds.length≤N)(E:Env)(β:bY)(vs:List AG)(hX:E.good)(hβ:∀ i b,β i=some b→1000≤i)(hok0:HOk ⟨E.w,E.X,nF β H0,β,none,fun _=>[],fun _=>0,fun _=>[],fun _=>(#[],.skip,.skip),E.w.heap.size⟩ E β (entL H0))(hvs:RdL E β vs ds)(h:∀ O:bZ,O.Plain→O.given=β→IWP P O N c ⟨(By ds.length).zip ds,H0⟩ (fun e S=>(e = .normal∨e = .ret)∧∃ ρ,Weak S ⟨[],H1⟩ ρ∧(∃ ds0,aAQ P S fn.results.toList ds0∧WkL ds0 (BD ρ rs))∧AE (FJ ⟨[],H1⟩) rs=true)) :
 Calls P f vs.toArray E.w fun e w'=>∃ v,e = .returned v∧∃ E' β',E'.w=w'∧HOk ⟨E.w,E.X,nF β H0,β,none,fun _=>[],fun _=>0,fun _=>[],fun _=>(#[],.skip,.skip),E.w.heap.size⟩ E' β' (entL H1)∧Rd E' β' v (retD rs):=by
 let O:bZ:=⟨E.w,E.X,nF β H0,β,none,fun _=>[],fun _=>0,fun _=>[],fun _=>(#[],.skip,.skip),E.w.heap.size⟩
 have hl:=hvs.length;have hrel : Rel O N ⟨(By ds.length).zip ds,H0⟩ E β { tmps:=vs.toArray++BL (fn.ntmps-vs.toArray.size) undef,defers:=[] }:=by
  refine ⟨by simp; omega,uJ.nil,hok0,?_⟩;intro s;have key : ∀ (ds:List D) (vs:List AG) (k:Nat),RdL E β vs ds→Rd E β (if s<k then undef else vs.getD (s-k) undef) (look .dead s ((EC k ds.length).zip ds)):=by
   intro ds
   induction ds with
   | nil=>intro vs k _; simp [look]; exact .dead _ _
   | cons d ds ih =>
     intro vs k hv;cases hv with
     | cons h1 h2 =>
       simp only [AR,Du,DE,aV]
       by_cases hks:k=s
       · subst hks; simpa using h1
       · rw [Al hks];have:=ih _ (k+1) h2
         by_cases hlt:s<k
         · simpa [hlt,show s<k+1 by omega] using this
         · have h3:¬ s<k+1:=by omega
           rw [Al hlt]; rw [Al h3] at this;rw [show s-k=(s-(k+1))+1 by omega];simpa using this
  have:=key ds vs 0 hvs;rw [CT];simp only [Eh,if_false,DW] at this;have hg:(vs.toArray++BL (fn.ntmps-vs.toArray.size) undef).getD s undef=vs.getD s undef:=by
   by_cases hs:s<vs.length
   · simp [hs,Ci]
   · simp [Ci,hs,Ch (CN hs)];simp [CV];split <;> rfl
  show Rd E β (Array.getD _ s undef) _
  rw [hg];exact this
 refine qV hf hb rfl ⟨AP _,fun b hb hf=>by obtain ⟨i,hi,hbi⟩:=hf; exact Ay (hok0.lt hi hbi) (EY.2 hb)⟩ hrel (O:=O) (h O ⟨rfl,⟨AP _,fun b hb hf=>by obtain ⟨i,hi,hbi⟩:=hf; exact Ay (hok0.lt hi hbi) (EY.2 hb)⟩,fun _=>rfl⟩ rfl) ?_;rintro e S' E' β' a' hr' ⟨he,ρ,hw,⟨ds0,hres,hwk⟩,hin⟩;refine ⟨he,?_⟩;obtain ⟨vs',h1,h2⟩:=tJ (P:=P) hr' hres;obtain ⟨β3,hr3,hβ3⟩:=hr'.weak' hw;have h3:RdL E' β3 vs' rs:=Cv hβ3 rs (h2.wk hwk) hin;have hrun:(results fn a'.tmps).run P E'.w = .ok (if h:vs'.toArray.size=1 then vs'.toArray[0] else .tuple vs'.toArray) E'.w:=by
  have hF:results fn a'.tmps=(fn.results.mapM (resF a'.tmps)) >>= fun vs=>pure (if h:vs.size=1 then vs[0] else .tuple vs):=by
   unfold results
   congr 2
  rw [hF,←Dn (xs:=fn.results),DQ];simp only [Sem.run_bind,Sem.run_map,h1,Result.andThen_ok,Sem.run_pure]
 have hfin:∃ v,(results fn a'.tmps).run P E'.w = .ok v E'.w∧Rd E' β3 v (retD rs):=by
  refine ⟨_,hrun,?_⟩;cases h3 with
  | nil=>simpa [retD] using Rd.tuple (E:=E') β3 [] [] (.nil _)
  | cons h5 h6 =>
    cases h6 with
    | nil=>simpa [retD] using h5
    | cons h7 h8 =>
      simp only [retD,Cm,AR];rw [dif_neg (by omega)];exact .tuple _ _ _ (.cons h5 (.cons h7 h8))
 obtain ⟨v,h5,h6⟩:=hfin;exact ⟨v,h5,v,rfl,E',β3,rfl,hr3.h,h6⟩

theorem aEb{f:FuncId}{fn:Func}{c:Code}{ds rs:List D}{H0 H1:List (Nat×Ent)}(hf:P.funcs[f]? = some fn)(hb:fn.body=some c)(hN:fn.ntmps=N)(hlen:ds.length≤N)(h:∀ O:bZ,O.Plain→IWP P O N c ⟨(By ds.length).zip ds,H0⟩ (fun e S=>(e = .normal∨e = .ret)∧∃ ρ,Weak S ⟨[],H1⟩ ρ∧(∃ ds0,aAQ P S fn.results.toList ds0∧WkL ds0 (BD ρ rs))∧AE (FJ ⟨[],H1⟩) rs=true)):FnH P f ds H0 (retD rs) H1 :=
 fun E β vs hX hβ hok0 hvs=>aAP hf hb hN hlen E β vs hX hβ hok0 hvs fun O hO _=>h O hO

theorem dX{f:FuncId}{fn:Func}{c:Code}{ds rs:List D}{H0 H1:List (Nat×Ent)}(hf:P.funcs[f]? = some fn)(hb:fn.body=some c)(hN:fn.ntmps=N)(hlen:ds.length≤N)(h:∀ O:bZ,O.Plain→IWP P O N c ⟨(By ds.length).zip ds,H0⟩ (fun e S=>(e = .normal∨e = .ret)∧∃ ρ,Weak S ⟨[],H1⟩ ρ∧aAQ P S fn.results.toList (BD ρ rs)∧AE (FJ ⟨[],H1⟩) rs=true)):FnH P f ds H0 (retD rs) H1 :=
 aEb hf hb hN hlen fun O hO=>vJ (h O hO) fun e S ⟨he,ρ,hw,hr,hi⟩=>⟨he,ρ,hw,⟨_,hr,.refl _⟩,hi⟩

theorem aBm{ops:Array Oper}{l:List Oper}{xt yt e:At}{x y:Am}{f:Bool}{s:List D}{Q:Exit→St→Prop}(hg:o.guard=none)(ho:o.op = .binOp .eql xt x y yt)(hd:o.dst=some t)(ht:t<N)(hu:P.underlying xt=some (.slice e))(hx:SV S x (.slice f s))(hy:S.op y = .nils)(k:∀ b,(b=true→s=[])→ILS P O N ops l (S.set t (.bool b)) Q):ILS P O N ops (o::l) S Q:=by
 intro E β a hr;refine wpListIn_plain hg fun K hK=>aFk _ (by rw [ho]; rfl) ?_
 have hyv:a.eval y = .slice none 0 0:=by
  have:=hr.op y;rw [hy] at this;generalize a.eval y=v at this;cases this; rfl
 have key:∃ b:Bool,(b=true→s=[])∧(execOp a.eval o).run P E.w = .ok (.value (.bool b)) E.w:=by
  rcases tV (hx.rd hr) with ⟨hev,hs⟩ | ⟨b,off,cap,sz,vs,hev,_⟩ | ⟨ad,cap,hev,hs⟩
  · refine ⟨true,fun _=>hs,?_⟩;have h1:=Lib.run_eql_slice_nil (P:=P) E.w xt e none 0 0 0 0 hu;simp [execOp,ho,hev,hyv,eqGuard,h1]
  · refine ⟨false,(fun h=>by cases h),?_⟩;have h1:=Lib.run_eql_slice_nil (P:=P) E.w xt e (some ⟨b,off,none⟩) s.length cap 0 0 hu;simp [execOp,ho,hev,hyv,eqGuard,h1]
  · refine ⟨false,(fun h=>by cases h),?_⟩;have h1:=Lib.run_eql_slice_nil (P:=P) E.w xt e (some ad) 0 cap 0 0 hu;simp [execOp,ho,hev,hyv,eqGuard,h1]
 obtain ⟨b,hb,hrun⟩:=key;unfold Oper.wp;rw [hrun];simp only [Oper.upon,hd];exact hK _ _ (k b hb E β _ (hr.set ht (.bool _ _)))


end
end Go.IL
open List renaming drop_eq_getElem_cons → Dr,length_eq_zero_iff → AV
namespace Go.IL
section
variable {P:Ba} {O:bZ} {N:Nat} {S S':St} {o:Oper} {t:Nat} {Q:Exit→St→Prop}

theorem Rel.freeze{E:Env}{β:bY}{a:Act}(h:Rel O N S E β a){id len sz:Nat}{e:At}{ds l:List D}(hS:∃ q,S.get t = .osl id q len)(he:S.ent id = .blk e ds)(hl:Ac l=ds)(hn:l.length=len)(hz:∀ d∈l,d.cells.length=sz)(hsp:0<sz)(hp:AE noRef ds=true):∃ E',E'.w=E.w∧Rel O N ((S.setE id .none).set t (.slice false l)) E' β a:=by
 have hent:=h.h.ent id;rw [he] at hent;have hkey:∀ i,(((S.setE id .none).set t (.slice false l)).ent i).held=true→(S.ent i).held=true:=fun i hi=>by
  by_cases hii:id=i
  · subst hii; simp [BA,entL,Br,Bo,aV,DD] at hi
  · simpa [BA,entL,Br,Bo,aV,hii] using hi
 have hval:(a.tmps.getD t undef = .slice none 0 0∧len=0)∨∃ b cap,β id=some b∧a.tmps.getD t undef = .slice (some ⟨b,0,none⟩) len cap∧len≤cap:=by
  have h1:=h.sl t;generalize a.tmps.getD t undef=v at h1;obtain ⟨q,hS⟩:=hS
  · rw [hS] at h1;cases h1 with
    | osl _ _ b _ cap _ hb hc=>exact .inr ⟨b,cap,hb,rfl,hc⟩
    | nosl=>exact .inl ⟨rfl,rfl⟩
 rcases hval with ⟨hv0,hlen0⟩ | ⟨b,cap,hβ,hvv,hcap⟩
 · refine ⟨E,rfl,h.n,h.nd,?_,?_⟩
   · refine { h.h with ent:=fun j=>?_,inj:=fun i j k hi hj h1 h2=>h.h.inj i j k (hkey i hi) (hkey j hj) h1 h2 }
     by_cases hj:id=j
     · subst hj;have:((S.setE id .none).set t (.slice false l)).ent id = .none:=by simp [BA,entL,Br,Bo,aV]
       rw [this]; trivial
     · have:((S.setE id .none).set t (.slice false l)).ent j=S.ent j:=by simp [BA,entL,Br,Bo,aV,hj]
       rw [this]; exact h.h.ent j
   · intro s
     by_cases hs:t=s
     · subst hs;simp only [Cf,Bo,aV,if_true,hv0];have:l=[]:=AV.1 (hn.trans hlen0);subst this; exact .nslice _ _
     · simpa [Cf,Bo,Br,aV,hs] using h.sl s
 · obtain ⟨vs,sp,hown,hh,hX,hv⟩:=sZ hent hβ
   let E':Env:=⟨E.w,fun k o=>k≠b∧E.X k o⟩
   have hle:E.le E':=⟨fun k o v h1 h2=>⟨h1,fun h3=>h2 h3.2⟩,fun k c e f h1=>⟨c,f,h1,rfl⟩⟩;have hbn:¬ (b<O.w.heap.size∧¬ O.foot b):=fun ⟨h1,h2⟩=>by rcases hown with h3 | h3; omega; exact h2 h3
   refine ⟨E',rfl,h.n,h.nd,?_,?_⟩
   · exact {
      tab:=h.h.tab,os:=h.h.os,tape:=h.h.tape,output:=h.h.output,size:=h.h.size,mbs:=h.h.mbs,block:=h.h.block
      xlt:=fun k o hk=>h.h.xlt k o hk.2
      xold:=fun k o hk hf=>by
       have hne:k≠b:=fun he=>hbn ⟨he ▸ hk,he ▸ hf⟩
       show (k≠b∧E.X k o)↔_
       rw [←h.h.xold k o hk hf]; exact ⟨fun h=>h.2,fun h=>⟨hne,h⟩⟩
      ent := fun j=>by
       by_cases hj:id=j
       · subst hj;have:((S.setE id .none).set t (.slice false l)).ent id = .none:=by simp [BA,entL,Br,Bo,aV]
         rw [this]; trivial
       · have:((S.setE id .none).set t (.slice false l)).ent j=S.ent j:=by simp [BA,entL,Br,Bo,aV,hj]
         rw [this];have hej:=h.h.ent j;cases hE:S.ent j with
         | none=>trivial
         | fresh=>rw [hE] at hej; exact hej
         | blk e2 ds2 =>
           rw [hE] at hej
           rcases hej with h1 | ⟨b2,vs2,sp2,h1,h2,h3,h4,h5⟩
           · exact .inl h1
           · have hne:b2≠b:=fun hb=>hj (h.h.inj id j b (by rw [he]; rfl) (by rw [hE]; rfl) hβ (hb ▸ h1))
             exact .inr ⟨b2,vs2,sp2,h1,h2,h3,fun o=>⟨hne,h4 o⟩,AW hle (bY.le.refl _) h5⟩
         | tail e2 sz2 n2 =>
           rw [hE] at hej
           rcases hej with h1 | ⟨b2,c2,h1,h2,h3,h4⟩
           · exact .inl h1
           · have hne:b2≠b:=fun hb=>hj (h.h.inj id j b (by rw [he]; rfl) (by rw [hE]; rfl) hβ (hb ▸ h1))
             exact .inr ⟨b2,c2,h1,h2,h3,fun o ho=>⟨hne,h4 o ho⟩⟩
         | loop lk es st pe =>
           rw [hE] at hej;obtain ⟨b2,q,h1,h2,h3,h4,h5,h6,h7,h8,h9,h10⟩:=hej;have hne:b2≠b:=fun hb=>hj (h.h.inj id j b (by rw [he]; rfl) (by rw [hE]; rfl) hβ (hb ▸ h1))
           exact ⟨b2,q,h1,h2,h3,fun o=>⟨hne,h4 o⟩,h5,h6,h7,h8,h9,h10.1,AW hle (bY.le.refl _) h10.2⟩
         | mp ks es =>
           rw [hE] at hej;obtain ⟨b2,q,cl,h1,h2,h3,h4,h5,h6⟩:=hej;have hne:b2≠b:=fun hb=>hj (h.h.inj id j b (by rw [he]; rfl) (by rw [hE]; rfl) hβ (hb ▸ h1))
           exact ⟨b2,q,cl,h1,h2,h3,fun o=>⟨hne,h4 o⟩,h5,AW hle (bY.le.refl _) h6⟩
         | kept n es =>
           rw [hE] at hej;exact ⟨AW hle (bY.le.refl _) hej.1,hej.2⟩
      inj:=fun i j k hi hj h1 h2=>h.h.inj i j k (hkey i hi) (hkey j hj) h1 h2
      le:=h.h.le.trans hle
      gid:=h.h.gid
      given:=h.h.given }
   · intro s
     by_cases hs:t=s
     · subst hs;simp only [Cf,Bo,aV,if_true,hvv];subst hl;refine .slice _ _ _ _ _ sz false vs l hn hcap (by simp) hz hsp (fun k v hk=>⟨?_,fun h=>h.1 rfl⟩) ((AW hle (bY.le.refl _) hv).bare hp);rw [Bj]
       show E.w.cell? _=_
       have hlt:=(Aj.1 hk).1;rw [cell_of_row _ _ _ _ _ _ hh]; simpa [AJ hlt] using hk
     · have:=CA hle (bY.le.refl _) (h.sl s);simpa [Cf,Bo,Br,aV,hs] using this

theorem uS{c:Code}(t:Nat){id len sz:Nat}{e:At}{ds l:List D}(hS:∃ q,S.get t = .osl id q len)(he:S.ent id = .blk e ds)(hl:Ac l=ds)(hn:l.length=len)(hz:∀ d∈l,d.cells.length=sz)(hsp:0<sz)(hp:AE noRef ds=true)(h:IWP P O N c ((S.setE id .none).set t (.slice false l)) Q):IWP P O N c S Q:=by
 intro E β a hr;obtain ⟨E',hw,hr'⟩:=hr.freeze hS he hl hn hz hsp hp;rw [←hw]; exact h E' β a hr'
theorem drop_at{ds:List D}{off:Nat}{d:D}(h:ds[off]? = some d):ds.drop off=d::ds.drop (off+1):=by
 have hlt:=(Aj.1 h).1;rw [Dr hlt,(Aj.1 h).2]

end
end Go.IL
open List renaming take_append_drop → AX
open Nat renaming zero_mul → CY
namespace Go.IL
section
variable {P:Ba} {O:bZ} {N:Nat} {S S':St} {o:Oper} {t:Nat} {Q:Exit→St→Prop}

theorem HOk.held_lt{E:Env}{β:bY}{H:Nat→Ent}(h:HOk O E β H){j b:Nat}(hh:(H j).held=true)(hb:β j=some b):b<E.w.heap.size:=by
 exact h.lt hh hb

def Src(E:Env)(β:bY)(v:Value)(m:Nat)(es:List D):Prop :=
 ((v = .slice none 0 0∨∃ ad cap,v = .slice (some ad) 0 cap)∧m=0∧es=[])∨∃ b off cap us,v = .slice (some ⟨b,off,none⟩) m cap∧(∀ j u,us[j]? = some u→E.w.cell? ((⟨b,off,none⟩:Addr).add j)=some u)∧RdL E β us es

theorem vO{T e:At}{x y:Am}{z:AG}{size bytes n m:Nat}{ds es:List D}{S1:St}(id':Nat)(ho:o.op = .call { callee:=.builtin .append,args:=#[x,y],argTypes:=#[T,T] })(hd:o.dst=some t)(ht:t<N)(hu:P.underlying T=some (.slice e))(hi:TI P e (some z) size bytes)(hz:z.cells.size=size)(hsp:0<size)(hs1:S1.sl=S.sl)(hs2:∀ j,S1.ent j=S.ent j∨S1.ent j = .none)(hfr:S.ent id' = .fresh)(hx:∀ E β a,Rel O N S E β a→(a.eval x = .slice none 0 0∧n=0∧ds=[])∨∃ b cap c vs,a.eval x = .slice (some ⟨b,0,none⟩) n cap∧n≤cap∧cap≤maxLen∧E.w.heap[b]? = some (.cells c e (0,0)) ∧
   cap*size≤c.size∧c.toList.take vs.length=vs∧RdL E β vs ds∧O.own b∧(∀ o,E.X b o)∧∀ j,(S1.ent j).held=true→β j≠some b)(hl:ds.length=n*size)(hy:∀ E β a,Rel O N S E β a→Src E β (a.eval y) m es)(hes:es.length=m*size)(hone:es.all Ee=true)(hm:n+m≤maxLen)(hb:(n+m)*bytes≤140737488355328) :
 IOp P O N o S ((S1.setE id' (.blk e (ds++es))).set t (.osl id' size (n+m))):=by
 intro E β a hr next Q hn;obtain ⟨i,hi1,hi2,hi3,hi4⟩:=hi.at;have hfre:β id'=none:=by have:=hr.h.ent id'; rw [hfr] at this; exact this
 have hrun:∀ v,(Builtin.append_ #[T,T] o.type #[a.eval x,a.eval y]).run P E.w=v→(execOp a.eval o).run P E.w=v.andThen fun v w'=>.ok (.value v) w':=fun v hv=>by
  simp [execOp,ho,resolve,invoke,builtin,hv]
 have hts:t<a.tmps.size:=hr.n ▸ ht
 let S2:St:=(S1.setE id' (.blk e (ds++es))).set t (.osl id' size (n+m))
 have slots:∀ (E':Env) (β':bY) (v:AG),E.le E'→β.le β'→Rd E' β' v (.osl id' size (n+m))→∀ s,Rd E' β' ((a.put (some t) v).tmps.getD s undef) (S2.get s):=by
  intro E' β' v hle hβ hv s
  by_cases hst:t=s
  · subst hst;simpa [S2,Act.put,Cf,Bo,aV,hts] using hv
  · have:=CA hle hβ (hr.sl s);simpa [S2,Act.put,Cf,Bo,Br,aV,hst,Bf,hs1] using this
 let β':Nat→bY:=fun b j=>if j=id' then some b else β j
 have hβ:∀ b,β.le (β' b):=fun b j k hj=>by
  by_cases hji:j=id'
  · subst hji; rw [hfre] at hj; cases hj
  · simp [β',hji,hj]
 have hsame:∀ j,j≠id'→S2.ent j=S1.ent j:=fun j hj=>by simp [S2,BA,entL,Br,Bo,aV,Ne.symm hj]
 have hother:∀ b j,j≠id'→(S2.ent j=S.ent j∧β' b j=β j)∨S2.ent j = .none:=by
  intro b j hj;rw [hsame j hj]
  rcases hs2 j with h | h
  · exact .inl ⟨h,by simp [β',hj]⟩
  · exact .inr h
 have hheld:∀ j,j≠id'→(S2.ent j).held=true→(S1.ent j).held=true:=fun j hj h=>by rw [←hsame j hj]; exact h
 have hheld0:∀ j,(S1.ent j).held=true→(S.ent j).held=true:=fun j h=>by
  rcases hs2 j with h1 | h1
  · rw [←h1]; exact h
  · rw [h1] at h; cases h
 have hentid:S2.ent id' = .blk e (ds++es):=by simp [S2,BA,entL,Br,Bo,aV]
 have fresh:∀ (vs us:List AG) (cap:Nat),RdL E β vs ds→RdL E β us es→n+m≤cap→cap≤maxLen →
  (Builtin.append_ #[T,T] o.type #[a.eval x,a.eval y]).run P E.w = .ok (.slice (some ⟨E.w.heap.size,0,none⟩) (n+m) cap) (E.w.drew.alloc (.cells (vs.toArray++us.toArray++Builtin.zeroCells z.cells (cap-(n+m))) e)) →
  o.wp P a E.w next Q:=by
  intro vs us cap hvs hus hcap hcm hra;unfold Oper.wp;rw [hrun _ hra];simp only [Result.andThen_ok,Oper.upon,hd]
  let E':Env:=⟨E.w.drew.alloc (.cells (vs.toArray++us.toArray++Builtin.zeroCells z.cells (cap-(n+m))) e),fun b o=>b=E.w.heap.size∨E.X b o⟩
  have hs:Step O E E' E.w.heap.size :=
   ⟨rfl,rfl,rfl,by simp [E'],by simp [E'],.inl hr.h.size,fun k hk _=>heap_alloc_old E.w.drew _ hk,fun k o hk=>by simp [E',hk],fun _ h=>BU _ (dR h)⟩
  have hle:E.le E':=hs.le (fun o v h1 _=>by have:=World.block_lt_of_cell? _ _ h1; simp at this) (fun c e f h1=>by have:=dR h1; simp at this);have hnew:E'.w.heap[E.w.heap.size]? = some (.cells (vs.toArray++us.toArray++Builtin.zeroCells z.cells (cap-(n+m))) e (0,0)):=heap_alloc_new E.w.drew _;have hvl:=hvs.length;have hul:=hus.length;have hvs':=(AW hle (hβ E.w.heap.size) hvs).append (AW hle (hβ E.w.heap.size) hus);refine hn E' (β' E.w.heap.size) _ ⟨by simp [Act.put,hr.n],hr.nd.step hs,?_,slots E' _ _ hle (hβ _) ?_⟩
  · refine Dd hr.h hs hle (hβ _) (fun j hj=>hother _ j hj) ?_ (id:=id') (by simp [β']) ?_ (fun _ _=>trivial)
    · intro j hj hh hbj;have:=hr.h.held_lt (hheld0 j (hheld j hj hh)) hbj;omega
    · rw [hentid];exact ⟨vs++us,(Builtin.zeroCells z.cells (cap-(n+m))).toList,by rw [hnew]; simp,fun o=>.inl rfl,hvs'⟩
  · exact .osl _ _ E.w.heap.size _ cap size (by simp [β']) hcap hsp _ _ _ hnew
     (by simp only [DP,Cm,size_zeroCells,hz,hvl,hul,hl,hes]; rw [←Bw,←Bw]; exact AU _ (by omega)) hcm
 have nothing:m=0→es=[]→(a.eval y = .slice none 0 0∨∃ b c',a.eval y = .slice (some b) 0 c')→o.wp P a E.w next Q:=by
  intro hm0 he0 hyv;subst hm0 he0
  rcases hx E β a hr with ⟨hxv,rfl,rfl⟩ | ⟨b,cap,c,vs,hxv,hnc,hcm,hc,hcs,hvt,hvs,hown,hX,hap⟩
  · have hra:=pJ (P:=P) (w:=E.w) (ty:=o.type) hu hi none 0 0 (AP _) _ hyv;unfold Oper.wp;rw [←hxv] at hra;rw [hrun _ hra];simp only [Result.andThen_ok,Oper.upon,hd];refine hn E β _ ⟨by simp [Act.put,hr.n],hr.nd,?_,slots E β _ (Co _) (bY.le.refl _) (by rw [hxv]; exact .nosl _ _ _)⟩;refine { hr.h with ent:=fun j=>?_,inj:=fun j k b hj hk h1 h2=>?_ }
    · show qX O E β j (S2.ent j)
      by_cases hj:j=id'
      · subst hj; rw [hentid]; exact .inl ⟨hfre,rfl⟩
      · rcases hother 0 j hj with ⟨h,_⟩ | h
        · rw [h]; exact hr.h.ent j
        · rw [h]; trivial
    · have hnj:∀ j b,(S2.ent j).held=true→β j=some b→(S.ent j).held=true:=by
       intro j b hh hb;have hj:j≠id':=by rintro rfl; rw [hfre] at hb; cases hb
       exact hheld0 j (hheld j hj hh)
      exact hr.h.inj j k b (hnj j b hj h1) (hnj k b hk h2) h1 h2
  · have hra:=pJ (P:=P) (w:=E.w) (ty:=o.type) hu hi (some ⟨b,0,none⟩) n cap hnc _ hyv;unfold Oper.wp;rw [←hxv] at hra;rw [hrun _ hra];simp only [Result.andThen_ok,Oper.upon,hd];have hs:Step O E E b:=⟨rfl,rfl,rfl,AP _,dR hc,hown,fun _ _ _=>rfl,fun _ _ _=>Dy,fun _ h=>by first | (rw [hc] at h; cases h) | (rw [hh] at h; cases h)⟩;refine hn E (β' b) _ ⟨by simp [Act.put,hr.n],hr.nd,?_,slots E _ _ (Co _) (hβ _) ?_⟩
    · refine Dd hr.h hs (Co _) (hβ _) (fun j hj=>hother _ j hj) (fun j hj hh=>hap j (hheld j hj hh)) (id:=id') (by simp [β']) ?_ (fun _ _=>trivial);rw [hentid];refine ⟨vs,c.toList.drop vs.length,?_,hX,by rw [Ax]; exact AW (Co _) (hβ _) hvs⟩;rw [hc]; congr 2;apply Array.ext'; simp only [List.toList_toArray]
      conv=>lhs; rw [←AX vs.length c.toList]
      rw [hvt]
    · rw [hxv];exact .osl _ _ b _ cap size (by simp [β']) hnc hsp _ _ _ hc hcs hcm
 rcases hy E β a hr with ⟨hyv,hm0,he0⟩ | ⟨yb,yoff,ycap,us,hyv,hyr,hus⟩
 · exact nothing hm0 he0 hyv
 · by_cases hemp:m=0
   · exact nothing hemp (AV.1 (by rw [hes,hemp,CY])) (.inr ⟨_,_,by subst hemp; exact hyv⟩)
   · have hne:0<m:=by omega
     have hul:us.length=m*i.size:=by rw [hus.length,hes,hi3]
     rcases hx E β a hr with ⟨hxv,rfl,rfl⟩ | ⟨b,cap,c,vs,hxv,hnc,hcm,hc,hcs,hvt,hvs,hown,hX,hap⟩
     · have hra:=run_append_nil (P:=P) E.w T o.type e i z hu hi1 hi2 ⟨yb,yoff,none⟩ m ycap us hul hyr hne (by simp [maxLen] at hm; omega) (by rw [hi4]; simp at hb; omega);refine fresh [] us (grownCap E.w m 0 e) (.nil _) hus (by simpa using grownCap_ge _ _ _ _) (grownCap_le_maxLen _ _ _ _ (by simpa using hm)) ?_;rw [hxv,hyv];simpa using hra
     · have hvl:vs.length=n*i.size:=by rw [hvs.length,hl,hi3]
       by_cases hroom:n+m≤cap
       · have hvt':c.toList.take (n*i.size)=vs:=by rw [←hvl]; exact hvt
         have hfit:n*i.size+us.length≤c.size:=by rw [hul,hi3,←Bw]; exact BG (AU _ hroom) hcs
         have hra:=run_append_room (P:=P) E.w T o.type e i hu hi1 b n cap c hc ⟨yb,yoff,none⟩ m ycap us hul hyr (aBG hus hone) hroom hfit;rw [hvt'] at hra;unfold Oper.wp;rw [←hxv,←hyv] at hra;rw [hrun _ hra];simp only [Result.andThen_ok,Oper.upon,hd]
         let E':Env:=⟨E.w.setRow b (vs++us++c.toList.drop (n*i.size+us.length)).toArray,E.X⟩
         have hs:Step O E E' b:=⟨rfl,rfl,rfl,by simp [E'],by simpa [E'] using dR hc,hown,fun k _ hk=>setRow_other _ _ _ _ hk,fun k o hk=>Dy,fun _ h=>by first | (rw [hc] at h; cases h) | (rw [hh] at h; cases h)⟩;have hnew:E'.w.heap[b]? = some (.cells (vs++us++c.toList.drop (n*i.size+us.length)).toArray e (0,0)):=setRow_heap _ _ _ _ _ _ hc;have hsz:(vs++us++c.toList.drop (n*i.size+us.length)).toArray.size=c.size:=by
          simp [hvl]; omega
         have hle:E.le E':=hs.le (fun o v _ h2=>Ay (hX o) h2) (fun c' e' f' h1=>by rw [hc] at h1; cases h1; exact ⟨_,_,hnew,hsz⟩);have hvs':=(AW hle (hβ b) hvs).append (AW hle (hβ b) hus);refine hn E' (β' b) _ ⟨by simp [Act.put,hr.n],hr.nd.step hs,?_,slots E' _ _ hle (hβ _) ?_⟩
         · refine Dd hr.h hs hle (hβ _) (fun j hj=>hother _ j hj) (fun j hj hh=>hap j (hheld j hj hh)) (id:=id') (by simp [β']) ?_ (fun _ _=>trivial);rw [hentid];exact ⟨vs++us,_,hnew,hX,hvs'⟩
         · exact .osl _ _ b _ cap size (by simp [β']) hroom hsp _ _ _ hnew (by rw [hsz]; exact hcs) hcm
       · have hxr:∀ j u,vs[j]? = some u→E.w.cell? ((⟨b,0,none⟩:Addr).add j)=some u:=fun j u hj=>by
          rw [nR,Bj,cell_of_row _ _ _ _ _ _ hc,←CB];have hlt:=(Aj.1 hj).1;have h1:(c.toList.take vs.length)[j]? = some u:=by rw [hvt]; exact hj
          rwa [Ca,Ao hlt] at h1
         have hra:=run_append_grow (P:=P) E.w T o.type e i z hu hi1 hi2 ⟨b,0,none⟩ n cap vs hvl hxr ⟨yb,yoff,none⟩ m ycap us hul hyr (by omega) (by simp [maxLen] at hm; omega) (growslice_fits (by omega) (by rw [hi4]; exact hb));refine fresh vs us (grownCap E.w (n+m) cap e) hvs hus (grownCap_ge _ _ _ _) (grownCap_le_maxLen _ _ _ _ hm) ?_;rw [hxv,hyv];exact hra

theorem aGY{y:Operand}{f:Bool}{ys:List D}(hy:SV S y (.slice f ys)):∀ E β a,Rel O N S E β a→Src E β (a.eval y) ys.length (Ac ys):=by
 intro E β a hr
 rcases tV (hy.rd hr) with ⟨hyv,rfl⟩ | ⟨yb,yoff,ycap,ysz,us,hyv,hyc,_,hyz,hysp,hyrow,hus⟩ | ⟨ad,ycap,hyv,rfl⟩
 · exact .inl ⟨.inl hyv,rfl,rfl⟩
 rotate_left
 · exact .inl ⟨.inr ⟨_,_,hyv⟩,rfl,rfl⟩
 · exact .inr ⟨yb,yoff,ycap,us,hyv,fun j u hj=>by rw [nR]; exact (hyrow j u hj).1,AW (Co _) (fun _ _ h=>by cases h) hus⟩
theorem src_osl{y:Operand}{id sz m:Nat}{e:At}{es:List D}(hy:S.op y = .osl id sz m)(he:S.ent id = .blk e es)(hm:es.length=m*sz)(hsz:0<sz):∀ E β a,Rel O N S E β a→Src E β (a.eval y) m es:=by
 intro E β a hr;have hv:=hr.op y;rw [hy] at hv;have hent:=hr.h.ent id;rw [he] at hent;generalize a.eval y=v at hv;cases hv with
 | nosl=>exact .inl ⟨.inl rfl,rfl,AV.1 (by rw [hm,CY])⟩
 | osl _ _ b _ cap _ hb hc _ c e' f h1 h2 h3 =>
   obtain ⟨vs,sp,_,hh,_,hl⟩:=sZ hent hb;exact .inr ⟨b,0,cap,vs,rfl,fun j u hj=>by
    rw [nR,Bj,cell_of_row _ _ _ _ _ _ hh];have hlt:=(Aj.1 hj).1;simpa [AJ hlt] using hj,hl⟩

theorem aDq{T e:At}{x y:Am}{z:AG}{size bytes n m k:Nat}{ds es ds':List D}{id:Nat}(id':Nat)(ho:o.op = .call { callee:=.builtin .append,args:=#[x,y],argTypes:=#[T,T] })(hd:o.dst=some t)(ht:t<N)(hu:P.underlying T=some (.slice e))(hi:TI P e (some z) size bytes)(hz:z.cells.size=size)(hsp:0<size)(hx:S.op x = .osl id size n)(he:S.ent id = .blk e ds)(hfr:S.ent id' = .fresh)(hl:ds.length=n*size)(hy:∀ E β a,Rel O N S E β a→Src E β (a.eval y) m es)(hes:es.length=m*size)(hone:es.all Ee=true)(hm:n+m≤maxLen)(hb:(n+m)*bytes≤140737488355328)(hds:ds++es=ds')(hk:n+m=k) :
 IOp P O N o S (((S.setE id .none).setE id' (.blk e ds')).set t (.osl id' size k)):=by
 subst hds hk;refine vO (S1:=S.setE id .none) id' ho hd ht hu hi hz hsp rfl ?_ hfr ?_ hl hy hes hone hm hb
 · intro j
   by_cases hj:id=j
   · subst hj; right; simp [BA,entL,Br,aV]
   · left; simp [BA,entL,Br,aV,hj]
 · intro E β a hr;have hv:=hr.op x;rw [hx] at hv;have hent:=hr.h.ent id;rw [he] at hent;generalize hev:a.eval x=v at hv;cases hv with
   | nosl=>exact .inl ⟨rfl,rfl,AV.1 (by rw [hl,CY])⟩
   | osl _ _ b _ cap _ hβ hc _ c e' f' h1 h2 h3 =>
     right;obtain ⟨vs,sp,hown,hh,hX,hvs⟩:=sZ hent hβ;rw [hh] at h1; cases h1;refine ⟨b,cap,_,vs,rfl,hc,h3,hh,h2,by simp,hvs,hown,hX,?_⟩;intro j hj hb
     by_cases hji:id=j
     · subst hji; simp [BA,entL,Br,aV,DD] at hj
     · have hj':(S.ent j).held=true:=by simpa [BA,entL,Br,aV,hji] using hj
       exact hji (hr.h.inj id j b (by rw [he]; rfl) hj' hβ hb)

theorem aBl{T e:At}{x y:Am}{z:AG}{size bytes m:Nat}{es:List D}(id':Nat)(ho:o.op = .call { callee:=.builtin .append,args:=#[x,y],argTypes:=#[T,T] })(hd:o.dst=some t)(ht:t<N)(hu:P.underlying T=some (.slice e))(hi:TI P e (some z) size bytes)(hz:z.cells.size=size)(hsp:0<size)(hx:S.op x = .nils)(hfr:S.ent id' = .fresh)(hy:∀ E β a,Rel O N S E β a→Src E β (a.eval y) m es)(hes:es.length=m*size)(hone:es.all Ee=true)(hm:m≤maxLen)(hb:m*bytes≤140737488355328) :
 IOp P O N o S ((S.setE id' (.blk e es)).set t (.osl id' size m)):=by
 have:=vO (P:=P) (O:=O) (N:=N) (n:=0) (ds:=[]) (S1:=S) id' ho hd ht hu hi hz hsp rfl (fun j=>.inl rfl) hfr ?_ (by simp) hy hes hone (by simpa using hm) (by simpa using hb)
 · simpa using this
 · intro E β a hr;have hv:=hr.op x;rw [hx] at hv;generalize hev:a.eval x=v at hv;cases hv;exact .inl ⟨rfl,rfl,rfl⟩

theorem aC6{T e:At}{x y:Am}{len sz:Nat}{k:IntKind}{n:Int}{z:Ag AG}{bytes:Nat}{id off':Nat}(ho:o.op = .indexAddr T x y)(hd:o.dst=some t)(ht:t<N)(hu:P.underlying T=some (.slice e))(hi:TI P e z sz bytes)(hx:SV S x (.osl id sz len))(hy:SV S y (.int k n))(h0:0≤n)(hn:n.toNat<len)(ho':n.toNat*sz=off') :
 IOp P O N o S (S.set t (.ref id off')) :=
 kG hd ht fun E β a hr=>by
  have hv:=hx.rd hr;generalize hev:a.eval x=v at hv;cases hv with
  | nosl=>omega
  | osl _ _ b _ cap _ hb hc =>
    refine ⟨.pointer (some ⟨b,off',none⟩),?_,.ref _ _ _ _ hb⟩;have h1:=lS (hy.rd hr);have h2:n<(len:Int):=by omega
    subst ho';simp [execOp,ho,hev,h1,Instr.indexAt,asIntOf,run_underlying hu,h0,h2,hi.run_size,nR]

theorem aEX{T e:At}{x:Am}{id sz len:Nat}{n:Int}(ho:o.op = .call { callee:=.builtin .len,args:=#[x],argTypes:=#[T] })(hd:o.dst=some t)(ht:t<N)(hu:P.underlying T=some (.slice e))(hx:SV S x (.osl id sz len))(hn:(len:Int)=n):IOp P O N o S (S.set t (.int .i64 n)) :=
 kG hd ht fun E β a hr=>⟨.int .i64 n,by
  subst hn;have hv:=hx.rd hr;generalize hev:a.eval x=v at hv;cases hv <;> simp [execOp,ho,resolve,invoke,builtin,Builtin.len_,run_underlying hu,hev,goInt],.int _ _ _⟩

theorem svno{x:Operand}{id sz:Nat}(h:S.op x = .nils):SV S x (.osl id sz 0):=fun E β v k=>by
 rw [h] at k; cases k; exact .nosl _ _ _

theorem aFy{e:TypeId}{sz n:Nat}{ds:List D}(id:Nat)(hd:o.dst=some t)(ht:t<N)(hf:S.ent id = .fresh)(hlen:ds.length=n*sz)(hsp:0<sz)(hmax:n≤maxLen)(h:∀ E β a,Rel O N S E β a→∃ vs:List AG,(execOp a.eval o).run P E.w = .ok (.value (.slice (some ⟨E.w.heap.size,0,none⟩) n n)) (E.w.alloc (.cells vs.toArray e))∧RdL E β vs ds) :
 IOp P O N o S ((S.setE id (.blk e ds)).set t (.osl id sz n)):=by
 intro E β a hr next Q hn;obtain ⟨vs,hrun,hv⟩:=h E β a hr;unfold Oper.wp;rw [hrun];simp only [Oper.upon,hd];have hfr:β id=none:=by have:=hr.h.ent id; rw [hf] at this; exact this
 let E':Env:=⟨E.w.alloc (.cells vs.toArray e),fun b o=>b=E.w.heap.size∨E.X b o⟩
 let β':bY:=fun j=>if j=id then some E.w.heap.size else β j
 have hβ:β.le β':=fun j b hj=>by
  by_cases hji:j=id
  · subst hji; rw [hfr] at hj; cases hj
  · simp [β',hji,hj]
 have hs:Step O E E' E.w.heap.size :=
  ⟨rfl,rfl,rfl,by simp [E'],by simp [E'],.inl hr.h.size,fun k hk _=>heap_alloc_old _ _ hk,fun k o hk=>by simp [E',hk],fun _ h=>BU _ (dR h)⟩
 have hle:E.le E':=hs.le (fun o v h1 _=>by have:=World.block_lt_of_cell? _ _ h1; simp at this) (fun c e f h1=>by have:=dR h1; simp at this);refine hn E' β' _ ⟨by simp [Act.put,hr.n],hr.nd.step hs,?_,?_⟩
 · refine Dd hr.h hs hle hβ ?_ ?_ (id:=id) (by simp [β']) ?_ (fun _ _=>trivial)
   · intro j hj; left; constructor
     · simp [BA,entL,Br,Bo,aV,Ne.symm hj]
     · simp [β',hj]
   · intro j hj hheld hb;have:(S.ent j).held=true:=by simpa [BA,entL,Br,Bo,aV,Ne.symm hj] using hheld
     have:=hr.h.held_lt this hb;omega
   · simp only [BA,entL,Br,Bo,aV,if_true];exact ⟨vs,[],by rw [Ax]; exact heap_alloc_new _ _,fun o=>.inl rfl,AW hle hβ hv⟩
 · intro s;have hts:t<a.tmps.size:=hr.n ▸ ht
   by_cases hst:t=s
   · subst hst;simp only [Act.put,Cf,Bo,aV,if_true,BI,BZ,hts,CM];exact .osl _ _ E.w.heap.size _ n sz (by simp [β']) (AP _) hsp _ _ _ (heap_alloc_new E.w _) (by simp [hv.length,hlen]) hmax
   · have:=CA hle hβ (hr.sl s);simpa [Act.put,Cf,Bo,Br,aV,hst,Bf] using this

theorem aAj{T e:At}{len esz eb:Nat}{ez:AG}{ps:List (Nat×Am)}{dps:List (Nat×D)}{ds:List D}(id:Nat)(ho:o.op = .buildSlice T len ps.toArray)(hd:o.dst=some t)(ht:t<N)(hu:P.underlying T=some (.slice e))(he:TI P e (some ez) esz eb)(hsp:0<esz)(hf:S.ent id = .fresh)(hx:PVs S ps dps)(hfill:aAm (fun i=>some (i*esz,esz)) (AK (len*esz) .dead) dps=some ds)(hl:ds.length=len*esz)(hb:len*esz≤2 ^ 24) :
 IOp P O N o S ((S.setE id (.blk e ds)).set t (.osl id esz len)):=by
 refine aFy id hd ht hf hl hsp (by have:len≤len*esz:=ED _ hsp; simp only [maxLen]; omega) fun E β a hr=>?_
 obtain ⟨i,h1,h2,h3,_⟩:=he.at
 let init:Array AG:=(Array.range (len*esz)).map fun k=>(if len*esz=0 then #[] else ez.cells)[k % (if len*esz=0 then #[] else ez.cells).size]!
 have hinit:RdL E β init.toList (AK (len*esz) .dead):=by
  have:=vA E β init.toList
  rwa [show init.toList.length=len*esz by simp [init]] at this
 obtain ⟨cells,h4,h5⟩:=aAO hr hx hinit hfill;have hcl:cells.size=len*esz:=by have:=h5.length; rw [hl] at this; simpa using this
 refine ⟨cells.toList,?_,h5⟩;have hb':¬ (2 ^ 24<len*esz):=by omega
 simp only [execOp,ho,Instr.buildSlice,Sem.run_bind,run_underlying hu,Result.andThen_ok,he.run_size];rw [Al (by simpa using hb')]
 by_cases h0:len*esz=0
 · have h4':=h4;simp only [init,h0,if_true] at h4' ⊢;simp at h4';simp [h4',newRow]
 · have h4':=h4;simp only [init,h0,if_false] at h4' ⊢;simp [zeroValue,typeInfo,h1,h2,h4',newRow]

end
end Go.IL
open Option renaming map_eq_some_iff → Cz
namespace Go.IL
section
variable {P:Ba} {O:bZ} {N:Nat} {S S':St} {o:Oper} {t:Nat} {Q:Exit→St→Prop}

def aHx(u:Option TypeDesc)(d e:D):Ag Bool :=
 match u,d,e with
 | some (.int _),.int k a,.int k' b=>if k=k' then some (decide (a=b)) else none
 | some .bool,.bool a,.bool b=>some (a == b)
 | some .string,.str a,.str b=>some (decide (a=b))
 | _,_,_=>none
def aBr(P:Program)(ds es:List D):List Field→Ag Bool
 | []=>some true
 | f :: fs =>
   if f.name = "_" then none else
   match ds[f.offset]?,es[f.offset]? with
   | some d,some e=>match aHx (P.underlying f.type) d e with
     | some b=>(aBr P ds es fs).map (b && ·)
     | none=>none
   | _,_=>none

theorem bs_eq(a b:List DC):(bs a == bs b)=decide (a=b):=by
 show ((bs a).data == (bs b).data)=_
 simp [bs]; exact DV _ _

theorem aFq{w:World}{E:Env}{β β':bY}{T:At}{x y:AG}{d e:D}{b:Bool}(n:Nat)(h:aHx (P.underlying T) d e=some b)(hx:Rd E β x d)(hy:Rd E β' y e) :
 (Op.equalIn (n+1) T x y).run P w = .ok b w∧(isAgg T).run P w = .ok false w:=by
 unfold aHx at h;split at h
 · rename_i k k1 a k2 c hu;cases hx; cases hy;split at h
   · rename_i hk; subst hk; cases h;exact ⟨by simp [Op.equalIn,run_underlying hu,DV],by simp [isAgg,run_underlying hu]⟩
   · cases h
 · rename_i a c hu;cases hx; cases hy; cases h;exact ⟨by simp [Op.equalIn,run_underlying hu],by simp [isAgg,run_underlying hu]⟩
 · rename_i a c hu;cases hx; cases hy; cases h;exact ⟨by simp [Op.equalIn,run_underlying hu,bs_eq],by simp [isAgg,run_underlying hu]⟩
 · cases h

theorem aBC{w:World}{E:Env}{β β':bY}{xs ys:List AG}{ds es:List D}(n:Nat)(hx:RdL E β xs ds)(hy:RdL E β' ys es):∀ (fs:List Field) {b:Bool},aBr P ds es fs=some b →
 (Op.eqFields (n+1) xs.toArray ys.toArray fs).run P w = .ok b w
 | [],b,h=>by simp only [aBr,Option.some.injEq] at h; subst h; simp [Op.eqFields]
 | f :: fs,b,h=>by
   unfold aBr at h;split at h
   · cases h
   · rename_i hn;split at h
     · rename_i d e hd he;split at h
       · rename_i b1 hb1;simp only [Cz] at h;obtain ⟨b2,h2,rfl⟩:=h;have hxl:f.offset<xs.length:=by rw [hx.length]; exact (Aj.1 hd).1
         have hyl:f.offset<ys.length:=by rw [hy.length]; exact (Aj.1 he).1
         have rx:=hx.get f.offset (v:=xs[f.offset]) (by simp [hxl]) hd;have ry:=hy.get f.offset (v:=ys[f.offset]) (by simp [hyl]) he;obtain ⟨g1,g2⟩:=aFq (P:=P) (w:=w) n hb1 rx ry;have p1:(part f.type xs.toArray f.offset).run P w = .ok xs[f.offset] w:=by simp [part,g2,hxl]
         have p2:(part f.type ys.toArray f.offset).run P w = .ok ys[f.offset] w:=by simp [part,g2,hyl]
         have ih:=aBC (w:=w) n hx hy fs h2;simp only [Op.eqFields,hn,ne_eq,not_false_eq_true,if_true,Sem.run_bind,p1,p2,g1,Result.andThen_ok];cases b1
         · simp
         · simpa using ih
       · cases h
     · cases h

theorem aHN{xt yt:At}{x y:Am}{fs:Array Field}{ds es:List D}{b:Bool}(ho:o.op = .binOp .neq xt x y yt)(hd:o.dst=some t)(ht:t<N)(hu:P.underlying xt=some (.struct fs))(hs:P.stoodInHeld xt=false)(hg:P.eqGuardType P.depth xt=false)(hx:SV S x (.agg ds))(hy:SV S y (.agg es))(hb:aBr P ds es fs.toList=some b):IOp P O N o S (S.set t (.bool !b)) :=
 kG hd ht fun E β a hr=>by
  have h1:=hx.rd hr;have h2:=hy.rd hr;generalize hv1:a.eval x=v1 at h1;generalize hv2:a.eval y=v2 at h2;cases h1 with
  | agg _ vs1 _ r1=>cases h2 with
    | agg _ vs2 _ r2 =>
      have hf:P.fieldsOf xt=fs:=by simp [Program.fieldsOf,hu]
      have h3:=run_equalIn_struct (P:=P) E.w 9999 xt vs1.toArray vs2.toArray (by rw [hf]; exact hu) hs;rw [hf,aBC 9998 r1 r2 fs.toList hb] at h3;have h4:(Op.equal xt (.agg vs1.toArray) (.agg vs2.toArray)).run P E.w = .ok b E.w:=h3;exact ⟨.bool !b,by simp [execOp,ho,hv1,hv2,eqGuard,hg,binOp,h4],.bool _ _⟩
end
end Go.IL
namespace Go.IL

mutual
inductive Sub:D→D→Prop
 | refl (d):Sub d d
 | nils (f):Sub .nils (.slice f [])
 | full (l):Sub (.slice true l) (.slice false l)
 | gsl (id sz l):Sub (.gsl id sz l) (.slice false l)
 | dead (d):Sub d .dead
 | nilp:Sub .nilp (.optp false)
 | refp (id off):Sub (.ref id off) (.optp true)
 | agg {cs cs'} (h:SubL cs cs'):Sub (.agg cs) (.agg cs')
 | tuple {cs cs'} (h:SubL cs cs'):Sub (.tuple cs) (.tuple cs')
 | fn {f cs cs'} (h:SubL cs cs'):Sub (.fn f cs) (.fn f cs')
inductive SubL:List D→List D→Prop
 | nil:SubL [] []
 | cons {d d' ds ds'} (h:Sub d d') (t:SubL ds ds'):SubL (d::ds) (d'::ds')
end
mutual
theorem Rd.sub{E:Env}{β:bY}:∀ {v:AG} {d d':D},Sub d d'→Rd E β v d→Rd E β v d'
 | _,_,_,.refl _,h=>h
 | _,_,_,.nils f,.nils _=>.nslice _ f
 | _,_,_,.full l,.slice _ b off len cap sz _ vs _ hl hc hf hz hsz hr hv=>.slice _ b off len cap sz false vs l hl hc (fun h=>by cases h) hz hsz hr hv
 | _,_,_,.full _,.nslice _ _=>.nslice _ false
 | _,_,_,.full _,.eslice _ a c _ _=>.eslice _ a c false (fun h=>by cases h)
 | _,_,_,.gsl _ _ l,.gsl _ _ b len cap sz vs _ _ hl hc hz hsz hr hv _ _ _ _ _ _=>.slice _ b 0 len cap sz false vs l hl hc (fun h=>by cases h) hz hsz hr hv
 | _,_,_,.gsl _ _ _,.ngsl _ _ _=>.nslice _ false
 | _,_,_,.dead _,_=>.dead _ _
 | _,_,_,.nilp,.nilp _=>.optp0 _
 | _,_,_,.refp _ _,.ref _ _ _ _ _=>.optp1 _ _
 | _,_,_,.agg h,.agg _ vs _ hv=>.agg _ vs _ (RdL.sub h hv)
 | _,_,_,.tuple h,.tuple _ vs _ hv=>.tuple _ vs _ (RdL.sub h hv)
 | _,_,_,.fn h,.fn _ f vs _ hv=>.fn _ f vs _ (RdL.sub h hv)
theorem RdL.sub{E:Env}{β:bY}:∀ {vs:List AG} {ds ds':List D},SubL ds ds'→RdL E β vs ds→RdL E β vs ds'
 | _,_,_,.nil,.nil _=>.nil _
 | _,_,_,.cons h t,.cons hv tv=>.cons (Rd.sub h hv) (RdL.sub t tv)
end

section
variable {P:Ba} {O:bZ} {N:Nat} {S S':St} {o:Oper} {t:Nat} {Q:Exit→St→Prop}
theorem SV.sub{x:Operand}{d d':D}(h:SV S x d)(k:Sub d d'):SV S x d':=fun E β v hv=>Rd.sub k (h E β v hv)

theorem Rel.subS{E:Env}{β:bY}{a:Act}(h:Rel O N S E β a){d d':D}(hS:S.get t=d)(k:Sub d d'):Rel O N (S.set t d') E β a:=by
 refine ⟨h.n,h.nd,h.h,fun s=>?_⟩
 by_cases hs:t=s
 · subst hs;have h1:=h.sl t;rw [hS] at h1;simpa [Cf,Bo,aV] using Rd.sub k h1
 · have:=h.sl s;simpa [Cf,Bo,aV,hs] using this
theorem Rel.subE{E:Env}{β:bY}{a:Act}(h:Rel O N S E β a){id:Nat}{e:At}{ds ds':List D}(hE:S.ent id = .blk e ds)(k:SubL ds ds'):Rel O N (S.setE id (.blk e ds')) E β a:=by
 have hsame:∀ j,j≠id→(S.setE id (.blk e ds')).ent j=S.ent j:=fun j hj=>by simp [BA,entL,Br,aV,Ne.symm hj]
 have hid:(S.setE id (.blk e ds')).ent id = .blk e ds':=by simp [BA,entL,Br,aV]
 have hheld:∀ j,((S.setE id (.blk e ds')).ent j).held=true→(S.ent j).held=true:=fun j hj=>by
  by_cases h1:j=id
  · subst h1; rw [hE]; rfl
  · rw [←hsame j h1]; exact hj
 refine ⟨h.n,h.nd,?_,h.sl⟩;refine { h.h with ent:=fun j=>?_,inj:=fun i j b hi hj h1 h2=>h.h.inj i j b (hheld i hi) (hheld j hj) h1 h2 }
 by_cases hj:j=id
 · subst hj;have he:=h.h.ent j;rw [hE] at he;rw [hid]
   rcases he with ⟨h1,h2⟩ | ⟨b,vs,sp,h1,h2,h3,h4,h5⟩
   · subst h2; cases k; exact .inl ⟨h1,rfl⟩
   · exact .inr ⟨b,vs,sp,h1,h2,h3,h4,RdL.sub k h5⟩
 · rw [hsame j hj]; exact h.h.ent j
end
end Go.IL
open Go.IntKind renaming wrap → Af
namespace Go.IL

theorem aIN{n:Int}(h0:0≤n)(h:n<18446744073709551616):IntKind.u64.wrap n=n:=by
 simp [Af,IntKind.signed,IntKind.bits]; omega
theorem wrap_i64{n:Int}(h0 : -9223372036854775808≤n)(h:n≤9223372036854775807):IntKind.i64.wrap n=n:=by
 simp [Af,IntKind.signed,IntKind.bits]; omega

def vbad(n:Int):Prop:=n<0∨4611686018427387903<n
instance (n:Int):Decidable (vbad n):=by unfold vbad; exact inferInstance
def NR(ds:List D):Prop:=AE noRef ds=true
mutual
theorem D.ren_bare{ρ:Nat→Nat}:∀ (d:D),d.refsIn noRef=true→d.ren ρ=d
 | .dead,_ | .bool _,_ | .int _ _,_ | .float _ _,_ | .str _,_ | .slice _ _,_ | .nils,_ | .fptr _,_ | .nilp,_ | .nilf,_ | .nili,_ | .optp _,_ | .mapp,_=>rfl
 | .ref _ _,h | .rsl _ _ _ _ _,h | .gsl _ _ _,h | .osl _ _ _,h | .yld _,h | .mref _,h=>by cases h
 | .agg cs,h=>by rw [D.ren,D.renL_bare cs (by simpa [BK] using h)]
 | .tuple cs,h=>by rw [D.ren,D.renL_bare cs (by simpa [BK] using h)]
 | .fn f cs,h=>by rw [D.ren,D.renL_bare cs (by simpa [BK] using h)]
 | .mv f cs,h=>by rw [D.ren,D.renL_bare cs (by simpa [BK] using h)]
 | .cnd b d,h=>by rw [D.ren,D.ren_bare d (by simpa [BK] using h)]
theorem D.renL_bare{ρ:Nat→Nat}:∀ (ds:List D),AE noRef ds=true→BD ρ ds=ds
 | [],_=>rfl
 | d::ds,h=>by
   have h':d.refsIn noRef=true∧AE noRef ds=true:=by simpa [AE] using h
   rw [BD,D.ren_bare d h'.1,D.renL_bare ds h'.2]
end
mutual
theorem D.refsIn_mono{p:Nat→Bool}:∀ (d:D),d.refsIn noRef=true→d.refsIn p=true
 | .dead,_ | .bool _,_ | .int _ _,_ | .float _ _,_ | .str _,_ | .slice _ _,_ | .nils,_ | .fptr _,_ | .nilp,_ | .nilf,_ | .nili,_ | .optp _,_ | .mapp,_=>rfl
 | .ref _ _,h | .rsl _ _ _ _ _,h | .gsl _ _ _,h | .osl _ _ _,h | .yld _,h | .mref _,h=>by cases h
 | .agg cs,h=>by simp only [BK] at h ⊢; exact D.refsInL_mono cs h
 | .tuple cs,h=>by simp only [BK] at h ⊢; exact D.refsInL_mono cs h
 | .fn f cs,h=>by simp only [BK] at h ⊢; exact D.refsInL_mono cs h
 | .mv f cs,h=>by simp only [BK] at h ⊢; exact D.refsInL_mono cs h
 | .cnd b d,h=>by simp only [BK] at h ⊢; exact D.refsIn_mono d h
theorem D.refsInL_mono{p:Nat→Bool}:∀ (ds:List D),AE noRef ds=true→AE p ds=true
 | [],_=>rfl
 | d::ds,h=>by
   have h':d.refsIn noRef=true∧AE noRef ds=true:=by simpa [AE] using h
   rw [AE,D.refsIn_mono d h'.1,D.refsInL_mono ds h'.2]; rfl
end
theorem EntW.plain{S S':St}{ρ:Nat→Nat}{id:Nat}{e:At}{ds ds':List D}(h:S.ent (ρ id) = .blk e ds')(hd:ds'=ds)(hr:NR ds):EntW S S' ρ id (.blk e ds) :=
 .blk h (by rw [hd,D.renL_bare ds hr]) (D.refsInL_mono ds hr)

end Go.IL
namespace Go.IL
theorem k4(b:UInt8):b.toNat / 64≤3:=by have:=b.toNat_lt; omega
end Go.IL
namespace Go.IL
end Go.IL
namespace Go.IL
end Go.IL
namespace Go.IL
end Go.IL
namespace Go.IL
theorem flat_take{α β:Type}{f:α→List β}{l:List α}{j:Nat}{x:α}(h:l[j]? = some x):(l.take (j+1)).flatMap f=(l.take j).flatMap f++f x:=by
 rw [List.take_add_one,h]; simp
end Go.IL
namespace Go.IL
end Go.IL
namespace Go.IL
end Go.IL
open Go.IL.D renaming refsInL_mono → Cl,renL_bare → CR
open List renaming drop_append → Dv,drop_drop → Ev,drop_of_length_le → BY,getElem?_cons_succ → Da,getElem?_cons_zero → DG,getElem?_map → CW,length_set → Bz,nil_append → Bp,set_cons_succ → Er,set_cons_zero → Fv,take_append → FO
open Nat renaming mod_eq_of_lt → FN
namespace Go.IL

def bnd{α β:Type}(e:α)(f:α→Ag β):Ag β:=f e
def bno{α β:Type}(e:Ag α)(f:α→Ag β):Ag β:=match e with | some x=>f x | none=>none
def chk{β:Type}(p:Prop)[Decidable p](o:Ag β):Ag β:=if p then o else none
def gd{α:Type}(g:Bool)(o:Option α)(d:α):Ag α:=bif g then o else some d

theorem bN{α β:Type}{e:α}{f:α→Ag β}{r:β}(h:bnd e f=some r):∃ x,e=x∧f x=some r:=⟨e,rfl,h⟩
theorem bS{α β:Type}{e:Ag α}{f:α→Ag β}{r:β}(h:bno e f=some r):∃ x,e=some x∧f x=some r:=by
 cases e with
 | none=>cases h
 | some x=>exact ⟨x,rfl,h⟩
theorem rO{β:Type}{p:Prop}[Decidable p]{o:Ag β}{r:β}(h:chk p o=some r):p∧o=some r:=by
 unfold chk at h; split at h
 · exact ⟨‹_›,h⟩
 · cases h
theorem aCA{α:Type}{b:Bool}{x y r:α}(h:(bif b then x else y)=r)(hb:b=true):x=r:=by subst hb; exact h
theorem aBv{α:Type}{b:Bool}{x y r:α}(h:(bif b then x else y)=r)(hb:b=false):y=r:=by subst hb; exact h
theorem gd_t{α:Type}{g:Bool}{o:Option α}{d x:α}(h:gd g o d=some x)(hb:g=true):o=some x:=by subst hb; exact h

def quoI(k:IntKind)(a b:Int):Ag Int:=if b=0 then none else some (k.wrap (a.tdiv b))
def remI(a b:Int):Ag Int:=if b=0 then none else some (a.tmod b)
def shrI(k:IntKind)(a b:Int):Ag Int:=if b<0 then none else some (a.fdiv (2 ^ (min b.toNat k.bits)))
def gix{α:Type}(l:List α)(i:Int):Ag α:=if 0≤i then l[i.toNat]? else none
def cut{α:Type}(l:List α)(lo hi:Int):Ag (List α):=if 0≤lo∧lo≤hi∧hi≤(l.length:Int) then some ((l.take hi.toNat).drop lo.toNat) else none
def app{α:Type}(b:Nat)(l m:List α):Ag (List α):=if l.length+m.length≤9223372036854775807∧(l.length+m.length)*b≤140737488355328 then some (l++m) else none
def cat(a b:List DC):Ag (List DC):=if a.length+b.length≤9223372036854775807 then some (a++b) else none
def toU8(n:Int):Option DC:=if 0≤n∧n<256 then some (UInt8.ofNat n.toNat) else none
def made{α:Type}(b:Nat)(n:Int)(z:α):Option (List α):=if 0≤n∧(b:Int)*n≤281474976710656∧n≤9223372036854775807 then some (AK n.toNat z) else none
class Fu where
 n:Nat
instance fu0:Fu:=⟨2 ^ 64⟩
def fuel[Fu]:Nat:=Fu.n

theorem toU8_e{n:Int}{u:UInt8}(h:toU8 n=some u):(u.toNat:Int)=n:=by
 unfold toU8 at h; split at h
 · rename_i hn; cases h;have:n.toNat<256:=by omega
   simp only [UInt8.toNat_ofNat'];rw [FN this]; omega
 · cases h
theorem xC{α:Type}{l:List α}{i:Int}{x:α}(h:gix l i=some x):0≤i∧l[i.toNat]? = some x:=by
 unfold gix at h; split at h
 · exact ⟨‹_›,h⟩
 · cases h
theorem aJB{α:Type}{l m:List α}{lo hi:Int}(h:cut l lo hi=some m):(0≤lo∧lo≤hi∧hi≤(l.length:Int))∧(l.take hi.toNat).drop lo.toNat=m:=by
 unfold cut at h; split at h
 · exact ⟨‹_›,Option.some.inj h⟩
 · cases h
theorem aIB{α:Type}{b:Nat}{l m r:List α}(h:app b l m=some r):(l.length+m.length≤maxLen∧(l.length+m.length)*b≤140737488355328)∧l++m=r:=by
 unfold app at h; split at h
 · rename_i hh; exact ⟨⟨by unfold maxLen; omega,hh.2⟩,Option.some.inj h⟩
 · cases h
theorem cat_e{a b c:List DC}(h:cat a b=some c):a++b=c∧c.length≤9223372036854775807:=by
 unfold cat at h; split at h
 · cases h; exact ⟨rfl,by simpa using ‹_›⟩
 · cases h
structure Enc0 (α:Type) where
 d:α→D
 sz:Nat
 pos:0<sz
 fl:∀ x,(d x).cells.length=sz∧(d x).cells.all Ee=true
structure Enc (α:Type) extends Enc0 α where
 nr:∀ x,AE noRef (d x).cells=true

theorem Enc0.flat{α:Type}(f:Enc0 α)(l:List α):Flat f.sz (l.map f.d):=Flat.map f.fl l
theorem Enc0.len{α:Type}(f:Enc0 α)(l:List α):∀ d∈l.map f.d,d.cells.length=f.sz:=(f.flat l).len
theorem sB{p:Nat→Bool}:∀ {l m:List D},AE p l=true→AE p m=true→AE p (l++m)=true
 | [],_,_,h=>h
 | d::l,m,h,k=>by
   simp only [BW,AE,Av] at h ⊢;exact ⟨h.1,sB h.2 k⟩
theorem Enc.noRef{α:Type}(f:Enc α):∀ (l:List α),AE noRef (Ac (l.map f.d))=true
 | []=>rfl
 | x::l=>by
   simp only [Ac,Ai,CK];exact sB (f.nr x) (f.noRef l)
theorem Enc0.flat_len{α:Type}(f:Enc0 α)(l:List α):(Ac (l.map f.d)).length=l.length*f.sz:=by
 rw [qQ (f.len l),An]
theorem Enc0.flat_append{α:Type}(f:Enc0 α)(l m:List α):Ac (l.map f.d)++Ac (m.map f.d)=Ac ((l++m).map f.d):=by
 simp [Ac]
theorem Enc0.one{α:Type}(f:Enc0 α)(l:List α):(Ac (l.map f.d)).all Ee=true:=(f.flat l).all

section
variable {P:Ba} {O:bZ} {N:Nat} {S S':St} {o:Oper} {t:Nat} {Q:Exit→St→Prop}

theorem IOp.to{S1 S2:St}(h:IOp P O N o S S1)(k:∀ E β a,Rel O N S1 E β a→Rel O N S2 E β a):IOp P O N o S S2 :=
 fun E β a hr next Q hn=>h E β a hr next Q fun E' β' a' hr'=>hn _ _ _ (k _ _ _ hr')
theorem lV{c x y:Am}{b z r:Bool}(ho:o.op = .pick c x y)(hd:o.dst=some t)(ht:t<N)(hc:SV S c (.bool b))(hx:S.op x = .cnd (b == true) (.bool z))(hy:S.op y = .bool false)(hr:(b&&z)=r):IOp P O N o S (S.set t (.bool r)) :=
 hr ▸ iop_and ho hd ht hc hx hy
theorem aAJ{c x y:Am}{b z r:Bool}(ho:o.op = .pick c x y)(hd:o.dst=some t)(ht:t<N)(hc:SV S c (.bool b))(hx:S.op x = .bool true)(hy:S.op y = .cnd (b == false) (.bool z))(hr:(b||z)=r):IOp P O N o S (S.set t (.bool r)) :=
 hr ▸ iop_or ho hd ht hc hx hy
theorem aFM{c x y:Am}{b z g r:Bool}(ho:o.op = .pick c x y)(hd:o.dst=some t)(ht:t<N)(hg:g=true)(hc:SV S c (.bool b))(hx:S.op x = .bool true)(hy:S.op y = .cnd (g&&(b == false)) (.bool z))(hr:(b||z)=r):IOp P O N o S (S.set t (.bool r)) :=
 hr ▸ iop_or2 ho hd ht hg hc hx hy
theorem aBf{c x y:Am}{b u v r:Bool}(ho:o.op = .pick c x y)(hd:o.dst=some t)(ht:t<N)(hc:SV S c (.bool b))(hx:S.op x = .bool u)(hy:S.op y = .bool v)(hr:(bif b then u else v)=r):IOp P O N o S (S.set t (.bool r)) :=
 aAr ho hd ht hc (fun h=>sv (by rw [hx,←hr,h]; rfl)) (fun h=>sv (by rw [hy,←hr,h]; rfl))

theorem bD{op:BinOp}{xt yt:At}{x y:Am}{k:IntKind}{a b c c':Int}(ho:o.op = .binOp op xt x y yt)(hd:o.dst=some t)(ht:t<N)(hx:SV S x (.int k a))(hy:SV S y (.int k b))(hr:int2 op k a b=some (.int k c))(hc:c=c'):IOp P O N o S (S.set t (.int k c')):=aAt ho hd ht hx hy (hc ▸ hr)
theorem fK{op:BinOp}{xt yt:At}{x y:Am}{k:IntKind}{a b:Int}{c c':Bool}(ho:o.op = .binOp op xt x y yt)(hd:o.dst=some t)(ht:t<N)(hx:SV S x (.int k a))(hy:SV S y (.int k b))(hr:int2 op k a b=some (.bool c))(hc:c=c'):IOp P O N o S (S.set t (.bool c')):=aAt ho hd ht hx hy (hc ▸ hr)
theorem aC4{xt yt:At}{x y:Am}{k:IntKind}{a b c:Int}(ho:o.op = .binOp .quo xt x y yt)(hd:o.dst=some t)(ht:t<N)(hx:SV S x (.int k a))(hy:SV S y (.int k b))(hc:quoI k a b=some c):IOp P O N o S (S.set t (.int k c)):=aAt ho hd ht hx hy (by
 unfold quoI at hc; split at hc
 · cases hc
 · rename_i h; cases hc; simp only [int2,Al h])
theorem aC3{xt yt:At}{x y:Am}{k:IntKind}{a b c:Int}(ho:o.op = .binOp .rem xt x y yt)(hd:o.dst=some t)(ht:t<N)(hx:SV S x (.int k a))(hy:SV S y (.int k b))(hc:remI a b=some c):IOp P O N o S (S.set t (.int k c)):=aAt ho hd ht hx hy (by
 unfold remI at hc; split at hc
 · cases hc
 · rename_i h; cases hc; simp only [int2,Al h])
theorem aIu{xt yt:At}{x y:Am}{k k':IntKind}{a b c:Int}(ho:o.op = .binOp .shr xt x y yt)(hd:o.dst=some t)(ht:t<N)(hx:SV S x (.int k a))(hy:SV S y (.int k' b))(hc:shrI k a b=some c):IOp P O N o S (S.set t (.int k c)):=aHL ho hd ht hx hy (by
 unfold shrI at hc; split at hc
 · cases hc
 · rename_i h; cases hc; simp only [aGd,Al h])
theorem aIs{op:BinOp}{xt yt:At}{x y:Am}{a b:List DC}{c c':Bool}(ho:o.op = .binOp op xt x y yt)(hd:o.dst=some t)(ht:t<N)(hx:SV S x (.str a))(hy:SV S y (.str b))(hr:str2 op a b=some (.bool c))(hc:c=c'):IOp P O N o S (S.set t (.bool c')):=aIt ho hd ht hx hy (hc ▸ hr)
theorem aIw{xt yt:At}{x y:Am}{a b c:List DC}(ho:o.op = .binOp .add xt x y yt)(hd:o.dst=some t)(ht:t<N)(hx:SV S x (.str a))(hy:SV S y (.str b))(hc:cat a b=some c):IOp P O N o S (S.set t (.str c)):=iop_cat ho hd ht hx hy (cat_e hc).1 (cat_e hc).2
theorem bT{α:Type}(f:Enc α){T e:At}{x:Am}{b:Bool}{l:List α}(ho:o.op = .call { callee:=.builtin .len,args:=#[x],argTypes:=#[T] })(hd:o.dst=some t)(ht:t<N)(hu:P.underlying T=some (.slice e))(hx:SV S x (.slice b (l.map f.d))):IOp P O N o S (S.set t (.int .i64 (l.length:Int))):=aC5 ho hd ht hu hx (by rw [An])
theorem bL{α:Type}(f:Enc α){T e:At}{x y:Am}{b:Bool}{l:List α}{k:IntKind}{n:Int}{z:Ag AG}{size bytes:Nat}{a:α}{cs:List D}(ho:o.op = .indexAddr T x y)(hd:o.dst=some t)(ht:t<N)(hu:P.underlying T=some (.slice e))(hi:TI P e z size bytes)(hx:SV S x (.slice b (l.map f.d)))(hy:SV S y (.int k n))(hn:gix l n=some a)(hcs:(f.d a).cells=cs)(hsz:cs.length=size) :
 IOp P O N o S (S.set t (.fptr cs)) :=
 aBh ho hd ht hu hi hx hy (xC hn).1 (by rw [CW,(xC hn).2]; rfl) hcs hsz
theorem wR{α:Type}(f:Enc α){T e:At}{x:Am}{lo hi:Ag Am}{s r:List α}{b:Bool}{l h:Int}{z:Ag AG}{bytes:Nat}(ho:o.op = .slice T x lo hi none)(hd:o.dst=some t)(ht:t<N)(hu:P.underlying T=some (.slice e))(hi':TI P e z f.sz bytes)(hx:SV S x (.slice b (s.map f.d)))(hlo:zS S 0 lo l)(hhi:zS S (s.length:Int) hi h)(hc:cut s l h=some r):IOp P O N o S (S.set t (.slice false (r.map f.d))):=by
 obtain ⟨⟨h0,h1,h2⟩,hr⟩:=aJB hc;refine aBe (l:=l) (h:=h) ho hd ht hu hi' hx (f.len s) hlo (by rw [An]; exact hhi) h0 h1 (by rw [An]; exact h2) ?_;rw [←hr,List.map_drop,List.map_take]
theorem nZ{α:Type}(f:Enc α){T e:At}{x y:Am}{z:AG}{bytes:Nat}{xs ys zs:List α}{b:Bool}{id:Nat}(id':Nat)(ho:o.op = .call { callee:=.builtin .append,args:=#[x,y],argTypes:=#[T,T] })(hd:o.dst=some t)(ht:t<N)(hu:P.underlying T=some (.slice e))(hi:TI P e (some z) f.sz bytes)(hz:z.cells.size=f.sz)(hx:S.op x = .gsl id f.sz (xs.map f.d))(he:S.ent id = .tail e f.sz xs.length)(hfr:S.ent id' = .fresh)(hy:SV S y (.slice b (ys.map f.d)))(ha:app bytes xs ys=some zs) :
 IOp P O N o S (((S.setE id .none).setE id' (.tail e f.sz zs.length)).set t (.gsl id' f.sz (zs.map f.d))):=by
 obtain ⟨⟨h1,h2⟩,rfl⟩:=aIB ha;have:=aF7 (O:=O) id' ho hd ht hu hi hz f.pos hx (by rw [An]; exact he) hfr (f.len xs) hy (f.flat ys) (by simpa using h1) (by simpa using h2);simpa using this
theorem aDs{α:Type}(f:Enc α){T e:At}{x y:Am}{z:AG}{bytes:Nat}{ys zs:List α}{b:Bool}(id':Nat)(ho:o.op = .call { callee:=.builtin .append,args:=#[x,y],argTypes:=#[T,T] })(hd:o.dst=some t)(ht:t<N)(hu:P.underlying T=some (.slice e))(hi:TI P e (some z) f.sz bytes)(hz:z.cells.size=f.sz)(hx:S.op x = .nils)(hfr:S.ent id' = .fresh)(hy:SV S y (.slice b (ys.map f.d)))(ha:app bytes [] ys=some zs) :
 IOp P O N o S ((S.setE id' (.tail e f.sz zs.length)).set t (.gsl id' f.sz (zs.map f.d))):=by
 obtain ⟨⟨h1,h2⟩,rfl⟩:=aIB ha;have:=aBk (O:=O) id' ho hd ht hu hi hz f.pos hx hfr hy (f.flat ys) (by simpa using h1) (by simpa using h2);simpa using this
theorem oL{α:Type}(f:Enc α)(xs:List α){T e:At}{len eb:Nat}{ez:AG}{ps:List (Nat×Am)}{dps:List (Nat×D)}(id:Nat)(ho:o.op = .buildSlice T len ps.toArray)(hd:o.dst=some t)(ht:t<N)(hu:P.underlying T=some (.slice e))(he:TI P e (some ez) f.sz eb)(hf:S.ent id = .fresh)(hx:PVs S ps dps)(hfill:aAm (fun i=>some (i*f.sz,f.sz)) (AK (len*f.sz) .dead) dps=some (Ac (xs.map f.d)))(hl:xs.length=len)(hb:len*f.sz≤2 ^ 24) :
 IOp P O N o S ((S.setE id (.tail e f.sz xs.length)).set t (.gsl id f.sz (xs.map f.d))):=by
 have:=aB8 (O:=O) id ho hd ht hu he f.pos hf hx hfill (by rw [An]; exact hl) (f.len xs) (f.noRef xs) hb;rw [hl]; exact this

theorem aAg{α:Type}(f:Enc α){y:Am}{b:Bool}{ys:List α}(hy:SV S y (.slice b (ys.map f.d))):∀ E β a,Rel O N S E β a→Src E β (a.eval y) ys.length (Ac (ys.map f.d)):=by
 have:=aGY (O:=O) (N:=N) hy
 rwa [An] at this
theorem vT{α:Type}(f:Enc0 α){y:Am}{id n:Nat}{e:At}{ys:List α}(hy:S.op y = .osl id f.sz n)(hl:ys.length=n)(he:S.ent id = .blk e (Ac (ys.map f.d))):∀ E β a,Rel O N S E β a→Src E β (a.eval y) ys.length (Ac (ys.map f.d)) :=
 src_osl (by rw [hl]; exact hy) he (f.flat_len ys) f.pos
theorem lK{α:Type}(f:Enc0 α){T e:At}{x y:Am}{z:AG}{bytes n:Nat}{xs ys zs:List α}{id:Nat}(id':Nat)(ho:o.op = .call { callee:=.builtin .append,args:=#[x,y],argTypes:=#[T,T] })(hd:o.dst=some t)(ht:t<N)(hu:P.underlying T=some (.slice e))(hi:TI P e (some z) f.sz bytes)(hz:z.cells.size=f.sz)(hx:S.op x = .osl id f.sz n)(hl:xs.length=n)(he:S.ent id = .blk e (Ac (xs.map f.d)))(hfr:S.ent id' = .fresh)(hy:∀ E β a,Rel O N S E β a→Src E β (a.eval y) ys.length (Ac (ys.map f.d)))(ha:app bytes xs ys=some zs) :
 IOp P O N o S (((S.setE id .none).setE id' (.blk e (Ac (zs.map f.d)))).set t (.osl id' f.sz zs.length)):=by
 obtain ⟨⟨h1,h2⟩,rfl⟩:=aIB ha;exact aDq id' ho hd ht hu hi hz f.pos (by rw [hl]; exact hx) he hfr (f.flat_len xs) hy (f.flat_len ys) (f.one ys) h1 h2 (f.flat_append xs ys) (by rw [AO])
theorem uV{α:Type}(f:Enc0 α){T e:At}{x y:Am}{z:AG}{bytes:Nat}{ys zs:List α}(id':Nat)(ho:o.op = .call { callee:=.builtin .append,args:=#[x,y],argTypes:=#[T,T] })(hd:o.dst=some t)(ht:t<N)(hu:P.underlying T=some (.slice e))(hi:TI P e (some z) f.sz bytes)(hz:z.cells.size=f.sz)(hx:S.op x = .nils)(hfr:S.ent id' = .fresh)(hy:∀ E β a,Rel O N S E β a→Src E β (a.eval y) ys.length (Ac (ys.map f.d)))(ha:app bytes [] ys=some zs) :
 IOp P O N o S ((S.setE id' (.blk e (Ac (zs.map f.d)))).set t (.osl id' f.sz zs.length)):=by
 obtain ⟨⟨h1,h2⟩,rfl⟩:=aIB ha;exact aBl id' ho hd ht hu hi hz f.pos hx hfr hy (f.flat_len ys) (f.one ys) (by simpa using h1) (by simpa using h2)
theorem oT{α:Type}(f:Enc0 α)(xs:List α){T e:At}{len eb:Nat}{ez:AG}{ps:List (Nat×Am)}{dps:List (Nat×D)}(id:Nat)(ho:o.op = .buildSlice T len ps.toArray)(hd:o.dst=some t)(ht:t<N)(hu:P.underlying T=some (.slice e))(he:TI P e (some ez) f.sz eb)(hf:S.ent id = .fresh)(hx:PVs S ps dps)(hfill:aAm (fun i=>some (i*f.sz,f.sz)) (AK (len*f.sz) .dead) dps=some (Ac (xs.map f.d)))(hl:xs.length=len)(hb:len*f.sz≤2 ^ 24) :
 IOp P O N o S ((S.setE id (.blk e (Ac (xs.map f.d)))).set t (.osl id f.sz xs.length)):=by
 have:=aAj (O:=O) id ho hd ht hu he f.pos hf hx hfill (by rw [f.flat_len,hl]) hb;rw [hl]; exact this
theorem oS{T e:At}{x:Am}{id sz len:Nat}(ho:o.op = .call { callee:=.builtin .len,args:=#[x],argTypes:=#[T] })(hd:o.dst=some t)(ht:t<N)(hu:P.underlying T=some (.slice e))(hx:SV S x (.osl id sz len)):IOp P O N o S (S.set t (.int .i64 (len:Int))):=aEX ho hd ht hu hx rfl
theorem fS{α:Type}(f:Enc0 α){T e:At}{x y:Am}{xs:List α}{a:α}{k:IntKind}{n:Int}{z:Ag AG}{bytes m:Nat}{id:Nat}(ho:o.op = .indexAddr T x y)(hd:o.dst=some t)(ht:t<N)(hu:P.underlying T=some (.slice e))(hi:TI P e z f.sz bytes)(hx:SV S x (.osl id f.sz m))(hl:xs.length=m)(hy:SV S y (.int k n))(hn:gix xs n=some a) :
 IOp P O N o S (S.set t (.ref id (n.toNat*f.sz+0))) :=
 aC6 ho hd ht hu hi hx hy (xC hn).1 (hl ▸ (Aj.1 (xC hn).2).1) rfl

theorem Enc0.drop_at{α:Type}(f:Enc0 α){xs:List α}{i:Nat}{a:α}(h:xs[i]? = some a)(k:Nat)(hk:k≤f.sz):∃ r,(Ac (xs.map f.d)).drop (i*f.sz+k)=(f.d a).cells.drop k++r:=by
 have h1:=aEd (f.len xs) i (f.d a) (by rw [CW,h]; rfl);refine ⟨(Ac (xs.map f.d)).drop (i*f.sz+f.sz),?_⟩;have hc:=(f.fl a).1;rw [←h1,←Ev,List.drop_take];have h2:List.drop (i*f.sz+f.sz) (Ac (xs.map f.d))=List.drop (f.sz-k) (List.drop k (List.drop (i*f.sz) (Ac (xs.map f.d)))):=by
  rw [Ev,Ev]; congr 1; omega
 rw [h2,AX]
theorem iR{α:Type}(f:Enc0 α){T:At}{x:Am}{u:TypeDesc}{z:Ag AG}{size bytes:Nat}{id i k:Nat}{e:At}{xs:List α}{a:α}{d:D}{r:List D}(ho:o.op = .load T x)(hd:o.dst=some t)(ht:t<N)(hu:P.underlying T=some u)(hg:kT P T=false)(hi:TI P T z size bytes)(h1:0<size)(hx:SV S x (.ref id (i*f.sz+k)))(he:S.ent id = .blk e (Ac (xs.map f.d)))(ha:xs[i]? = some a)(hn:k+size≤f.sz)(hdd:(f.d a).cells.drop k=d::r):IOp P O N o S (S.set t d):=by
 obtain ⟨q,hq⟩:=f.drop_at ha k (by omega);refine iP ho hd ht hu hg hi h1 hx he ?_ (r:=r++q) (by rw [hq,hdd]; rfl);have:=(Aj.1 ha).1;have:(i+1)*f.sz≤xs.length*f.sz:=AU _ (by omega);rw [f.flat_len]; rw [Bw,CL] at this; omega
theorem uU{α:Type}(f:Enc0 α){T:At}{x:Am}{u:TypeDesc}{z:Ag AG}{size bytes:Nat}{id i k:Nat}{e:At}{xs:List α}{a:α}{cs:List D}(ho:o.op = .load T x)(hd:o.dst=some t)(ht:t<N)(hu:P.underlying T=some u)(hg:kT P T=true)(hi:TI P T z size bytes)(h1:0<size)(hx:SV S x (.ref id (i*f.sz+k)))(he:S.ent id = .blk e (Ac (xs.map f.d)))(ha:xs[i]? = some a)(hn:k+size≤f.sz)(hdd:((f.d a).cells.drop k).take size=cs):IOp P O N o S (S.set t (.agg cs)):=by
 obtain ⟨q,hq⟩:=f.drop_at ha k (by omega);refine nX ho hd ht hu hg hi h1 hx he ?_ (by rw [hq,AT (by rw [BV,(f.fl a).1]; omega)]; exact hdd);have:=(Aj.1 ha).1;have:(i+1)*f.sz≤xs.length*f.sz:=AU _ (by omega);rw [f.flat_len]; rw [Bw,CL] at this; omega

theorem aD1(d:D)(l:List D):Ac (d::l)=d.cells++Ac l:=rfl
theorem Enc0.flat_set{α:Type}(f:Enc0 α){k:Nat}{new:List D}(hk:k+new.length≤f.sz){a':α}:∀ {xs:List α} {i:Nat} {a:α},xs[i]? = some a→jG (f.d a).cells k new=(f.d a').cells →
 jG (Ac (xs.map f.d)) (i*f.sz+k) new=Ac ((xs.set i a').map f.d)
 | [],i,a,h,_=>by simp at h
 | x::xs,0,a,h,he=>by
   simp only [DG,Option.some.injEq] at h; subst h;have hc:=(f.fl x).1;simp only [CY,Bj,Ai,Fv,aD1];rw [←he];simp only [jG];rw [AT (by omega),Bn (by omega)]
   simp
 | x::xs,i+1,a,h,he=>by
   simp only [Da] at h;have ih:=f.flat_set hk (xs:=xs) h he;have hc:=(f.fl x).1;simp only [Ai,Er,aD1];rw [←ih];simp only [jG];have e1:(i+1)*f.sz+k=f.sz+(i*f.sz+k):=by rw [Bw,CL]; omega
   rw [e1,←hc,FO,Dv];rw [Cr (by omega),BY (by omega:(f.d x).cells.length≤_)];simp only [Nat.add_sub_cancel_left,AA,Bp]
   congr 4
   omega
theorem lG{α:Type}(f:Enc0 α){T:At}{x y:Am}{z:Ag AG}{size bytes:Nat}{id i k:Nat}{e:At}{xs zs:List α}{a a':α}{d:D}(ho:o.op = .store T x y)(hd:o.dst=none)(hi:TI P T z size bytes)(hx:SV S x (.ref id (i*f.sz+k)))(he:S.ent id = .blk e (Ac (xs.map f.d)))(hy:SV S y d)(hb:d.boxable=true)(hsz:d.cells.length=size)(h1:d.cells.all Ee=true)(ha:xs[i]? = some a)(hn:k+size≤f.sz)(hs:jG (f.d a).cells k d.cells=(f.d a').cells)(hz:xs.set i a'=zs):IOp P O N o S (S.setE id (.blk e (Ac (zs.map f.d)))):=by
 subst hz;refine dA ho hd hi hx he hy hb hsz h1 ?_ (f.flat_set (by omega) ha hs);have:=(Aj.1 ha).1;have:(i+1)*f.sz≤xs.length*f.sz:=AU _ (by omega);rw [f.flat_len]; rw [Bw,CL] at this; omega
theorem gY{T:TypeId}{x:Operand}{i:Nat}{fs:Array Field}{F:Field}{z:Ag AG}{size bytes:Nat}{id b k:Nat}(ho:o.op = .fieldAddr T x i)(hd:o.dst=some t)(ht:t<N)(hu:P.underlying T=some (.struct fs))(hf:fs[i]? = some F)(hi:TI P F.type z size bytes)(hs:0<size)(hx:SV S x (.ref id (b+k))){k':Nat}(ho':k+F.offset=k'):IOp P O N o S (S.set t (.ref id (b+k'))) :=
 fG ho hd ht hu hf hi hs hx (by omega)

theorem cF{e:TypeId}{z:Value}{size bytes:Nat}{cs cs':List D}(id:Nat)(ho:o.op = .alloc e)(hd:o.dst=some t)(ht:t<N)(hf:S.ent id = .fresh)(hz:TI P e (some z) size bytes)(hb:(DO z).boxable=true)(hcs:(DO z).cells=cs)(hk:SubL cs cs') :
 IOp P O N o S ((S.setE id (.blk e cs')).set t (.ref id 0)):=by
 refine (aF8 id ho hd ht hf hz hb hcs).to fun E β a hr=>?_
 have:=hr.subE (id:=id) (e:=e) (ds:=cs) (ds':=cs') (by simp [BA,entL,Br,Bo,aV]) hk;refine ⟨this.n,this.nd,?_,this.sl⟩;have h2:=this.h;have e2:(((S.setE id (.blk e cs)).set t (.ref id 0)).setE id (.blk e cs')).ent=((S.setE id (.blk e cs')).set t (.ref id 0)).ent:=by
  funext j; simp only [BA,entL,Br,Bo,aV]; split <;> rfl
 rw [←e2]; exact h2
theorem Rel.subT{E:Env}{β:bY}{a:Act}{d d':D}(h:Rel O N (S.set t d) E β a)(k:Sub d d'):Rel O N (S.set t d') E β a:=by
 have:=h.subS (t:=t) (d:=d) (d':=d') (by simp [Cf,Bo,aV]) k;refine ⟨this.n,this.nd,this.h,fun s=>?_⟩;have h2:=this.sl s;simp only [Cf,Bo,aV] at h2 ⊢;split
 · rename_i hh; rw [Ao hh] at h2; exact h2
 · rename_i hh; rw [Al hh,Al hh] at h2; exact h2
theorem aC1{d d':D}(h:IOp P O N o S (S.set t d))(k:Sub d d'):IOp P O N o S (S.set t d'):=h.to fun _ _ _ hr=>hr.subT k

end
end Go.IL
namespace Go.IL
def eInt(k:IntKind):Enc Int:=⟨⟨D.int k,1,by decide,fun _=>⟨rfl,rfl⟩⟩,fun _=>rfl⟩
def eByte:Enc DC:=⟨⟨aH3,1,by decide,fun _=>⟨rfl,rfl⟩⟩,fun _=>rfl⟩
def gZ:Enc Bool:=⟨⟨D.bool,1,by decide,fun _=>⟨rfl,rfl⟩⟩,fun _=>rfl⟩
def eLst{α:Type}(f:Enc α):Enc (List α):=⟨⟨fun l=>D.slice false (l.map f.d),1,by decide,fun _=>⟨rfl,rfl⟩⟩,fun _=>rfl⟩
theorem EntW.lst{α:Type}{f:Enc α}{xs:List α}{S S':St}{ρ:Nat→Nat}{id:Nat}{e:At}(h:S.ent (ρ id) = .blk e (Ac (xs.map f.d))):EntW S S' ρ id (.blk e (Ac (xs.map f.d))):=.plain h rfl (f.noRef xs)
def eRef(b:Nat):Enc0 Nat:=⟨D.ref b,1,by decide,fun _=>⟨rfl,rfl⟩⟩
theorem lQ{α:Type}{xs zs:List α}{i n:Nat}{a:α}(h:xs.set i a=zs)(k:xs.length=n):zs.length=n:=by rw [←h,Bz,k]
theorem bX{α:Type}(f:Enc α){ρ:Nat→Nat}(l:List α):BD ρ (Ac (l.map f.d))=Ac (l.map f.d):=CR _ (f.noRef l)
theorem cO{ρ:Nat→Nat}{b:Nat}:∀ (l:List Nat),BD ρ (Ac (l.map (eRef b).d))=Ac (l.map (eRef (ρ b)).d)
 | []=>rfl
 | x::l=>by
   show BD ρ (.ref b x::Ac (l.map (eRef b).d)) = .ref (ρ b) x::_
   rw [BD,cO l]; rfl
theorem aEI{α:Type}(f:Enc α){p:Nat→Bool}(l:List α):AE p (Ac (l.map f.d))=true:=Cl _ (f.noRef l)

section
variable {P:Ba} {O:bZ} {N:Nat} {S:St} {o:Oper} {t:Nat}
end
theorem sv_int{S:St}{x:Operand}{k:IntKind}{n m:Int}(h:SV S x (.int k n))(e:m=n):SV S x (.int k m):=e ▸ h
end Go.IL
open Go.IL.Ent renaming ren → Bh
open Go.RowKit
namespace Go.IL

mutual
def D.nomem:D→Bool
 | .dead | .bool _ | .int _ _ | .float _ _ | .str _ | .nils | .nilp | .nilf | .nili=>true
 | .agg cs=>D.nomemL cs
 | .tuple cs=>D.nomemL cs
 | _=>false
def D.nomemL:List D→Bool
 | []=>true
 | d::ds=>d.nomem&&D.nomemL ds
end
mutual
theorem Rd.nomem{E E':Env}{β β':bY}:∀ {v:AG} {d:D},d.nomem=true→Rd E β v d→Rd E' β' v d
 | _,.dead,_,_=>.dead _ _
 | _,.bool b,_,.bool _ _=>.bool _ b
 | _,.int k n,_,.int _ _ _=>.int _ k n
 | _,.float k n,_,.float _ _ m _ h=>.float _ k m n h
 | _,.str l,_,.str _ _=>.str _ l
 | _,.nils,_,.nils _=>.nils _
 | _,.nilp,_,.nilp _=>.nilp _
 | _,.nilf,_,.nilf _=>.nilf _
 | _,.nili,_,.nili _=>.nili _
 | _,.agg cs,h,.agg _ vs _ hv=>.agg _ vs cs (RdL.nomem (by simpa [D.nomem] using h) hv)
 | _,.tuple cs,h,.tuple _ vs _ hv=>.tuple _ vs cs (RdL.nomem (by simpa [D.nomem] using h) hv)
theorem RdL.nomem{E E':Env}{β β':bY}:∀ {vs:List AG} {ds:List D},D.nomemL ds=true→RdL E β vs ds→RdL E' β' vs ds
 | _,[],_,.nil _=>.nil _
 | _,d::ds,h,.cons hv t =>
   have h':d.nomem=true∧D.nomemL ds=true:=by simpa [D.nomemL] using h
   .cons (Rd.nomem h'.1 hv) (RdL.nomem h'.2 t)
end

mutual
inductive FD (S:St):D→D→Prop
 | refl (d):FD S d d
 | nils (f):FD S .nils (.slice f [])
 | gsl (id sz l):FD S (.gsl id sz l) (.slice false l)
 | osl {id sz n e l} (he:S.ent id = .blk e (Ac l)) (hn:l.length=n) (hz:∀ d∈l,d.cells.length=sz) (hp:AE noRef (Ac l)=true):FD S (.osl id sz n) (.slice false l)
 | ref {id off e ds cs cs'} (he:S.ent id = .blk e ds) (hd:ds.drop off=cs) (h:FDL S cs cs') (hp:AE noRef cs'=true):FD S (.ref id off) (.fptr cs')
 | osln {id sz n e ds l} (he:S.ent id = .blk e ds) (hn:l.length=n) (hz:∀ d∈l,d.cells.length=sz) (h:FDL S ds (Ac l)) (hp:AE noRef (Ac l)=true):FD S (.osl id sz n) (.slice false l)
 | dead (d):FD S d .dead
 | agg {cs cs'} (h:FDL S cs cs'):FD S (.agg cs) (.agg cs')
 | tuple {cs cs'} (h:FDL S cs cs'):FD S (.tuple cs) (.tuple cs')
 | fn {f cs cs'} (h:FDL S cs cs'):FD S (.fn f cs) (.fn f cs')
 | mv {f cs cs'} (h:FDL S cs cs'):FD S (.mv f cs) (.mv f cs')
inductive FDL (S:St):List D→List D→Prop
 | nil:FDL S [] []
 | cons {d d' ds ds'} (h:FD S d d') (t:FDL S ds ds'):FDL S (d::ds) (d'::ds')
end

theorem uC{S:St}:∀ (ds:List D),FDL S ds ds
 | []=>.nil
 | d::ds=>.cons (.refl d) (uC ds)
theorem FDT{α:Type}(f:Enc α){S:St}{id n:Nat}{e:At}{xs:List α}(he:S.ent id = .blk e (Ac (xs.map f.d)))(hn:xs.length=n):FD S (.osl id f.sz n) (.slice false (xs.map f.d)) :=
 .osl he (by rw [An,hn]) (f.len xs) (f.noRef xs)

def Env.all(E:Env)(β:bY)(S:St):Env:=⟨E.w,fun b o=>E.X b o∧¬ ∃ i,(S.ent i).held=true∧β i=some b⟩
theorem Env.all_le(E:Env)(β:bY)(S:St):E.le (E.all β S) :=
 ⟨fun _ _ _ h1 h2=>⟨h1,fun h3=>h2 h3.1⟩,fun _ c _ f h1=>⟨c,f,h1,rfl⟩⟩

section
variable {P:Ba} {O:bZ} {N:Nat} {S S':St} {o:Oper} {t:Nat} {Q:Exit→St→Prop}

theorem aEG{E:Env}{β:bY}(h:HOk O E β S.ent){id b:Nat}{e:At}{ds:List D}(he:S.ent id = .blk e ds)(hb:β id=some b) :
 ∃ vs,(E.all β S).row b 0 vs∧RdL E β vs ds:=by
 have hent:=h.ent id;rw [he] at hent;obtain ⟨vs,sp,_,hh,_,hl⟩:=sZ hent hb;refine ⟨vs,fun k v hk=>⟨?_,fun h3=>h3.2 ⟨id,by rw [he]; rfl,hb⟩⟩,hl⟩
 show E.w.cell? _=_
 have hlt:=(Aj.1 hk).1;rw [Bj,cell_of_row _ _ _ _ _ _ hh]; simpa [AJ hlt] using hk

theorem aGr{E:Env}{β:bY}(h:HOk O E β S.ent){v:AG}{id sz n:Nat}{e:At}{l:List D}(he:S.ent id = .blk e (Ac l))(hn:l.length=n)(hz:∀ d∈l,d.cells.length=sz)(hp:AE noRef (Ac l)=true)(hv:Rd E β v (.osl id sz n)):Rd (E.all β S) β v (.slice false l):=by
 cases hv with
 | osl _ _ b _ cap _ hb hc hsz _ _ _ _ _ _ =>
   obtain ⟨vs,hr,hv⟩:=aEG h he hb;exact .slice _ b 0 n cap sz false vs l hn hc (fun h=>by cases h) hz hsz hr ((AW (E.all_le β S) (bY.le.refl _) hv).bare hp)
 | nosl=>rw [AV.1 hn]; exact .nslice _ false
mutual
theorem Rd.fd{E:Env}{β:bY}(h:HOk O E β S.ent):∀ {v:AG} {d d':D},FD S d d'→Rd E β v d→Rd (E.all β S) β v d'
 | _,_,_,.refl _,hv=>CA (E.all_le β S) (bY.le.refl _) hv
 | _,_,_,.nils f,.nils _=>.nslice _ f
 | _,_,_,.gsl _ _ _,.gsl _ _ b len cap sz vs _ _ hl hc hz hsz hr hv _ _ _ _ _ _=>.slice _ b 0 len cap sz false vs _ hl hc (fun h=>by cases h) hz hsz ((E.all_le β S).row hr) (AW (E.all_le β S) (bY.le.refl _) hv)
 | _,_,_,.gsl _ _ _,.ngsl _ _ _=>.nslice _ false
 | _,_,_,.osl he hn hz hp,hv=>aGr h he hn hz hp hv
 | _,_,_,.ref (off:=off) he hd hc hp,.ref _ _ _ b hb =>
   let ⟨vs,hr,hv⟩:=aEG h he hb
   .fptr _ b off (vs.drop off) _ (by have:=hr.drop off; rwa [Bj] at this) ((RdL.fd h hc (hd ▸ hv.drop off)).bare hp)
 | _,_,_,.osln he hn hz hc hp,.osl _ _ b _ cap _ hb hcc hsz _ _ _ _ _ _ =>
   let ⟨vs,hr,hv⟩:=aEG h he hb
   .slice _ b 0 _ cap _ false vs _ hn hcc (fun h=>by cases h) hz hsz hr ((RdL.fd h hc hv).bare hp)
 | _,_,_,.osln he hn hz hc hp,.nosl _ _ _=>by rw [AV.1 hn]; exact .nslice _ false
 | _,_,_,.dead _,_=>.dead _ _
 | _,_,_,.agg hc,.agg _ vs _ hv=>.agg _ vs _ (RdL.fd h hc hv)
 | _,_,_,.tuple hc,.tuple _ vs _ hv=>.tuple _ vs _ (RdL.fd h hc hv)
 | _,_,_,.fn hc,.fn _ f vs _ hv=>.fn _ f vs _ (RdL.fd h hc hv)
 | _,_,_,.mv hc,.mv _ f us _ hv=>.mv _ f us _ (RdL.fd h hc hv)
theorem RdL.fd{E:Env}{β:bY}(h:HOk O E β S.ent):∀ {vs:List AG} {ds ds':List D},FDL S ds ds'→RdL E β vs ds→RdL (E.all β S) β vs ds'
 | _,_,_,.nil,.nil _=>.nil _
 | _,_,_,.cons h1 t,.cons hv tv=>.cons (Rd.fd h h1 hv) (RdL.fd h t tv)
end

theorem aCP{f:FuncId}{ds ds':List D}{r:D}(hd:o.dst=some t)(ht:t<N)(h:∀ E β a,Rel O N S E β a→∃ vs:List AG,(execOp a.eval o).run P E.w = .ok (.enter f vs.toArray) E.w∧RdL E β vs ds)(hk:FDL S ds ds')(hp:AE noRef ds'=true)(hf:dH P f ds' r)(hr:r.nomem=true):IOp P O N o S (S.set t r):=by
 intro E β a hrel next Q hn;obtain ⟨vs,hrun,hv⟩:=h E β a hrel;unfold Oper.wp;rw [hrun];simp only [Oper.upon,hd];refine (hf (E.all β S) vs ⟨fun b o h=>hrel.h.xlt b o h.1,hrel.h.good.tab.sub fun b o h=>h.1⟩ ((RdL.fd hrel.h hk hv).bare hp)).mono ?_;rintro e w' ⟨v,rfl,hb,hrd⟩;have hr':Rel O N S ⟨w',E.X⟩ β a:=⟨hrel.n,hrel.nd.below hb,hrel.h.below hb,fun s=>CA (qK hb) (bY.le.refl _) (hrel.sl s)⟩;exact hn ⟨w',E.X⟩ β _ (hr'.set ht (Rd.nomem hr hrd))

theorem sK{f:FuncId}{xs:List Am}{ts:Array At}{ds ds':List D}{r:D}(ho:o.op = .call { callee:=.value (.func f),args:=xs.toArray,argTypes:=ts })(hd:o.dst=some t)(ht:t<N)(hc:bB P f)(hx:SVs S xs ds)(hk:FDL S ds ds')(hp:AE noRef ds'=true)(hr:r.nomem=true)(hf:dH P f ds' r):IOp P O N o S (S.set t r) :=
 aCP hd ht (fun E β a hr=>⟨xs.map a.eval,by
  simp [execOp,ho,resolve,Deferred.ofValue,Act.eval,invoke,kB hc],hx.rd hr⟩) hk hp hf hr
theorem aF5{x:Operand}{f:FuncId}{caps:List D}{xs:List Am}{ts:Array At}{ds ds':List D}{r:D}(ho:o.op = .call { callee:=.value x,args:=xs.toArray,argTypes:=ts })(hd:o.dst=some t)(ht:t<N)(hc:bB P f)(hfx:SV S x (.fn f caps))(hx:SVs S xs ds)(hk:FDL S (ds++caps) ds')(hp:AE noRef ds'=true)(hr:r.nomem=true)(hf:dH P f ds' r):IOp P O N o S (S.set t r) :=
 aCP hd ht (fun E β a hr=>by
  obtain ⟨vs,hev,hl⟩:=aFs (hfx.rd hr);exact ⟨xs.map a.eval++vs,by simp [execOp,ho,resolve,Deferred.ofValue,hev,invoke,kB hc],(hx.rd hr).append hl⟩) hk hp hf hr

theorem nM{f:FuncId}{fn:Func}{c:Code}{ds rs:List D}(hf:P.funcs[f]? = some fn)(hb:fn.body=some c)(hN:fn.ntmps=N)(hlen:ds.length≤N)(hp:AE noRef rs=true)(h:∀ O:bZ,O.Plain→IWP P O N c ⟨(By ds.length).zip ds,[]⟩ (fun e S=>(e = .normal∨e = .ret)∧∃ rs0,aAQ P S fn.results.toList rs0∧FDL S rs0 rs)):dH P f ds (retD rs):=by
 intro E vs hX hvs
 let O:bZ:=⟨E.w,E.X,fun _=>False,β0,none,fun _=>[],fun _=>0,fun _=>[],fun _=>(#[],.skip,.skip),E.w.heap.size⟩
 have hl:=hvs.length;have hrel : Rel O N ⟨(By ds.length).zip ds,[]⟩ E β0 { tmps:=vs.toArray++BL (fn.ntmps-vs.toArray.size) undef,defers:=[] }:=by
  refine ⟨by simp; omega,uJ.nil,?_,?_⟩
  · exact aC9 hX
  · intro s;have key : ∀ (ds:List D) (vs:List AG) (k:Nat),RdL E β0 vs ds→Rd E β0 (if s<k then undef else vs.getD (s-k) undef) (look .dead s ((EC k ds.length).zip ds)):=by
     intro ds
     induction ds with
     | nil=>intro vs k _; simp [look]; exact .dead _ _
     | cons d ds ih =>
       intro vs k hv;cases hv with
       | cons h1 h2 =>
         simp only [AR,Du,DE,aV]
         by_cases hks:k=s
         · subst hks; simpa using h1
         · rw [Al hks];have:=ih _ (k+1) h2
           by_cases hlt:s<k
           · simpa [hlt,show s<k+1 by omega] using this
           · have h3:¬ s<k+1:=by omega
             rw [Al hlt]; rw [Al h3] at this;rw [show s-k=(s-(k+1))+1 by omega];simpa using this
    have:=key ds vs 0 hvs;rw [CT];simp only [Eh,if_false,DW] at this;have hg:(vs.toArray++BL (fn.ntmps-vs.toArray.size) undef).getD s undef=vs.getD s undef:=by
     by_cases hs:s<vs.length
     · simp [hs,Ci]
     · simp [Ci,hs,Ch (CN hs)];simp [CV];split <;> rfl
    show Rd E β0 (Array.getD _ s undef) _
    rw [hg];exact this
 refine qV hf hb rfl ⟨AP _,fun _ _ h=>h⟩ hrel (h O ⟨rfl,⟨AP _,fun _ _ h=>h⟩,fun _=>rfl⟩) ?_;rintro e S' E' β' a' hr' ⟨he,rs0,hres,hfd⟩;refine ⟨he,?_⟩;have hbelow:Below E.w.heap.size E.w E'.w:=⟨hr'.h.os,hr'.h.tape,hr'.h.output,hr'.h.size,fun k hk=>hr'.h.block k hk (fun h=>h)⟩;obtain ⟨vs',h1,h2⟩:=tJ (P:=P) hr' hres;have h3:=(RdL.fd hr'.h hfd h2).bare hp;have hxx:(E'.all β' S').le ⟨E'.w,E.X⟩:=by
  constructor
  · intro b o v hc hx;refine ⟨hc,fun hX'=>hx ⟨(hr'.h.xold b o (hX.xlt b o hX') (fun h=>h)).2 hX',?_⟩⟩;rintro ⟨i,hi,hb⟩;have hlt:b<E.w.heap.size:=hX.xlt b o hX';have hown:O.own b:=hr'.h.own hi hb
    rcases hown with h1 | h1
    · exact Ay hlt (EY.2 h1)
    · exact h1
  · intro b c e f hc; exact ⟨c,f,hc,rfl⟩
 have h4:=AW hxx (bY.le.refl _) h3;have hrun:(results fn a'.tmps).run P E'.w = .ok (if h:vs'.toArray.size=1 then vs'.toArray[0] else .tuple vs'.toArray) E'.w:=by
  have hF:results fn a'.tmps=(fn.results.mapM (resF a'.tmps)) >>= fun vs=>pure (if h:vs.size=1 then vs[0] else .tuple vs):=by
   unfold results
   congr 2
  rw [hF,←Dn (xs:=fn.results),DQ];simp only [Sem.run_bind,Sem.run_map,h1,Result.andThen_ok,Sem.run_pure]
 have hfin:∃ v,(results fn a'.tmps).run P E'.w = .ok v E'.w∧Rd ⟨E'.w,E.X⟩ β0 v (retD rs):=by
  refine ⟨_,hrun,?_⟩;cases h4 with
  | nil=>simpa [retD] using Rd.tuple (E:=⟨E'.w,E.X⟩) β0 [] [] (.nil _)
  | cons h5 h6 =>
    cases h6 with
    | nil=>simpa [retD] using h5
    | cons h7 h8 =>
      simp only [retD,Cm,AR];rw [dif_neg (by omega)];exact .tuple _ _ _ (.cons h5 (.cons h7 h8))
 obtain ⟨v,h5,h6⟩:=hfin;exact ⟨v,h5,v,rfl,hbelow,h6⟩
end
end Go.IL
namespace Go.IL
section
variable {P:Ba} {O:bZ} {N:Nat} {S S':St} {o:Oper} {t:Nat}
theorem jP{α:Type}(f:Enc α){ρ:Nat→Nat}{i:Nat}{e:At}{l:List α}(h:S.ent i = .blk e (Ac (l.map f.d))):S.ent i=(Ent.blk e (Ac (l.map f.d))).ren ρ:=by
 rw [h,Bh,bX]
theorem cC{α:Type}(f:Enc α){p:Nat→Bool}{e:At}{l:List α}:(Ent.blk e (Ac (l.map f.d))).refsIn p=true:=aEI f l
theorem dQ{f:FuncId}{xs:List Am}{ts:Array At}{ds ds':List D}{r r':D}{H0 H1 H1':List (Nat×Ent)}(k:Nat)(A:List Nat)(ho:o.op = .call { callee:=.value (.func f),args:=xs.toArray,argTypes:=ts })(hd:o.dst=some t)(ht:t<N)(hc:bB P f)(hx:SVs S xs ds')(hds:BD (sig k A) ds=ds')(hp:AE (fT A) ds=true)(hh:Hand S k A H0)(hf:FnH P f ds H0 r H1)(hrr:r.ren (sig k A)=r')(hrp:r.refsIn (rL k A)=true)(hH1:∀ x∈H1,rL k A x.1=true∧x.2.refsIn (rL k A)=true)(hH2:(H1.map fun x=>(sig k A x.1,x.2.ren (sig k A)))=H1'):IOp P O N o S (Bo ⟨S.sl,H1'++((H0.map fun x=>(sig k A x.1,Ent.none))++S.H)⟩ t r') :=
 aHS k A ho hd ht hc hx hds hp hh hf hrr hrp hH1 (by rw [←hH2]; rfl)
theorem aBj{x:Operand}{f:FuncId}{caps:List D}{xs:List Am}{ts:Array At}{ds ds':List D}{r r':D}{H0 H1 H1':List (Nat×Ent)}(k:Nat)(A:List Nat)(ho:o.op = .call { callee:=.value x,args:=xs.toArray,argTypes:=ts })(hd:o.dst=some t)(ht:t<N)(hc:bB P f)(hfx:SV S x (.fn f caps))(hx:SVs S xs ds')(hds:BD (sig k A) ds=ds'++caps)(hp:AE (fT A) ds=true)(hh:Hand S k A H0)(hf:FnH P f ds H0 r H1)(hrr:r.ren (sig k A)=r')(hrp:r.refsIn (rL k A)=true)(hH1:∀ x∈H1,rL k A x.1=true∧x.2.refsIn (rL k A)=true)(hH2:(H1.map fun x=>(sig k A x.1,x.2.ren (sig k A)))=H1'):IOp P O N o S (Bo ⟨S.sl,H1'++((H0.map fun x=>(sig k A x.1,Ent.none))++S.H)⟩ t r') :=
 aF6 k A ho hd ht hc hfx hx hds hp hh hf hrr hrp hH1 (by rw [←hH2]; rfl)
end
end Go.IL
namespace Go.IL
def aDJ{α β:Type}[DecidableEq α][DecidableEq β](l:List α)(a b:Ag β):Ag β:=if l=[] then (if a=b then a else none) else b
theorem aEk{α β:Type}[DecidableEq α][DecidableEq β]{l:List α}{a b:Ag β}{r:β}(h:aDJ l a b=some r)(hl:l=[]):a=some r:=by
 unfold aDJ at h; rw [Ao hl] at h; split at h
 · exact h
 · cases h
theorem aEl{α β:Type}[DecidableEq α][DecidableEq β]{l:List α}{a b:Ag β}{r:β}(h:aDJ l a b=some r):b=some r:=by
 unfold aDJ at h; split at h
 · split at h
   · rename_i e; rw [←e]; exact h
   · cases h
 · exact h
theorem mapE{α:Type}{f:α→D}{l:List α}(h:l.map f=[]):l=[]:=List.map_eq_nil_iff.1 h
end Go.IL
namespace Go.IL
section
variable {P:Ba} {O:bZ} {N:Nat} {S S':St} {o:Oper} {t:Nat}
theorem aIv{xt yt:At}{x y:Am}{a b r:Bool}(ho:o.op = .binOp .neq xt x y yt)(hd:o.dst=some t)(ht:t<N)(hu:P.underlying xt=some .bool)(hx:SV S x (.bool a))(hy:SV S y (.bool b))(hr:(!(a == b))=r):IOp P O N o S (S.set t (.bool r)):=hr ▸ iop_neb ho hd ht hu hx hy
end
end Go.IL
namespace Go.IL
open RowKit (Below)

def noK(k:Nat):Ent→Bool
 | .kept j _=>!(j == k)
 | .loop j ..=>!(j == k)
 | _=>true
def aDz(k:Nat)(ids:List Nat)(H:List (Nat×Ent)):Bool:=H.all fun x=>ids.elem x.1||noK k x.2
theorem rK{k:Nat}{ids:List Nat}{H:List (Nat×Ent)}(h:aDz k ids H=true){id:Nat}(hid:id ∉ ids):noK k (entL H id)=true:=by
 unfold entL
 rcases qJ (z:=defE id) (t:=id) (l:=H) with h1 | h1
 · rw [h1]; unfold defE; split <;> rfl
 · have h2:=Bb.1 h _ h1;simp only [BB,List.elem_eq_mem,decide_eq_true_eq] at h2;exact h2.resolve_left hid

def bZ.same(O O':bZ):Prop:=O'.w=O.w∧O'.X=O.X∧O'.foot=O.foot∧O'.given=O.given∧O'.mb=O.mb
def sM(O O':bZ):Ent→Prop
 | .kept j _=>O'.kv j=O.kv j∧O'.dv j=O.dv j
 | .loop j ..=>O'.lv j=O.lv j∧O'.lc j=O.lc j
 | _=>True
theorem qX.swap{O O':bZ}{E:Env}{β:bY}{id:Nat}{e:Ent}(h:qX O E β id e)(hs:O.same O')(hc:sM O O' e):qX O' E β id e:=by
 obtain ⟨s1,s2,s3,s4,_⟩:=hs;have hown:∀ b,O.own b→O'.own b:=fun b hb=>by unfold bZ.own at hb ⊢; rw [s1,s3]; exact hb
 cases e with
 | none=>trivial
 | fresh=>exact h
 | blk e ds =>
   rcases h with h | ⟨b,vs,sp,h1,h2,h3⟩
   · exact .inl h
   · exact .inr ⟨b,vs,sp,h1,hown b h2,h3⟩
 | tail e sz n =>
   rcases h with h | ⟨b,c,h1,h2,h3⟩
   · exact .inl h
   · exact .inr ⟨b,c,h1,hown b h2,h3⟩
 | loop lk ds st pend =>
   obtain ⟨b,r,h1,h2,h3,h4,h5,h6,h7,h8,h9,h10,h11⟩:=h;obtain ⟨c1,c2⟩:O'.lv lk=O.lv lk∧O'.lc lk=O.lc lk:=hc;exact ⟨b,r,h1,hown b h2,h3,h4,by rw [c2]; exact h5,by rw [c2]; exact h6,by rw [c2]; exact h7,h8,h9,c1.trans h10,h11⟩
 | mp ks ds =>
   obtain ⟨b,es,cl,h1,h2,h3⟩:=h;exact ⟨b,es,cl,h1,hown b h2,h3⟩
 | kept k ds =>
   obtain ⟨c1,c2⟩:O'.kv k=O.kv k∧O'.dv k=O.dv k:=hc;exact ⟨c1 ▸ h.1,fun b hb=>h.2 b (c2 ▸ hb)⟩
theorem HOk.swap{O O':bZ}{E:Env}{β:bY}{H H':Nat→Ent}(h:HOk O E β H)(hs:O.same O')(hc:∀ id,(H' id=H id∧sM O O' (H id))∨H' id = .none):HOk O' E β H' where
 os:=by rw [hs.1]; exact h.os
 tab:=by rw [hs.1,hs.2.1]; exact h.tab
 tape:=by rw [hs.1]; exact h.tape
 output:=by rw [hs.1]; exact h.output
 size:=by rw [hs.1]; exact h.size
 mbs:=by rw [hs.1,hs.2.2.2.2]; exact h.mbs
 block k hk hf:=by rw [hs.1] at hk ⊢; rw [hs.2.2.1] at hf; exact h.block k hk hf
 xlt:=h.xlt
 xold b o hb hf:=by rw [hs.1] at hb; rw [hs.2.2.1] at hf; rw [hs.2.1]; exact h.xold b o hb hf
 ent id:=by
  rcases hc id with ⟨h1,h2⟩ | h1
  · rw [h1]; exact (h.ent id).swap hs h2
  · rw [h1]; trivial
 inj i j b hi hj:=by
  have key:∀ i,(H' i).held=true→(H i).held=true:=fun i hi=>by
   rcases hc i with ⟨h1,_⟩ | h1
   · rwa [h1] at hi
   · rw [h1] at hi; cases hi
  exact h.inj i j b (key i hi) (key j hj)
 le:=by rw [hs.1,hs.2.1]; exact h.le
 gid:=by rw [hs.2.2.2.1]; exact h.gid
 given:=by rw [hs.2.2.2.1]; exact h.given
theorem HOk.addK{O:bZ}{E:Env}{β:bY}{H:List (Nat×Ent)}(h:HOk O E β (entL H)){id k:Nat}{ds:List D}(hr:RdL E β (O.kv k) ds)(hd:∀ b∈O.dv k,E.w.heap[b]? = some (.deferred (some []))):HOk O E β (entL ((id,.kept k ds)::H)) :=
 { h with
   ent:=fun j=>by
    show qX O E β j (look _ _ _)
    rw [aV]
    by_cases hj:id=j
    · rw [Ao hj]; exact ⟨hr,hd⟩
    · rw [Al hj]; exact h.ent j
   inj:=fun i j b hi hj=>by
    have key:∀ i,(entL ((id,.kept k ds)::H) i).held=true→(entL H i).held=true:=fun i hi=>by
     have hi':(look (defE i) i ((id,.kept k ds)::H)).held=true:=hi;rw [aV] at hi'
     by_cases h:id=i
     · rw [Ao h] at hi'; cases hi'
     · rw [Al h] at hi'; exact hi'
    exact h.inj i j b (key i hi) (key j hj) }

theorem yJ{E:Env}{β:bY}{vs:List AG}{ds:List D}(hv:RdL E β vs ds)(n:Nat)(s:Nat):Rd E β ((vs.toArray++BL n undef).getD s undef) (look .dead s ((By ds.length).zip ds)):=by
 have key : ∀ (ds:List D) (vs:List AG) (k:Nat),RdL E β vs ds→Rd E β (if s<k then undef else vs.getD (s-k) undef) (look .dead s ((EC k ds.length).zip ds)):=by
  intro ds
  induction ds with
  | nil=>intro vs k _; simp [look]; exact .dead _ _
  | cons d ds ih =>
    intro vs k hv;cases hv with
    | cons h1 h2 =>
      simp only [AR,Du,DE,aV]
      by_cases hks:k=s
      · subst hks; simpa using h1
      · rw [Al hks];have:=ih _ (k+1) h2
        by_cases hlt:s<k
        · simpa [hlt,show s<k+1 by omega] using this
        · have h3:¬ s<k+1:=by omega
          rw [Al hlt]; rw [Al h3] at this;rw [show s-k=(s-(k+1))+1 by omega];simpa using this
 have:=key ds vs 0 hv;rw [CT];simp only [Eh,if_false,DW] at this;have hg:(vs.toArray++BL n undef).getD s undef=vs.getD s undef:=by
  by_cases hs:s<vs.length
  · simp [hs,Ci]
  · simp [Ci,hs,Ch (CN hs)];simp [CV];split <;> rfl
 rw [hg];exact this
theorem uN{E:Env}{β:bY}{a:Array AG}{ds:List D}(hv:RdL E β a.toList ds)(s:Nat):Rd E β (a.getD s undef) (look .dead s ((By ds.length).zip ds)):=by
 have:=yJ hv 0 s;simpa using this
def allD(N:Nat)(S:St):List D:=(By N).map S.get
theorem aAo{O:bZ}{N:Nat}{S:St}{E:Env}{β:bY}{a:Act}(hr:Rel O N S E β a):RdL E β a.tmps.toList (allD N S):=by
 have key:∀ (l:List AG) (k:Nat),(∀ s,s<l.length→Rd E β (l.getD s undef) (S.get (k+s)))→RdL E β l ((EC k l.length).map S.get):=by
  intro l
  induction l with
  | nil=>intro k _; exact .nil _
  | cons v l ih =>
    intro k h;rw [AR,Du,Ai];refine .cons (by simpa using h 0 (by simp)) (ih (k+1) fun s hs=>?_);have:=h (s+1) (by simpa using hs);rw [show k+1+s=k+(s+1) by omega];simpa using this
 unfold allD;have hn:a.tmps.toList.length=N:=by simpa using hr.n
 have:=key a.tmps.toList 0 fun s hs=>by
  have h1:=hr.sl s;rw [Bj];simpa using h1
 rwa [hn,←CT] at this
theorem HOk.turn{O:bZ}{E:Env}{β:bY}{H:List (Nat×Ent)}(h:HOk O E β (entL H)){id k:Nat}{ds:List D}{st:LoopState}{pend:Ag Code}(he:entL H id = .loop k ds st pend) :
 ∃ r,E.w.heap[O.lv k]? = some (.loop r)∧β id=some (O.lv k)∧r.params=(O.lc k).1∧r.assign=(O.lc k).2.1∧r.body=(O.lc k).2.2∧r.state=st∧r.pending=pend∧∀ st' pend',(E).le ⟨E.w.putObj (O.lv k) (.loop { r with state:=st',pending:=pend' }),E.X⟩ ∧
   HOk O ⟨E.w.putObj (O.lv k) (.loop { r with state:=st',pending:=pend' }),E.X⟩ β (entL ((id,.loop k ds st' pend')::H)):=by
 have hh:=h.ent id;rw [he] at hh;obtain ⟨b,r,h1,h2,h3,h4,h5,h6,h7,h8,h9,h10,h11⟩:=hh;subst h10;refine ⟨r,h3,h1,h5,h6,h7,h8,h9,fun st' pend'=>?_⟩
 let E':Env:=⟨E.w.putObj (O.lv k) (.loop { r with state:=st',pending:=pend' }),E.X⟩
 have hs:Step O E E' (O.lv k):=⟨rfl,rfl,rfl,by simp [E',World.putObj],by simpa [E',World.putObj] using dR h3,h2,fun j _ hj=>World.putObj_heap_other hj,fun _ _ _=>Dy,fun _ hx=>by rw [h3] at hx; cases hx⟩;have hle:E.le E':=hs.le (fun o v _ hx=>Ay (h4 o) hx) (fun c e f hx=>by rw [h3] at hx; cases hx);refine ⟨hle,Dd h hs hle (bY.le.refl _) (id:=id) (fun j hj=>?_) (fun j hj hh hb=>?_) h1 ?_ (fun _ _=>trivial)⟩
 · left; exact ⟨by show look _ _ _=_; rw [aV,Al (Ne.symm hj)]; rfl,rfl⟩
 · have hh':(look (defE j) j ((id,.loop k ds st' pend')::H)).held=true:=hh;rw [aV,Al (Ne.symm hj)] at hh';exact hj (h.inj j id _ hh' (by rw [he]; rfl) hb h1)
 · show aGQ O E' β _ (look _ _ _)
   rw [aV,Ao rfl];exact ⟨_,World.putObj_heap_same (dR h3),h4,h5,h6,h7,rfl,rfl,rfl,AW hle (bY.le.refl _) h11⟩
end Go.IL
namespace Go.IL
open RowKit (Below)
section
variable {P:Ba} {O:bZ} {N:Nat} {S S':St} {Q:Exit→St→Prop}

@[reducible] def aJZ (P:Ba) (O:bZ) (N k:Nat) (Q:Exit→St→Prop) (e:Exit) (S':St):Prop :=
 (e = .normal∨e = .ret)∧∃ iL iK dl ds' st pend,S'.ent iL = .loop k dl st pend∧st ≠ .busy∧S'.ent iK = .kept k ds'∧aDz k [iL,iK] S'.H=true ∧
   ∃ S2 ρ,Weak ⟨(By N).zip ds',(iK,.none)::(iL,.none)::S'.H⟩ S2 ρ∧match pend with
   | none=>Q .normal S2
   | some c=>IWP P O N c S2 Q

theorem iwp_range{g:Operand}{ps:Array Tmp}{acx bd:Code}{f:Ce}{fn:Func}{c:Code}{caps:List D}(k idL idK:Nat)(hg:SV S g (.fn f caps))(hc:bB P f)(hf:P.funcs[f]? = some fn)(hb:fn.body=some c)(hres:fn.results = #[]){N':Nat}(hn:fn.ntmps=N')(hN':caps.length+1≤N')(hfr:aDz k [] S.H=true)(hL:S.ent idL = .fresh)(hO:O.Plain)(h:∀ O',O'.round=none→O'.lc k=(ps,acx,bd)→IWP P O' N' c ⟨(By (.yld idL::caps).length).zip (.yld idL::caps),(idK,.kept k (allD N S))::(idL,.loop k (allD N S) .ready none)::S.H⟩ (aJZ P O N k Q)):IWP P O N (.rangeFunc g ps acx bd) S Q:=by
 subst hn;obtain ⟨Ow,OX,Of,Og,Or,Okv,Olv,Odv,Olc,Omb⟩:=O;obtain ⟨hro,hfoot,hdv⟩:=hO;simp only at hro hfoot hdv;subst hro;intro E β a hr;obtain ⟨bs,hbs,hnd,hall⟩:=hr.nd;obtain ⟨vs,hev,hcaps⟩:=aFs (hg.rd hr);refine wpIn_rangeFunc ?_;intro fn0 _
 let r0:Loop:={ state:=.ready,pending:=none,fn:=fn0,tmps:=a.tmps,params:=ps,assign:=acx,body:=bd,defers:=E.w.heap.size }
 let W0:=E.w.alloc (.deferred (some []))
 have hsz0:W0.heap.size=E.w.heap.size+1:=by simp [W0]
 let W1:=W0.alloc (.loop r0)
 have hb0:Below E.w.heap.size E.w W0:=(Below.refl _ _).alloc (AP _) _
 refine ⟨E.w.heap.size+1,[{ target:=.collected E.w.heap.size,args:=#[] }],W1,{ target:=.fn (.func f) vs.toArray,args:=#[.func (.yield (E.w.heap.size+1)) #[] #[]] },W1,f,
  #[.func (.yield (E.w.heap.size+1)) #[] #[]]++vs.toArray,W1,run_enterLoop_outer _ _ _ _ _,?_,fun _ _=>trivial,?_,fun h=>by simp [fen,Fence.wide] at h,?_⟩
 · simp only [resolve,hev];simp [go_sem]
 · simp [invoke,kB hc]
 let O':bZ:=⟨Ow,OX,Of,Og,none,fun j=>if j=k then a.tmps.toList else Okv j,fun j=>if j=k then E.w.heap.size+1 else Olv j,fun j=>if j=k then E.w.heap.size::bs else Odv j,fun j=>if j=k then (ps,acx,bd) else Olc j,Omb⟩
 have hsame:(⟨Ow,OX,Of,Og,none,Okv,Olv,Odv,Olc,Omb⟩:bZ).same O':=⟨rfl,rfl,rfl,rfl,rfl⟩;have hcomp : ∀ e,noK k e=true→sM ⟨Ow,OX,Of,Og,none,Okv,Olv,Odv,Olc,Omb⟩ O' e∧sM O' ⟨Ow,OX,Of,Og,none,Okv,Olv,Odv,Olc,Omb⟩ e:=fun e he=>by
  cases e with
  | kept j ds => have:j≠k:=by simpa [noK] using he
                 simp [sM,O',this]
  | loop j => have:j≠k:=by simpa [noK] using he
              simp [sM,O',this]
  | _=>exact ⟨trivial,trivial⟩
 have h0:HOk O' ⟨W0,E.X⟩ β (entL S.H):=(hr.h.below hb0).swap hsame fun id=>.inl ⟨rfl,(hcomp _ (rK hfr (by simp))).1⟩
 let E1:Env:=⟨W1,fun b o=>b=E.w.heap.size+1∨E.X b o⟩
 let β1:bY:=fun j=>if j=idL then some (E.w.heap.size+1) else β j
 have hfrL:β idL=none:=by have:=hr.h.ent idL; rw [hL] at this; exact this
 have hβ:β.le β1:=fun j b hj=>by
  by_cases hji:j=idL
  · subst hji; rw [hfrL] at hj; cases hj
  · simp [β1,hji,hj]
 have hs:Step O' ⟨W0,E.X⟩ E1 (E.w.heap.size+1) :=
  ⟨rfl,rfl,rfl,by simp [E1,W1],by simp [E1,W1,hsz0],.inl (by have:=h0.size; simp only [hsz0] at this; exact this),fun j hj _=>heap_alloc_old _ _ hj,fun j o hj=>by simp [E1,hj],fun _ hx=>by have h9:E.w.heap.size+1<W0.heap.size:=dR hx; omega⟩
 have hle:(⟨W0,E.X⟩:Env).le E1:=hs.le (fun o v hx _=>by have:=World.block_lt_of_cell? _ _ hx; simp [hsz0] at this) (fun c e f hx=>by have:=dR hx; simp [hsz0] at this);have hle0:E.le E1:=(qK hb0).trans hle;have hnew:W1.heap[E.w.heap.size+1]? = some (.loop r0):=by have:=World.alloc_heap_new W0 (.loop r0); rwa [hsz0] at this
 have hdef:W1.heap[E.w.heap.size]? = some (.deferred (some [])):=(heap_alloc_old _ _ (by omega)).trans (World.alloc_heap_new E.w _);have hrd:RdL E1 β1 a.tmps.toList (allD N S):=AW hle0 hβ (aAo hr);have h1:HOk O' E1 β1 (entL ((idL,.loop k (allD N S) .ready none)::S.H)):=by
  refine Dd h0 hs hle hβ (id:=idL) (fun j hj=>?_) (fun j hj hh hb=>?_) (by simp [β1]) ?_ (fun _ _=>trivial)
  · left; exact ⟨by show look _ _ _=_; rw [aV,Al (Ne.symm hj)]; rfl,by simp [β1,hj]⟩
  · have hh':(look (defE j) j ((idL,.loop k (allD N S) .ready none)::S.H)).held=true:=hh;rw [aV,Al (Ne.symm hj)] at hh';have:=h0.lt (j:=j) hh' hb;simp [hsz0] at this
  · show aGQ O' E1 β1 _ (look _ _ _)
    rw [aV,Ao rfl];exact ⟨r0,hnew,fun o=>.inl rfl,by simp [O',r0],by simp [O',r0],by simp [O',r0],rfl,rfl,by simp [O'],hrd⟩
 have h2:HOk O' E1 β1 (entL ((idK,.kept k (allD N S))::(idL,.loop k (allD N S) .ready none)::S.H)):=by
  refine h1.addK (by simpa [O'] using hrd) fun b hb=>?_
  have hb':b∈E.w.heap.size::bs:=by simpa [O'] using hb
  rcases Au.1 hb' with rfl | hb'
  · exact hdef
  · have hx:=(hall b hb').2;have hlt:=dR hx;exact ((heap_alloc_old W0 _ (by omega)).trans (heap_alloc_old E.w _ hlt)).trans hx
 have hargs:RdL E1 β1 (Value.func (.yield (E.w.heap.size+1)) #[] #[]::vs) (.yld idL::caps):=.cons (.yld _ _ _ (by simp [β1])) (AW hle0 hβ hcaps);have hlen:=hargs.length
 have hrel:Rel O' fn.ntmps ⟨(By (D.yld idL::caps).length).zip (.yld idL::caps),(idK,.kept k (allD N S))::(idL,.loop k (allD N S) .ready none)::S.H⟩ E1 β1
  { tmps:=(#[Value.func (.yield (E.w.heap.size+1)) #[] #[]]++vs.toArray)++BL (fn.ntmps-(#[Value.func (.yield (E.w.heap.size+1)) #[] #[]]++vs.toArray).size) undef,defers:=[] }:=by
  refine ⟨by simp at hlen ⊢; omega,uJ.nil,h2,fun s=>?_⟩;have:=yJ hargs (fn.ntmps-(#[Value.func (.yield (E.w.heap.size+1)) #[] #[]]++vs.toArray).size) s
  show Rd E1 β1 _ (look _ _ _)
  simpa using this
 refine callsIn_wide (n:=0) |>.2 (qV (E:=E1) (O:=O') hf hb rfl hfoot hrel (h O' rfl (by simp [O'])) ?_)
 rintro e S2 E2 β2 a2 hr2 ⟨he,iL,iK,dl,ds',st,pend,hentL,hst,hentK,hfree,S3,ρ3,hw3,hQ⟩;refine ⟨he,.tuple #[],by simp [results,hres],?_⟩;obtain ⟨r,g1,g2,g3,g4,g5,g6,g7,g8⟩:=hr2.h.turn (H:=S2.H) hentL;obtain ⟨g9,g10⟩:=g8 .exhausted pend;have hlk:O'.lv k=E.w.heap.size+1:=by simp [O']
 rw [hlk] at g1 g9 g10;have hkept:=hr2.h.ent iK;rw [hentK] at hkept;obtain ⟨k1,k2⟩:=hkept;have hkv:O'.kv k=a.tmps.toList:=by simp [O']
 have hdk:O'.dv k=E.w.heap.size::bs:=by simp [O']
 rw [hkv] at k1; rw [hdk] at k2;have hds':ds'.length=N:=by rw [←k1.length]; simpa using hr.n
 let E3:Env:=⟨E2.w.putObj (E.w.heap.size+1) (.loop { r with state:=.exhausted,pending:=pend }),E2.X⟩
 have hrel3:Rel ⟨Ow,OX,Of,Og,none,Okv,Olv,Odv,Olc,Omb⟩ N ⟨(By N).zip ds',(iK,.none)::(iL,.none)::S2.H⟩ E3 β2 { a with defers:={ target:=.collected E.w.heap.size,args:=#[] }::a.defers }:=by
  refine ⟨hr.n,⟨E.w.heap.size::bs,by rw [Ai,←hbs],?_,?_⟩,?_,fun s=>?_⟩
  · rw [Bl];exact ⟨fun hm=>BU _ (dR (hall _ hm).2),hnd⟩
  · intro b hb;refine ⟨⟨?_,fun j=>by simp [hdv]⟩,(World.putObj_heap_other ?_).trans (k2 b hb)⟩
    · rcases Au.1 hb with rfl | hb
      · exact BG hr.h.mbs hr.h.size
      · exact (hall b hb).1.1
    · rintro rfl; have:=k2 _ hb; rw [g1] at this; cases this
  · refine HOk.swap (O:=O') (H:=entL ((iL,.loop k dl .exhausted pend)::S2.H)) g10 ⟨rfl,rfl,rfl,rfl,rfl⟩ fun id=>?_
    show (look _ _ _=look _ _ _∧_)∨_
    simp only [aV]
    by_cases h5:iK=id
    · right; show look _ _ _=_; rw [aV,Ao h5]
    · by_cases h6:iL=id
      · right; show look _ _ _=_; rw [aV,Al h5,aV,Ao h6]
      · left;rw [Al h5,Al h6];refine ⟨by first | rfl | rw [Al h6],(hcomp _ ?_).2⟩
        show noK k (look _ _ _)=true
        rw [aV,Al h6];exact rK hfree (by simp; exact ⟨Ne.symm h6,Ne.symm h5⟩)
  · have:=uN (AW g9 (bY.le.refl _) k1) s;rw [hds'] at this;exact this
 refine ⟨pend,E3.w,?_,?_⟩
 · have:=run_endLoop (P:=P) (l:=E.w.heap.size+1) g1 (by rw [g6]; exact hst);rw [g7] at this;exact this
 · cases pend with
   | none=>obtain ⟨β4,hr4⟩:=hrel3.weak hw3; exact ⟨_,E3,β4,rfl,hr4,hQ⟩
   | some c=>obtain ⟨β4,hr4⟩:=hrel3.weak hw3; exact hQ E3 β4 _ hr4

def jumpOf:Exit→Option (Ag Code)
 | .normal=>some none
 | .ret=>some (some .ret)
 | .exit i=>some (some (.exit i))
 | _=>none
@[reducible] def yieldQ (P:Ba) (O:bZ) (N t k k2:Nat) (ops:Array Oper) (l:List Oper) (Q:Exit→St→Prop) (e:Exit) (S':St):Prop :=
 ∃ iL iK dl dk j,jumpOf e=some j∧S'.ent iL = .loop k dl .busy none∧S'.ent iK = .kept k2 dk∧aDz k2 [iK] S'.H=true∧iL≠iK ∧
   ∃ S2 ρ,Weak ⟨(t,.bool j.isNone)::(By N).zip dk,(iL,.loop k dl (if j.isNone then .ready else .done) j)::(iK,.none)::S'.H⟩ S2 ρ∧ILS P O N ops l S2 Q
def aIV(S:St)(l:List (Nat×D)):St:=l.foldl (fun S x=>S.set x.1 x.2) S
theorem aEw{E:Env}{β:bY}:∀ (ps:List Nat) (vs:List AG) (ds:List D) (S:St) (a:Array AG),(∀ p∈ps,p<N)→RdL E β vs ds→Rel O N S E β { tmps:=a,defers:=[] } →
 Rel O N (aIV S (ps.zip ds)) E β { tmps:=(ps.zip vs).foldl (fun t x=>t.setIfInBounds x.1 x.2) a,defers:=[] }
 | [],_,_,S,a,_,_,h=>by simpa [aIV] using h
 | _::_,_,_,S,a,_,.nil _,h=>by simpa [aIV] using h
 | p::ps,_,_,S,a,hp,.cons hv hvs,h=>aEw ps _ _ _ _ (fun q hq=>hp q (by simp [hq])) hvs (h.set (hp p (by simp)) hv)
theorem sL{ops:Array Oper}{o:Oper}{l:List Oper}{x:Am}{xs:List Am}{ts:Array At}{t k:Nat}{ps:Array Tmp}{acx bd:Code}{ds da:List D}{N0:Nat}(k2 idL idK:Nat)(hg:rC o=true)(ho:o.op = .call { callee:=.value x,args:=xs.toArray,argTypes:=ts })(hd:o.dst=some t)(ht:t<N)(hx:S.op x = .yld idL)(hxs:SVs S xs da)(he:S.ent idL = .loop k ds .ready none)(hn:ds.length=N0)(hps:ps.toList.length=da.length)(hpl:(ps.toList.all fun p=>DS p N0)=true)(hfr:aDz k2 [] S.H=true)(hK:S.ent idK = .fresh)(hro:O.round=none)(hlc:O.lc k=(ps,acx,bd))(S0:St)(ρ0:Nat→Nat)(hw0:Weak (aIV ⟨(By ds.length).zip ds,(idK,.kept k2 (allD N S))::S.H⟩ (ps.toList.zip da)) S0 ρ0)(h:∀ O',IWP P O' N0 acx S0 (fun e S1=>e = .normal∧∃ iL dl,S1.ent iL = .loop k dl .ready none ∧
   ∃ S2 ρ,Weak ⟨S1.sl,(iL,.loop k dl .busy none)::S1.H⟩ S2 ρ∧IWP P O' N0 bd S2 (yieldQ P O N t k k2 ops l Q))):ILS P O N ops (o::l) S Q:=by
 subst hn;replace hpl:∀ p∈ps.toList,p<ds.length:=fun p hp=>by simpa using Bb.1 hpl p hp
 obtain ⟨Ow,OX,Of,Og,Or,Okv,Olv,Odv,Olc,Omb⟩:=O;simp only at hro;subst hro;intro E β a hr;obtain ⟨bs,hbs,hnd,hall⟩:=hr.nd;have hkk:k2≠k:=by
  have:=rK hfr (id:=idL) (by simp);have he':entL S.H idL=_:=he;rw [he'] at this;intro e; subst e; simp [noK] at this
 have hidne:idK≠idL:=by rintro rfl; rw [hK] at he; cases he
 refine wpListIn_plain (sH hg).1 fun K hK'=>⟨fun _ _=>trivial,?_⟩
 rw [Oper.semAt_eq _ _ _ (aCJ (sH hg).2)];have hent:=hr.h.ent idL;rw [he] at hent;obtain ⟨b,r,e1,e2,e3,e4,e5,e6,e7,e8,e9,e10,e11⟩:=hent;have hev:a.eval x = .func (.yield b) #[] #[]:=by
  have:=hr.op x;rw [hx] at this;generalize a.eval x=v at this;cases this with
  | yld _ _ l hl=>rw [e1] at hl; cases hl; rfl
 have hargs:=hxs.rd hr;have hal:=hargs.length;have hrun:(execOp a.eval o).run P E.w = .ok (.round b r.fn ((r.params.zip (xs.map a.eval).toArray).foldl (fun tmps (t,a)=>tmps.setIfInBounds t a) r.tmps) r.assign r.body) E.w:=by
  have hy:=run_yield (P:=P) (args:=(xs.map a.eval).toArray) e3 (by rw [e5,hlc]; simp at hal ⊢; simp at hps; omega);simp [execOp,ho,resolve,Deferred.ofValue,hev,invoke];simpa using hy
 rw [hrun,Oper.uponIn_round];refine ⟨fun h=>by simp [fen,Fence.wide] at h,roundIn_of_wpIn trivial ?_⟩;have hlc':Olc k=(ps,acx,bd):=hlc;rw [e6,e7];simp only [hlc'];have hlen:r.tmps.size=ds.length:=by have:=e11.length; simpa using this
 let O':bZ:=⟨Ow,OX,Of,Og,some b,fun j=>if j=k2 then a.tmps.toList else Okv j,Olv,fun j=>if j=k2 then bs else Odv j,Olc,Omb⟩
 have hcomp:∀ e,noK k2 e=true→sM ⟨Ow,OX,Of,Og,none,Okv,Olv,Odv,Olc,Omb⟩ O' e∧sM O' ⟨Ow,OX,Of,Og,none,Okv,Olv,Odv,Olc,Omb⟩ e:=fun e he=>by
  cases e with
  | kept j ds => have:j≠k2:=by simpa [noK] using he
                 simp [sM,O',this]
  | _=>exact ⟨by first | trivial | rfl,by first | trivial | rfl⟩
 have h0:HOk O' E β (entL S.H):=hr.h.swap ⟨rfl,rfl,rfl,rfl,rfl⟩ fun id=>.inl ⟨rfl,(hcomp _ (rK hfr (by simp))).1⟩
 have h1:HOk O' E β (entL ((idK,.kept k2 (allD N S))::S.H)):=h0.addK (by simpa [O'] using aAo hr) fun c hc=>(hall c (by simpa [O'] using hc)).2
 have hrel0:Rel O' ds.length ⟨(By ds.length).zip ds,(idK,.kept k2 (allD N S))::S.H⟩ E β { tmps:=r.tmps,defers:=[] } :=
  ⟨hlen,uJ.nil,h1,fun s=>uN e11 s⟩
 have hrel1:=aEw ps.toList (xs.map a.eval) da _ r.tmps hpl hargs hrel0;have htm:(r.params.zip (xs.map a.eval).toArray).foldl (fun tmps (t,a)=>tmps.setIfInBounds t a) r.tmps=(ps.toList.zip (xs.map a.eval)).foldl (fun t x=>t.setIfInBounds x.1 x.2) r.tmps:=by
  rw [e5,hlc,←Fp]; simp
 rw [htm];obtain ⟨β6,hr6⟩:=hrel1.weak hw0;refine wpIn_mono (h O' E β6 _ hr6) ?_;rintro e a1 w1 ⟨S1,E1,β1,rfl,hr1,rfl,iL,dl,hentL,S7,ρ7,hw7,hbody⟩;obtain ⟨r1,g1,g2,g3,g4,g5,g6,g7,g8⟩:=hr1.h.turn (H:=S1.H) hentL;obtain ⟨g9,g10⟩:=g8 .busy none;have hlk:O'.lv k=b:=e10;rw [hlk] at g1 g9 g10
 let E2:Env:=⟨E1.w.putObj b (.loop { r1 with state:=.busy,pending:=none }),E1.X⟩
 have hw2:(Instr.beginRound b).run P E1.w = .ok () E2.w:=by
  have:=run_beginRound (P:=P) g1 g6;rw [this]
  show _=Result.ok () (E1.w.putObj b (.loop { r1 with state:=.busy,pending:=none }))
  congr 3
  rw [←g7]
 refine ⟨E2.w,hw2,?_⟩
 have hrel2:Rel O' ds.length ⟨S1.sl,(iL,.loop k dl .busy none)::S1.H⟩ E2 β1 a1 :=
  ⟨hr1.n,hr1.nd.mono (fun c hc=>(World.putObj_heap_other (by rintro rfl; rw [g1] at hc; cases hc)).trans hc),g10,fun s=>CA g9 (bY.le.refl _) (hr1.sl s)⟩
 obtain ⟨β7,hr7⟩:=hrel2.weak hw7;refine wpIn_mono (hbody E2 β7 a1 hr7) ?_;rintro e a3 w3 ⟨S3,E3,β3,rfl,hr3,iL3,iK3,dl3,dk3,j,hj,hL3,hK3,hf3,hne3,S5,ρ5,hw5,hils⟩;obtain ⟨r3,m1,m2,m3,m4,m5,m6,m7,m8⟩:=hr3.h.turn (H:=S3.H) hL3;obtain ⟨m9,m10⟩:=m8 (if j.isNone then .ready else .done) j;rw [hlk] at m1 m9 m10;have hkept:=hr3.h.ent iK3;rw [hK3] at hkept;obtain ⟨k1,k2'⟩:=hkept;have hkv:O'.kv k2=a.tmps.toList:=by simp [O']
 have hdk:O'.dv k2=bs:=by simp [O']
 rw [hkv] at k1; rw [hdk] at k2';have hdk3:dk3.length=N:=by rw [←k1.length]; simpa using hr.n
 let E4:Env:=⟨E3.w.putObj b (.loop { r3 with state:=if j.isNone then .ready else .done,pending:=j }),E3.X⟩
 have hend:(Instr.endRound b j).run P E3.w = .ok (.bool j.isNone) E4.w:=run_endRound (P:=P) j m1;have hrel4:Rel ⟨Ow,OX,Of,Og,none,Okv,Olv,Odv,Olc,Omb⟩ N ⟨(t,.bool j.isNone)::(By N).zip dk3,(iL3,.loop k dl3 (if j.isNone then .ready else .done) j)::(iK3,.none)::S3.H⟩ E4 β3 (a.put (some t) (.bool j.isNone)):=by
  refine Rel.set (S:=⟨(By N).zip dk3,(iL3,.loop k dl3 (if j.isNone then .ready else .done) j)::(iK3,.none)::S3.H⟩) ⟨hr.n,⟨bs,hbs,hnd,fun c hc=>⟨(hall c hc).1,(World.putObj_heap_other (by rintro rfl; have:=k2' _ hc; rw [m1] at this; cases this)).trans (k2' c hc)⟩⟩,?_,fun s=>?_⟩ ht (.bool _ _)
  · refine HOk.swap (O:=O') (H:=entL ((iL3,.loop k dl3 (if j.isNone then .ready else .done) j)::S3.H)) m10 ⟨rfl,rfl,rfl,rfl,rfl⟩ fun id=>?_
    by_cases h6:iL3=id
    · left;subst h6;refine ⟨by show look _ _ _=look _ _ _; rw [aV,Ao rfl,aV,Ao rfl],(hcomp _ ?_).2⟩
      show noK k2 (look _ _ _)=true
      rw [aV,Ao rfl];simp [noK,Ne.symm hkk]
    · by_cases h5:iK3=id
      · right; show look _ _ _=_; rw [aV,Al h6,aV,Ao h5]
      · left;refine ⟨by show look _ _ _=look _ _ _; rw [aV,Al h6,aV,Al h5,aV,Al h6],(hcomp _ ?_).2⟩
        show noK k2 (look _ _ _)=true
        rw [aV,Al h6];exact rK hf3 (by simp; exact Ne.symm h5)
  · have:=uN (AW m9 (bY.le.refl _) k1) s;rw [hdk3] at this;exact this
 have hfin:K (a.put o.dst (.bool j.isNone)) E4.w:=by
  rw [hd];obtain ⟨β5,hr5⟩:=hrel4.weak hw5;exact hK' _ _ (hils E4 β5 _ hr5)
 cases e with
 | normal=>cases hj; exact ⟨_,_,hend,hfin⟩
 | ret=>cases hj; exact ⟨_,_,hend,hfin⟩
 | exit i=>cases hj; exact ⟨_,_,hend,hfin⟩
 | goto i=>cases hj
 | panic c=>cases hj
 | outgrown=>cases hj

theorem aIW{E:Env}{β:bY}{S:St}{a:Act}{rs:List D}{fn:Func}(hr:Rel O N S E β a)(hres:aAQ P S fn.results.toList rs):∃ v,(results fn a.tmps).run P E.w = .ok v E.w∧Rd E β v (retD rs):=by
 obtain ⟨vs',h1,h2⟩:=tJ (P:=P) hr hres;have hrun:(results fn a.tmps).run P E.w = .ok (if h:vs'.toArray.size=1 then vs'.toArray[0] else .tuple vs'.toArray) E.w:=by
  have hF:results fn a.tmps=(fn.results.mapM (resF a.tmps)) >>= fun vs=>pure (if h:vs.size=1 then vs[0] else .tuple vs):=by
   unfold results
   congr 2
  rw [hF,←Dn (xs:=fn.results),DQ];simp only [Sem.run_bind,Sem.run_map,h1,Result.andThen_ok,Sem.run_pure]
 refine ⟨_,hrun,?_⟩;cases h2 with
 | nil=>simpa [retD] using Rd.tuple (E:=E) β [] [] (.nil _)
 | cons h5 h6 =>
   cases h6 with
   | nil=>simpa [retD] using h5
   | cons h7 h8 =>
     simp only [retD,Cm,AR];rw [dif_neg (by omega)];exact .tuple _ _ _ (.cons h5 (.cons h7 h8))
@[reducible] def inlQ (P:Ba) (O:bZ) (N t k2:Nat) (fn:Func) (ops:Array Oper) (l:List Oper) (Q:Exit→St→Prop) (e:Exit) (S':St):Prop :=
 (e = .normal∨e = .ret)∧∃ iK dk rs,aAQ P S' fn.results.toList rs∧S'.ent iK = .kept k2 dk∧aDz k2 [iK] S'.H=true ∧
   ∃ S2 ρ,Weak ⟨(t,retD rs)::(By N).zip dk,(iK,.none)::S'.H⟩ S2 ρ∧ILS P O N ops l S2 Q
end
end Go.IL
namespace Go.IL

section
variable {P:Ba} {O:bZ} {N:Nat} {S S':St} {o:Oper} {t:Nat}
end
def aDO(P : Ba)(f : Ce)(g : Array AG → Sem AG) : Prop := ∃ fn, P.funcs[f]? = some fn ∧ (fn.name == "runtime.NumGoroutine") = false ∧ fn.body.isNone = true ∧ Extern.findNext fn = none ∧ Extern.find fn = some g
section
variable {P:Ba} {O:bZ} {N:Nat} {S S':St} {o:Oper} {t:Nat}
end
section
variable {P:Ba} {O:bZ} {N:Nat} {S S':St} {o:Oper} {t:Nat}
end
section
variable {P:Ba} {O:bZ} {N:Nat} {S S':St} {o:Oper} {t:Nat}
theorem aAk{T e:At}{len esz eb:Nat}{ez:AG}{ps:List (Nat×Am)}{dps:List (Nat×D)}{ds:List D}(ho:o.op = .buildSlice T len ps.toArray)(hd:o.dst=some t)(ht:t<N)(hu:P.underlying T=some (.slice e))(he:TI P e (some ez) esz eb)(hsp:0<esz)(hx:PVs S ps dps)(hfill:aAm (fun i=>some (i*esz,esz)) (AK (len*esz) .dead) dps=some (Ac ds))(hl:ds.length=len)(hz:∀ d∈ds,d.cells.length=esz)(hp:AE noRef (Ac ds)=true)(hb:len*esz≤2 ^ 24) :
 IOp P O N o S (S.set t (.slice false ds)):=by
 subst hl;refine aHV hd ht fun E β a hr=>?_
 obtain ⟨i,h1,h2,h3,_⟩:=he.at
 let init:Array AG:=(Array.range (ds.length*esz)).map fun k=>(if ds.length*esz=0 then #[] else ez.cells)[k % (if ds.length*esz=0 then #[] else ez.cells).size]!
 have hinit:RdL E β init.toList (AK (ds.length*esz) .dead):=by
  have:=vA E β init.toList
  rwa [show init.toList.length=ds.length*esz by simp [init]] at this
 obtain ⟨cells,h4,h5⟩:=aAO hr hx hinit hfill;have hcl:cells.size=ds.length*esz:=by have:=h5.length; rw [qQ hz] at this; simpa using this
 have hbel:RowKit.Below E.w.heap.size E.w (E.w.alloc (.cells cells e)):=(RowKit.Below.refl _ _).alloc (AP _) _;refine ⟨.slice (some ⟨E.w.heap.size,0,none⟩) ds.length ds.length,E.w.alloc (.cells cells e),?_,hbel,?_⟩
 · have hb':¬ (2 ^ 24<ds.length*esz):=by omega
   simp only [execOp,ho,Instr.buildSlice,Sem.run_bind,run_underlying hu,Result.andThen_ok,he.run_size];rw [Al (by simpa using hb')]
   by_cases h0:ds.length*esz=0
   · have h4':=h4;simp only [init,h0,if_true] at h4' ⊢;simp at h4';simp [h4',newRow]
   · have h4':=h4;simp only [init,h0,if_false] at h4' ⊢;simp [zeroValue,typeInfo,h1,h2,h4',newRow]
 · refine .slice _ _ 0 _ _ esz false cells.toList _ rfl (AP _) (by simp) hz hsp (fun k v hk=>⟨?_,fun h=>by have:=hr.h.xlt _ _ h; omega⟩) (AW (qK hbel) (bY.le.refl _) (h5.bare hp));rw [Bj];refine (cell_of_row _ E.w.heap.size k _ _ _ (heap_alloc_new E.w _)).trans ?_;simpa using hk
theorem iop_bsF{α:Type}(f:Enc α)(xs:List α){T e:At}{len eb:Nat}{ez:AG}{ps:List (Nat×Am)}{dps:List (Nat×D)}(ho:o.op = .buildSlice T len ps.toArray)(hd:o.dst=some t)(ht:t<N)(hu:P.underlying T=some (.slice e))(he:TI P e (some ez) f.sz eb)(hx:PVs S ps dps)(hfill:aAm (fun i=>some (i*f.sz,f.sz)) (AK (len*f.sz) .dead) dps=some (Ac (xs.map f.d)))(hl:xs.length=len)(hb:len*f.sz≤2 ^ 24) :
 IOp P O N o S (S.set t (.slice false (xs.map f.d))) :=
 aAk ho hd ht hu he f.pos hx hfill (by rw [An]; exact hl) (f.len xs) (f.noRef xs) hb
end
end Go.IL
open Eq renaming refl → Fi
open Int renaming ediv_le_self → FP,le_refl → Dj,tdiv_eq_ediv_of_nonneg → En,toNat_natCast → As
namespace Go.IL
theorem bnd_d{α β:Type}(e:α)(f:α→Ag β):bnd e f=f e:=rfl
theorem bno_s{α β:Type}(x:α)(f:α→Ag β):bno (some x) f=f x:=rfl
theorem gd_tt{α:Type}(o:Option α)(d:α):gd true o d=o:=rfl
theorem gd_ff{α:Type}(o:Option α)(d:α):gd false o d=some d:=rfl
theorem fM{α:Type}(l:List α)(k:Nat):gix l (k:Int)=l[k]?:=by unfold gix; rw [Ao (by omega)]; rfl
theorem cut_ok{α:Type}{l:List α}{a b:Int}(h0:0≤a)(h1:a≤b)(h2:b≤(l.length:Int)):cut l a b=some ((l.take b.toNat).drop a.toNat):=Ao ⟨h0,h1,h2⟩
theorem cut_to{α:Type}{l:List α}{a:Int}(h0:0≤a)(h1:a≤(l.length:Int)):cut l a (l.length:Int)=some (l.drop a.toNat):=by
 rw [cut_ok h0 h1 (Dj _),As,Cr (AP _)]
theorem kI{α:Type}{b:Nat}{l m:List α}(h:l.length+m.length≤9223372036854775807)(h1:(l.length+m.length)*b≤140737488355328):app b l m=some (l++m):=Ao ⟨h,h1⟩
theorem w64{n:Int}(h0 : -9223372036854775808≤n)(h1:n≤9223372036854775807):Af .i64 n=n:=wrap_i64 h0 h1
theorem wU64{n:Int}(h0:0≤n)(h1:n<18446744073709551616):IntKind.wrap .u64 n=n:=aIN h0 h1
theorem shr_ok{k:IntKind}{a:Int}{n:Nat}(hn:n≤k.bits):shrI k a (n:Int)=some (a / 2 ^ n):=by
 unfold shrI;rw [Al (by omega),As,Cg hn,Int.fdiv_eq_ediv_of_nonneg _ (Int.le_of_lt (Int.pow_pos (by decide)))]
theorem shr_at{k:IntKind}{a b:Int}(n:Nat)(hb:b=(n:Int))(hn:n≤k.bits):shrI k a b=some (a / 2 ^ n):=by rw [hb,shr_ok hn]
theorem quo_ok{a b:Int}(h0:0≤a)(h1:a≤9223372036854775807)(hb:0<b):quoI .i64 a b=some (a / b):=by
 unfold quoI;have h2:a / b≤a:=FP _ h0;have h3:0≤a / b:=Int.ediv_nonneg h0 (Int.le_of_lt hb);rw [Al (by omega),En h0,w64 (by omega) (by omega)]
theorem aJX{a b:Int}(h0:0≤a)(hb:0<b):remI a b=some (a % b):=by
 unfold remI;rw [Al (by omega),Int.tmod_eq_emod_of_nonneg h0]
theorem aCV{α β:Type}[DecidableEq α][DecidableEq β]{l:List α}{a b:Ag β}(h:l=[]→a=b):aDJ l a b=b:=by
 unfold aDJ; split
 · rename_i hl; rw [Ao (h hl),h hl]
 · rfl
theorem dK{n:Nat}(h:n<18446744073709551616):n<fuel:=by show n<2 ^ 64; omega
theorem bndD{α β:Type}(e:α)(f:α→Ag β):bnd e f=f e:=(Fi _).trans (bnd_d e f)
theorem bnoS{α β:Type}(x:α)(f:α→Ag β):bno (some x) f=f x:=(Fi _).trans (bno_s x f)
theorem gdtt{α:Type}(o:Option α)(d:α):gd true o d=o:=(Fi _).trans (gd_tt o d)
theorem gdff{α:Type}(o:Option α)(d:α):gd false o d=some d:=(Fi _).trans (gd_ff o d)
theorem bO{α:Type}(a b:α):(bif true then a else b)=a:=(Fi _).trans (Fi _)
theorem bJ{α:Type}(a b:α):(bif false then a else b)=b:=(Fi _).trans (Fi _)
end Go.IL
open Go.RowKit
namespace Go.IL
def aJP:Nat→(Nat→Prop)→Prop
 | 0,_=>True
 | n+1,p=>aJP n p∧p n
theorem aJP.get:∀ {n:Nat} {p:Nat→Prop},aJP n p→∀ j,j<n→p j
 | 0,_,_,_,h=>by omega
 | n+1,p,h,j,hj=>by
   by_cases e:j=n
   · subst e; exact h.2
   · exact aJP.get h.1 j (by omega)
section
variable {P:Ba} {O:bZ} {N:Nat} {S S':St} {o:Oper} {t:Nat}
end
end Go.IL
