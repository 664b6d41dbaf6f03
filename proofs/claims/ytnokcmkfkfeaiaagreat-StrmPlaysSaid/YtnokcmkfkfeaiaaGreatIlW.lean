/-
  A part of the proof: rules and plain facts. No condition.
-/
import Derived.WalkKit
import Derived.Laws.AppendOwn
import Derived.Orders
import Derived.TacticsIn
import Derived.OrdersIn
import Derived.RangeFuncCalls
import Derived.RangeFuncLeaves
import Derived.Laws.BytesArg
import Derived.Laws.MakeOwn
import Derived.Laws.Strings2
import Derived.Laws.IdiomStrings
import Derived.WalkSpells
set_option linter.all false
namespace Go.IL

inductive D where
 | dead
 | bool (b:Bool)
 | int (k:IntKind) (n:Int)
 | float (k:FloatKind) (n:Nat)
 | str (l:List UInt8)
 | slice (full:Bool) (l:List D)
 | nils
 | agg (cs:List D)
 | tuple (cs:List D)
 | fptr (cs:List D)
 | nilp | nilf | nili
 | fn (f:FuncId) (caps:List D)
 | mv (f:FuncId) (first:List D)
 | ref (id off:Nat)
 | rsl (id sz off len cap:Nat)
 | gsl (id sz:Nat) (l:List D)
 | osl (id sz len:Nat)
 | cnd (b:Bool) (d:D)
 | yld (id:Nat)
 deriving Inhabited

def fnan:FloatKind→Nat
 | .f64=>9221120237041090561
 | .f32=>2143289344
def fcan (k:FloatKind) (m:Nat):Nat:=if (k.decode m).isNaN then fnan k else m

def D.cells:D→List D
 | .agg cs=>cs
 | d=>[d]
def D.flat (l:List D):List D:=l.flatMap D.cells

def bs (l:List UInt8):ByteArray:=⟨l.toArray⟩

structure Env where
 w:World
 X:Nat→Nat→Prop

abbrev cH:=Nat→Option Nat
def β0:cH:=fun _=>none

def Env.row (E:Env) (b off:Nat) (vs:List Value):Prop :=
 ∀ (k:Nat) (v:Value),vs[k]? = some v→E.w.cell? ⟨b,off+k,none⟩=some v∧¬ E.X b (off+k)

mutual
inductive Rd (E:Env):cH→Value→D→Prop
 | dead (β v):Rd E β v .dead
 | bool (β b):Rd E β (.bool b) (.bool b)
 | int (β k n):Rd E β (.int k n) (.int k n)
 | float (β k m n) (h:fcan k m=n):Rd E β (.float k m) (.float k n)
 | str (β l):Rd E β (.string (bs l)) (.str l)
 | slice (β) (b off len cap sz:Nat) (full:Bool) (vs:List Value) (l:List D) (hl:l.length=len) (hc:len≤cap)
  (hf:full=true→cap=len) (hz:∀ d∈l,d.cells.length=sz) (hsz:0<sz) (hr:E.row b off vs) (hv:RdL E β0 vs (D.flat l)) :
  Rd E β (.slice (some ⟨b,off,none⟩) len cap) (.slice full l)
 | nslice (β full):Rd E β (.slice none 0 0) (.slice full [])
 | eslice (β) (a:Addr) (cap:Nat) (full:Bool) (hf:full=true→cap=0):Rd E β (.slice (some a) 0 cap) (.slice full [])
 | nils (β):Rd E β (.slice none 0 0) .nils
 | agg (β vs cs) (h:RdL E β vs cs):Rd E β (.agg vs.toArray) (.agg cs)
 | tuple (β vs cs) (h:RdL E β vs cs):Rd E β (.tuple vs.toArray) (.tuple cs)
 | fptr (β) (b off:Nat) (vs cs) (hr:E.row b off vs) (hv:RdL E β0 vs cs):Rd E β (.pointer (some ⟨b,off,none⟩)) (.fptr cs)
 | nilp (β):Rd E β (.pointer none) .nilp
 | nilf (β):Rd E β .nilFunc .nilf
 | nili (β):Rd E β .nilIface .nili
 | fn (β f vs caps) (h:RdL E β vs caps):Rd E β (.func (.func f) #[] vs.toArray) (.fn f caps)
 | mv (β f us first) (h:RdL E β us first):Rd E β (.func (.func f) us.toArray #[]) (.mv f first)
 | ref (β id off b) (h:β id=some b):Rd E β (.pointer (some ⟨b,off,none⟩)) (.ref id off)
 | rsl (β id sz off len cap b o) (h:β id=some b) (hc:len≤cap) (hsz:0<sz) (ho:(0<cap→o=off)∧o≤off) (c:Array Value) (e:TypeId) (f:Nat×Nat) (hcap:E.w.heap[b]? = some (Obj.cells c e f)) (hcs:off+cap*sz≤c.size) (hcm:cap≤maxLen) :
  Rd E β (.slice (some ⟨b,o,none⟩) len cap) (.rsl id sz off len cap)
 | gsl (β id b) (len cap sz:Nat) (vs:List Value) (l:List D) (h:β id=some b) (hl:l.length=len) (hc:len≤cap)
  (hz:∀ d∈l,d.cells.length=sz) (hsz:0<sz) (hr:E.row b 0 vs) (hv:RdL E β0 vs (D.flat l)) (c:Array Value) (e:TypeId) (f:Nat×Nat) (hcap:E.w.heap[b]? = some (Obj.cells c e f)) (hcs:c.size=cap*sz) (hcm:cap≤maxLen) :
  Rd E β (.slice (some ⟨b,0,none⟩) len cap) (.gsl id sz l)
 | ngsl (β id sz):Rd E β (.slice none 0 0) (.gsl id sz [])
 | osl (β id b) (len cap sz:Nat) (h:β id=some b) (hc:len≤cap) (hsz:0<sz) (c:Array Value) (e:TypeId) (f:Nat×Nat) (hcap:E.w.heap[b]? = some (Obj.cells c e f)) (hcs:cap*sz≤c.size) (hcm:cap≤maxLen) :
  Rd E β (.slice (some ⟨b,0,none⟩) len cap) (.osl id sz len)
 | nosl (β id sz):Rd E β (.slice none 0 0) (.osl id sz 0)
 | cnd (β v b d) (h:b=true→Rd E β v d) (h':b=false→v=undef):Rd E β v (.cnd b d)
 | yld (β id l) (h:β id=some l):Rd E β (.func (.yield l) #[] #[]) (.yld id)
inductive RdL (E:Env):cH→List Value→List D→Prop
 | nil (β):RdL E β [] []
 | cons {β v d vs ds} (h:Rd E β v d) (t:RdL E β vs ds):RdL E β (v::vs) (d::ds)
end

structure Env.le (E E':Env):Prop where
 cell:∀ b o v,E.w.cell? ⟨b,o,none⟩=some v→¬ E.X b o→E'.w.cell? ⟨b,o,none⟩=some v∧¬ E'.X b o
 size:∀ (b:Nat) (c:Array Value) (e:TypeId) (f:Nat×Nat),E.w.heap[b]? = some (Obj.cells c e f)→∃ (c':Array Value) (f':Nat×Nat),E'.w.heap[b]? = some (Obj.cells c' e f')∧c'.size=c.size

def tabs:List (Nat×List Value):=[]
structure Tabs (E:Env):Prop where
 all:∀ x∈tabs,E.row x.1 0 x.2∧∃ (c:Array Value) (e:TypeId) (f:Nat×Nat),E.w.heap[x.1]? = some (Obj.cells c e f)∧c.size=x.2.length
structure Env.good (E:Env):Prop where
 xlt:∀ b o,E.X b o→b<E.w.heap.size
 tab:Tabs E

theorem Env.le.row {E E':Env} (h:E.le E') {b off:Nat} {vs:List Value} (r:E.row b off vs):E'.row b off vs :=
 fun k v hk=>h.cell _ _ _ (r k v hk).1 (r k v hk).2

theorem Tabs.mono {E E':Env} (h:E.le E') (k:Tabs E):Tabs E':=⟨fun x hx =>
 let ⟨h1,c,e,f,h2,h3⟩:=k.all x hx
 let ⟨c',f',h4,h5⟩:=h.size _ _ _ _ h2
 ⟨h.row h1,c',e,f',h4,h5.trans h3⟩⟩

theorem Tabs.sub {w:World} {X Y:Nat→Nat→Prop} (h:∀ b o,Y b o→X b o) (k:Tabs ⟨w,X⟩):Tabs ⟨w,Y⟩:=⟨fun x hx =>
 let ⟨h1,h2⟩:=k.all x hx
 ⟨fun i v hv=>⟨(h1 i v hv).1,fun hY=>(h1 i v hv).2 (h _ _ hY)⟩,h2⟩⟩

def cH.le (β β':cH):Prop:=∀ id b,β id=some b→β' id=some b
theorem cH.le.refl (β:cH):β.le β:=fun _ _ h=>h

mutual
theorem Rd.mono {E E':Env} (h:E.le E') {β β':cH} (hβ:β.le β'):∀ {v:Value} {d:D},Rd E β v d→Rd E' β' v d
 | _,_,.dead _ v=>.dead _ v
 | _,_,.bool _ b=>.bool _ b
 | _,_,.int _ k n=>.int _ k n
 | _,_,.float _ k m n h=>.float _ k m n h
 | _,_,.str _ l=>.str _ l
 | _,_,.slice _ b off len cap sz full vs l hl hc hf hz hsz hr hv=>.slice _ b off len cap sz full vs l hl hc hf hz hsz (h.row hr) (RdL.mono h (cH.le.refl _) hv)
 | _,_,.nslice _ f=>.nslice _ f
 | _,_,.eslice _ a c f h=>.eslice _ a c f h
 | _,_,.nils _=>.nils _
 | _,_,.agg _ vs cs hv=>.agg _ vs cs (RdL.mono h hβ hv)
 | _,_,.tuple _ vs cs hv=>.tuple _ vs cs (RdL.mono h hβ hv)
 | _,_,.fptr _ b off vs cs hr hv=>.fptr _ b off vs cs (h.row hr) (RdL.mono h (cH.le.refl _) hv)
 | _,_,.nilp _=>.nilp _
 | _,_,.nilf _=>.nilf _
 | _,_,.nili _=>.nili _
 | _,_,.fn _ f vs caps hv=>.fn _ f vs caps (RdL.mono h hβ hv)
 | _,_,.mv _ f us first hv=>.mv _ f us first (RdL.mono h hβ hv)
 | _,_,.ref _ id off b hb=>.ref _ id off b (hβ _ _ hb)
 | _,_,.rsl _ id sz off len cap b o hb hc hsz ho c e f h1 h2 h3 =>
   let ⟨c',f',h4,h5⟩:=h.size _ _ _ _ h1
   .rsl _ id sz off len cap b o (hβ _ _ hb) hc hsz ho c' e f' h4 (h5 ▸ h2) h3
 | _,_,.gsl _ id b len cap sz vs l hb hl hc hz hsz hr hv c e f h1 h2 h3 =>
   let ⟨c',f',h4,h5⟩:=h.size _ _ _ _ h1
   .gsl _ id b len cap sz vs l (hβ _ _ hb) hl hc hz hsz (h.row hr) (RdL.mono h (cH.le.refl _) hv) c' e f' h4 (h5.trans h2) h3
 | _,_,.ngsl _ id sz=>.ngsl _ id sz
 | _,_,.osl _ id b len cap sz hb hc hsz c e f h1 h2 h3 =>
   let ⟨c',f',h4,h5⟩:=h.size _ _ _ _ h1
   .osl _ id b len cap sz (hβ _ _ hb) hc hsz c' e f' h4 (h5 ▸ h2) h3
 | _,_,.nosl _ id sz=>.nosl _ id sz
 | _,_,.cnd _ v b d hv hu=>.cnd _ v b d (fun hb=>Rd.mono h hβ (hv hb)) hu
 | _,_,.yld _ id l hb=>.yld _ id l (hβ _ _ hb)
theorem RdL.mono {E E':Env} (h:E.le E') {β β':cH} (hβ:β.le β'):∀ {vs:List Value} {ds:List D},RdL E β vs ds→RdL E' β' vs ds
 | _,_,.nil _=>.nil _
 | _,_,.cons hv t=>.cons (Rd.mono h hβ hv) (RdL.mono h hβ t)
end

theorem Env.le.refl (E:Env):E.le E:=⟨fun _ _ _ h k=>⟨h,k⟩,fun _ c _ f h=>⟨c,f,h,rfl⟩⟩
theorem Env.le.trans {E F G:Env} (h:E.le F) (k:F.le G):E.le G :=
 ⟨fun b o v a c=>let r:=h.cell b o v a c; k.cell b o v r.1 r.2,
  fun b c e f a=>let ⟨c',f',h1,h2⟩:=h.size b c e f a; let ⟨c'',f'',h3,h4⟩:=k.size b c' e f' h1; ⟨c'',f'',h3,h4.trans h2⟩⟩


mutual
def D.refsIn (p:Nat→Bool):D→Bool
 | .ref id _=>p id
 | .rsl id _ _ _ _=>p id
 | .gsl id _ _=>p id
 | .osl id _ _=>p id
 | .yld id=>p id
 | .agg cs=>D.refsInL p cs
 | .tuple cs=>D.refsInL p cs
 | .fn _ cs=>D.refsInL p cs
 | .mv _ cs=>D.refsInL p cs
 | .cnd _ d=>d.refsIn p
 | _=>true
def D.refsInL (p:Nat→Bool):List D→Bool
 | []=>true
 | d::ds=>d.refsIn p&&D.refsInL p ds
end
mutual
def D.ren (ρ:Nat→Nat):D→D
 | .ref id off=>.ref (ρ id) off
 | .rsl id sz off len cap=>.rsl (ρ id) sz off len cap
 | .gsl id sz l=>.gsl (ρ id) sz l
 | .osl id sz len=>.osl (ρ id) sz len
 | .yld id=>.yld (ρ id)
 | .agg cs=>.agg (D.renL ρ cs)
 | .tuple cs=>.tuple (D.renL ρ cs)
 | .fn f cs=>.fn f (D.renL ρ cs)
 | .mv f cs=>.mv f (D.renL ρ cs)
 | .cnd b d=>.cnd b (d.ren ρ)
 | d=>d
def D.renL (ρ:Nat→Nat):List D→List D
 | []=>[]
 | d::ds=>d.ren ρ::D.renL ρ ds
end

mutual
theorem Rd.ren {E:Env} {β β':cH} {ρ:Nat→Nat} {p:Nat→Bool} (hp:∀ id,p id=true→β' id=β (ρ id)) :
 ∀ (d:D) {v:Value},Rd E β v (d.ren ρ)→d.refsIn p=true→Rd E β' v d
 | .dead,_,_,_=>.dead _ _
 | .bool b,_,.bool _ _,_=>.bool _ b
 | .int k n,_,.int _ _ _,_=>.int _ k n
 | .float k n,_,.float _ _ m _ h,_=>.float _ k m n h
 | .str l,_,.str _ _,_=>.str _ l
 | .slice f l,_,.slice _ b off len cap sz _ vs _ hl hc hf hz hsz hr hv,_=>.slice _ b off len cap sz f vs l hl hc hf hz hsz hr hv
 | .slice f _,_,.nslice _ _,_=>.nslice _ f
 | .slice _ _,_,.eslice _ a c f h,_=>.eslice _ a c f h
 | .nils,_,.nils _,_=>.nils _
 | .agg cs,_,.agg _ vs _ h,hr=>.agg _ vs cs (RdL.ren hp cs h (by simpa [D.refsIn] using hr))
 | .tuple cs,_,.tuple _ vs _ h,hr=>.tuple _ vs cs (RdL.ren hp cs h (by simpa [D.refsIn] using hr))
 | .fptr cs,_,.fptr _ b off vs _ hr hv,_=>.fptr _ b off vs cs hr hv
 | .nilp,_,.nilp _,_=>.nilp _
 | .nilf,_,.nilf _,_=>.nilf _
 | .nili,_,.nili _,_=>.nili _
 | .fn f cs,_,.fn _ _ vs _ h,hr=>.fn _ f vs cs (RdL.ren hp cs h (by simpa [D.refsIn] using hr))
 | .mv f cs,_,.mv _ _ us _ h,hr=>.mv _ f us cs (RdL.ren hp cs h (by simpa [D.refsIn] using hr))
 | .ref id off,_,.ref _ _ _ b h,hr=>.ref _ id off b ((hp id (by simpa [D.refsIn] using hr)).trans h)
 | .rsl id sz off len cap,_,.rsl _ _ _ _ _ _ b o h hc hsz ho c e f h1 h2 h3,hr=>.rsl _ id sz off len cap b o ((hp id (by simpa [D.refsIn] using hr)).trans h) hc hsz ho c e f h1 h2 h3
 | .gsl id sz l,_,.gsl _ _ b len cap _ vs _ h hl hc hz hsz hr' hv c e f h1 h2 h3,hr =>
   .gsl _ id b len cap sz vs l ((hp id (by simpa [D.refsIn] using hr)).trans h) hl hc hz hsz hr' hv c e f h1 h2 h3
 | .gsl id sz _,_,.ngsl _ _ _,_=>.ngsl _ id sz
 | .osl id sz len,_,.osl _ _ b _ cap _ h hc hsz c e f h1 h2 h3,hr=>.osl _ id b len cap sz ((hp id (by simpa [D.refsIn] using hr)).trans h) hc hsz c e f h1 h2 h3
 | .osl id sz _,_,.nosl _ _ _,_=>.nosl _ id sz
 | .cnd b d,_,.cnd _ v _ _ h hu,hr=>.cnd _ v b d (fun hb=>Rd.ren hp d (h hb) (by simpa [D.refsIn] using hr)) hu
 | .yld id,_,.yld _ _ l h,hr=>.yld _ id l ((hp id (by simpa [D.refsIn] using hr)).trans h)
theorem RdL.ren {E:Env} {β β':cH} {ρ:Nat→Nat} {p:Nat→Bool} (hp:∀ id,p id=true→β' id=β (ρ id)) :
 ∀ (ds:List D) {vs:List Value},RdL E β vs (D.renL ρ ds)→D.refsInL p ds=true→RdL E β' vs ds
 | [],_,.nil _,_=>.nil _
 | d::ds,_,.cons h t,hr =>
   have hr':d.refsIn p=true∧D.refsInL p ds=true:=by simpa [D.refsInL] using hr
   .cons (Rd.ren hp d h hr'.1) (RdL.ren hp ds t hr'.2)
end

end Go.IL
namespace Go.IL

inductive Ent where
 | none | fresh
 | blk (e:TypeId) (ds:List D)
 | tail (e:TypeId) (sz n:Nat)
 | loop (k:Nat) (ds:List D) (st:LoopState) (pend:Option Code)
 | kept (k:Nat) (ds:List D)
 deriving Inhabited

def Ent.held:Ent→Bool
 | .blk .. | .tail .. | .loop ..=>true
 | _=>false

structure cT where
 w:World
 X:Nat→Nat→Prop
 foot:Nat→Prop
 given:cH
 round:Option Nat
 kv:Nat→List Value
 lv:Nat→Nat
 dv:Nat→List Nat
 lc:Nat→Array Tmp×Code×Code

structure cT.Plain (O:cT):Prop where
 round:O.round=none
 foot:∀ b,O.w.heap.size≤b→¬ O.foot b
 dv:∀ k,O.dv k=[]

def cT.own (O:cT) (b:Nat):Prop:=O.w.heap.size≤b∨O.foot b

def aB6 (O:cT) (E:Env) (β:cH) (id:Nat):Ent→Prop
 | .none=>True
 | .fresh=>β id = .none
 | .blk e ds=>(β id = .none∧ds=[])∨∃ b vs sp,β id=some b∧O.own b∧E.w.heap[b]? = some (.cells (List.toArray (vs++sp)) e (0,0))∧(∀ o,E.X b o)∧RdL E β vs ds
 | .tail e sz n=>(β id = .none∧n=0)∨∃ b c,β id=some b∧O.own b∧E.w.heap[b]? = some (.cells c e (0,0))∧∀ o,n*sz≤o→E.X b o
 | .loop lk ds st pend=>∃ b r,β id=some b∧O.own b∧E.w.heap[b]? = some (.loop r)∧(∀ o,E.X b o)∧r.params=(O.lc lk).1∧r.assign=(O.lc lk).2.1∧r.body=(O.lc lk).2.2∧r.state=st∧r.pending=pend∧O.lv lk=b∧RdL E β r.tmps.toList ds
 | .kept k ds=>RdL E β (O.kv k) ds∧∀ b∈O.dv k,E.w.heap[b]? = some (.deferred (some []))

structure HOk (O:cT) (E:Env) (β:cH) (H:Nat→Ent):Prop where
 os:E.w.os=O.w.os
 tape:E.w.tape=O.w.tape
 output:E.w.output=O.w.output
 size:O.w.heap.size≤E.w.heap.size
 block:∀ k,k<O.w.heap.size→¬ O.foot k→E.w.heap[k]? = O.w.heap[k]?
 xlt:∀ b o,E.X b o→b<E.w.heap.size
 xold:∀ b o,b<O.w.heap.size→¬ O.foot b→(E.X b o↔O.X b o)
 ent:∀ id,aB6 O E β id (H id)
 inj:∀ i j b,(H i).held=true→(H j).held=true→β i=some b→β j=some b→i=j
 le:(⟨O.w,O.X⟩:Env).le E
 tab:Tabs ⟨O.w,O.X⟩
 gid:∀ i b,O.given i=some b→1000≤i
 given:∀ i b,O.given i=some b→β i=some b

theorem HOk.good {O:cT} {E:Env} {β:cH} {H:Nat→Ent} (h:HOk O E β H):E.good:=⟨h.xlt,h.tab.mono h.le⟩

structure St where
 sl:List (Nat×D)
 H:List (Nat×Ent)

def look {α:Type} (z:α) (t:Nat):List (Nat×α)→α
 | []=>z
 | (s,d)::r=>if s=t then d else look z t r

def St.get (S:St) (t:Nat):D:=look .dead t S.sl
def defE (id:Nat):Ent:=if 1000≤id then .none else .fresh
def entL (H:List (Nat×Ent)) (id:Nat):Ent:=look (defE id) id H
def St.ent (S:St) (id:Nat):Ent:=entL S.H id
def St.set (S:St) (t:Nat) (d:D):St:={ S with sl:=(t,d)::S.sl }
def St.setE (S:St) (id:Nat) (e:Ent):St:={ S with H:=(id,e)::S.H }

theorem bB {α:Type} (z:α) (t s:Nat) (d:α) (r:List (Nat×α)):look z t ((s,d)::r)=if s=t then d else look z t r:=rfl

def tJ (O:cT) (E:Env) (ds:List Deferred):Prop:=∃ bs:List Nat,ds=bs.map (fun b=>{ target:=.collected b,args:=#[] })∧bs.Nodup∧∀ b∈bs,(O.w.heap.size≤b∧∀ k,b ∉ O.dv k)∧E.w.heap[b]? = some (.deferred (some []))
theorem tJ.mono {O:cT} {E E':Env} {ds:List Deferred} (h:tJ O E ds) (hd:∀ b:Nat,E.w.heap[b]? = some (Obj.deferred (some []))→E'.w.heap[b]? = some (Obj.deferred (some []))):tJ O E' ds :=
 let ⟨bs,h1,h2,h3⟩:=h; ⟨bs,h1,h2,fun b hb=>⟨(h3 b hb).1,hd b (h3 b hb).2⟩⟩
theorem tJ.nil {O:cT} {E:Env}:tJ O E []:=⟨[],rfl,.nil,fun _ h=>by cases h⟩
def fen (r:Option Nat):Fence:={ Fence.wide with round:=r }

structure Rel (O:cT) (N:Nat) (S:St) (E:Env) (β:cH) (a:Act):Prop where
 n:a.tmps.size=N
 nd:tJ O E a.defers
 h:HOk O E β S.ent
 sl:∀ t,Rd E β (a.tmps.getD t undef) (S.get t)

def IWP (P:Program) (O:cT) (N:Nat) (c:Code) (S:St) (Q:Exit→St→Prop):Prop :=
 ∀ E β a,Rel O N S E β a→c.wpIn (fen O.round) 0 P (fun e a' w'=>∃ S' E' β',E'.w=w'∧Rel O N S' E' β' a'∧Q e S') a E.w

def ILS (P:Program) (O:cT) (N:Nat) (ops:Array Oper) (l:List Oper) (S:St) (Q:Exit→St→Prop):Prop :=
 ∀ E β a,Rel O N S E β a→wpListIn (fen O.round) 0 P ops (fun e a' w'=>∃ S' E' β',E'.w=w'∧Rel O N S' E' β' a'∧Q e S') l a E.w

def IOp (P:Program) (O:cT) (N:Nat) (o:Oper) (S S':St):Prop :=
 ∀ E β a,Rel O N S E β a→∀ (next:Act→World→Prop) Q,(∀ E' β' a',Rel O N S' E' β' a'→next a' E'.w)→o.wp P a E.w next Q

def sF:Op→Bool
 | .defer _=>false
 | _=>true
def pG (o:Oper):Bool:=o.guard.isNone&&sF o.op
theorem qF {o:Oper} (h:pG o=true):o.guard=none∧sF o.op=true:=by
 unfold pG at h
 rw [Bool.and_eq_true] at h
 exact ⟨by simpa using h.1,h.2⟩
theorem aBH {o:Op} (h:sF o=true):∀ c,o ≠ .defer c:=by rintro c rfl; cases h
theorem aD1 {P:Program} {o:Oper} {a:Act} {w:World} {next:Act→World→Prop} {Q:Exit→Act→World→Prop} (r:Option Nat) (hd:sF o.op=true) (h:o.wp P a w next Q):o.wpIn (fen r) 0 P a w next Q:=by
 refine ⟨fun _ _=>trivial,?_⟩
 unfold Oper.wp at h
 rw [Oper.semAt_eq _ _ _ (aBH hd)]
 generalize (execOp a.eval o).run P w=x at h
 cases x with
 | ok x w' =>
   cases x
   case enter f args=>exact ⟨fun h=>by simp [fen,Fence.wide] at h,callsIn_wide (n:=0) |>.2 h⟩
   case row row args=>exact ⟨fun h=>by simp [fen,Fence.wide] at h,fun c cs _=>let ⟨v,w',r,s⟩:=h c cs; ⟨v,w',r,stepsIn_wide.2 s⟩⟩
   case round=>exact False.elim h
   all_goals exact h
 | halt x w'=>cases x <;> exact h

section rules
variable {P:Program} {O:cT} {N:Nat} {S S':St} {Q Q':Exit→St→Prop}

theorem aDj {c:Code} (h:IWP P O N c S Q) (hq:∀ e S,Q e S→Q' e S):IWP P O N c S Q' :=
 fun E β a hr=>wpIn_mono (h E β a hr) fun e a' w' ⟨S',E',β',h1,h2,h3⟩=>⟨S',E',β',h1,h2,hq _ _ h3⟩

def aD4 (k:St→Prop) (Q:Exit→St→Prop):Exit→St→Prop
 | .normal,S=>k S
 | e,S=>Q e S

theorem aP {x y:Code} (h:IWP P O N x S (aD4 (fun S'=>IWP P O N y S' Q) Q)):IWP P O N (.seq x y) S Q:=by
 intro E β a hr
 refine wpIn_seq (wpIn_mono (h E β a hr) ?_)
 rintro e a' w' ⟨S',E',β',rfl,h2,h3⟩
 cases e with
 | normal=>exact h3 E' β' a' h2
 | _=>exact ⟨S',E',β',rfl,h2,h3⟩

theorem aO (h:Q .normal S):IWP P O N .skip S Q:=fun E β _ hr=>wpIn_skip ⟨S,E,β,rfl,hr,h⟩
theorem aE3 {l:Nat} (h:Q .normal S):IWP P O N (.label l) S Q:=fun E β _ hr=>wpIn_label ⟨S,E,β,rfl,hr,h⟩
theorem cR {i:Nat} (h:Q (.exit i) S):IWP P O N (.exit i) S Q:=fun E β _ hr=>wpIn_exit ⟨S,E,β,rfl,hr,h⟩
theorem aM (h:Q .ret S):IWP P O N .ret S Q:=fun E β _ hr=>wpIn_ret ⟨S,E,β,rfl,hr,h⟩

def aAL (i:Nat) (Q:Exit→St→Prop):Exit→St→Prop
 | .exit j,S=>if j=i then Q .normal S else Q (.exit j) S
 | e,S=>Q e S

theorem bD {i:Nat} {c:Code} (h:IWP P O N c S (aAL i Q)):IWP P O N (.block i c) S Q:=by
 intro E β a hr
 refine wpIn_block (wpIn_mono (h E β a hr) ?_)
 rintro e a' w' ⟨S',E',β',rfl,h2,h3⟩
 cases e with
 | exit j =>
   simp only [Exit.inBlock,aAL] at h3 ⊢
   split
   · rename_i hj; rw [if_pos hj] at h3; exact ⟨S',E',β',rfl,h2,h3⟩
   · rename_i hj; rw [if_neg hj] at h3; exact ⟨S',E',β',rfl,h2,h3⟩
 | _=>exact ⟨S',E',β',rfl,h2,h3⟩

theorem aZ {id:Nat} {l:List Oper} (h:ILS P O N l.toArray l S Q):IWP P O N (.region id l.toArray false) S Q :=
 fun E β a hr=>wpIn_region_lit (h E β a hr)

theorem bN {ops:Array Oper} (h:Q .normal S):ILS P O N ops [] S Q:=fun E β _ hr=>⟨S,E,β,rfl,hr,h⟩

theorem aA {ops:Array Oper} {o:Oper} {l:List Oper} (hg:pG o=true) (h:IOp P O N o S S') (k:ILS P O N ops l S' Q):ILS P O N ops (o::l) S Q :=
 fun E β a hr=>wpListIn_plain (qF hg).1 fun _ hK=>aD1 _ (qF hg).2 (h E β a hr _ _ fun E' β' a' hr'=>hK _ _ (k E' β' a' hr'))

theorem Rel.set {E:Env} {β:cH} {a:Act} (h:Rel O N S E β a) {t:Nat} (ht:t<N) {v:Value} {d:D} (hv:Rd E β v d):Rel O N (S.set t d) E β (a.put (some t) v):=by
 refine ⟨by simp [Act.put,h.n],h.nd,h.h,fun s=>?_⟩
 have hs:t<a.tmps.size:=h.n ▸ ht
 by_cases hst:t=s
 · subst hst; simpa [Act.put,St.get,St.set,bB,hs] using hv
 · have:=h.sl s
   simpa [Act.put,St.get,St.set,bB,hst,Array.getElem?_setIfInBounds_ne] using this

theorem gC {o:Oper} {t:Nat} {d:D} (hd:o.dst=some t) (ht:t<N)
 (h:∀ E β a,Rel O N S E β a→∃ v,(execOp a.eval o).run P E.w = .ok (.value v) E.w∧Rd E β v d):IOp P O N o S (S.set t d):=by
 intro E β a hr next Q hn
 obtain ⟨v,hv,hd'⟩:=h E β a hr
 unfold Oper.wp
 rw [hv]
 simp only [Oper.upon,hd]
 exact hn _ _ _ (hr.set ht hd')

theorem Rel.cndT {E:Env} {β:cH} {a:Act} {t:Nat} {d:D} (h:Rel O N (S.set t d) E β a):Rel O N (S.set t (.cnd true d)) E β a:=by
 refine ⟨h.n,h.nd,h.h,fun s=>?_⟩
 have:=h.sl s
 by_cases hst:t=s
 · subst hst
   simp only [St.get,St.set,bB,if_true] at this ⊢
   exact .cnd _ _ _ _ (fun _=>this) (fun h=>by cases h)
 · simpa [St.get,St.set,bB,hst] using this

inductive Grd (S:St) (tj:Nat) (want:Bool):Bool→Prop
 | one {b} (h:S.get tj = .bool b):Grd S tj want (b == want)
 | two {c b} (h:S.get tj = .cnd c (.bool b)):Grd S tj want (c&&(b == want))

theorem Grd.yields {E:Env} {β:cH} {a:Act} (hr:Rel O N S E β a) {ops:Array Oper} {j tj:Nat} {want g:Bool} (hg:Grd S tj want g) (hj:(ops[j]?).bind (·.dst)=some tj) {o:Oper} (ho:o.guard=some (j,want)) :
 Region.wanted o (yielded ops a.tmps)=g:=by
 have hv:=hr.sl tj
 have bool:∀ b,Rd E β (a.tmps.getD tj undef) (.bool b)→yielded ops a.tmps j=some b:=by
  intro b hv
  have htj:a.tmps[tj]? = some (.bool b):=by
   generalize hgd:a.tmps.getD tj undef=v at hv
   cases hv
   cases hh:a.tmps[tj]? with
   | none=>simp [hh,undef] at hgd
   | some x=>simp [hh] at hgd; rw [hgd]
  simp [yielded,hj,htj]
 cases hg with
 | @one b h =>
   rw [h] at hv
   simp only [Region.wanted,ho,bool b hv]
   cases b <;> cases want <;> rfl
 | @two c b h =>
   rw [h] at hv
   have hcn:(c=true→Rd E β (a.tmps.getD tj undef) (.bool b))∧(c=false→a.tmps.getD tj undef=undef):=by
    generalize a.tmps.getD tj undef=v at hv
    cases hv with
    | cnd _ _ _ _ h1 h2=>exact ⟨h1,h2⟩
   obtain ⟨h1,h2⟩:=hcn
   cases c with
   | true =>
     simp only [Region.wanted,ho,bool b (h1 rfl)]
     cases b <;> cases want <;> rfl
   | false =>
     have hu:=h2 rfl
     have:yielded ops a.tmps j=none:=by
      simp only [yielded,hj,Option.bind_some]
      cases hh:a.tmps[tj]? with
      | none=>rfl
      | some x=>simp [hh] at hu; subst hu; rfl
     simp only [Region.wanted,ho,this]
     cases b <;> cases want <;> rfl

theorem cG {ops:Array Oper} {o:Oper} {l:List Oper} {j tj t:Nat} {want g:Bool} {d:D} (hg:o.guard=some (j,want)) (hj:(ops[j]?).bind (·.dst)=some tj)
 (hb:Grd S tj want g) (hd:(o.dst,sF o.op)=(some t,true)) (ht:t<N) (h:g=true→IOp P O N o S (S.set t d)) (k:ILS P O N ops l (S.set t (.cnd g d)) Q):ILS P O N ops (o::l) S Q:=by
 obtain ⟨hd,hnd⟩:=Prod.mk.inj hd
 intro E β a hr
 have hwant:=hb.yields hr hj hg
 refine wpListIn_step fun K hK=>?_
 rw [hwant]
 cases g with
 | true =>
   simp only [if_true]
   exact aD1 _ hnd (h rfl E β a hr _ _ fun E' β' a' hr'=>hK _ _ (k E' β' a' hr'.cndT))
 | false =>
   simp only [Bool.false_eq_true,if_false,hd]
   exact ⟨fun _ _=>trivial,hK _ _ (k E β _ (hr.set ht (.cnd _ _ _ _ (fun h=>by cases h) fun _=>rfl)))⟩

end rules
end Go.IL
namespace Go.IL

def D.ofScalar:Value→D
 | .bool b=>.bool b
 | .int k n=>.int k n
 | .float k n=>.float k (fcan k n)
 | .string s=>.str s.data.toList
 | .slice none 0 0=>.nils
 | .pointer none=>.nilp
 | .nilFunc=>.nilf
 | .nilIface=>.nili
 | _=>.dead
def D.ofVal:Value→D
 | .agg cs=>.agg (cs.toList.map D.ofScalar)
 | v=>D.ofScalar v

theorem aFd (s:ByteArray):bs s.data.toList=s:=by simp [bs]

theorem aAh (E:Env) (β:cH) (v:Value):Rd E β v (D.ofScalar v):=by
 unfold D.ofScalar
 split
 · exact .bool _ _
 · exact .int _ _ _
 · exact .float _ _ _ _ rfl
 · rename_i s; have:=Rd.str (E:=E) β s.data.toList; rwa [aFd] at this
 · exact .nils _
 · exact .nilp _
 · exact .nilf _
 · exact .nili _
 · exact .dead _ _

theorem uO (E:Env) (β:cH):∀ (vs:List Value),RdL E β vs (vs.map D.ofScalar)
 | []=>.nil _
 | v::vs=>.cons (aAh E β v) (uO E β vs)

theorem aAT (E:Env) (β:cH) (v:Value):Rd E β v (D.ofVal v):=by
 unfold D.ofVal
 split
 · rename_i cs
   have:=Rd.agg (E:=E) β cs.toList _ (uO E β cs.toList)
   simpa using this
 · exact aAh E β v

def St.op (S:St):Operand→D
 | .tmp t=>S.get t
 | .const v=>D.ofVal v
 | .func f=>.fn f []
 | .global _=>.dead

section
variable {P:Program} {O:cT} {N:Nat} {S S':St}

theorem Rel.op {E:Env} {β:cH} {a:Act} (h:Rel O N S E β a) (x:Operand):Rd E β (a.eval x) (S.op x):=by
 cases x with
 | tmp t=>exact h.sl t
 | const v=>exact aAT E β v
 | func f=>exact Rd.fn β f [] [] (.nil _)
 | global g=>exact .dead _ _

def SV (S:St) (x:Operand) (d:D):Prop:=∀ E β v,Rd E β v (S.op x)→Rd E β v d

theorem sv {x:Operand} {d:D} (h:S.op x=d):SV S x d:=fun _ _ _ k=>h ▸ k
theorem svc {x:Operand} {b:Bool} {d:D} (h:S.op x = .cnd b d) (hb:b=true):SV S x d:=fun _ _ _ k=>by
 rw [h] at k; cases k with | cnd _ _ _ _ k _=>exact k hb
theorem svg {x:Operand} {id sz:Nat} {l:List D} (h:S.op x = .gsl id sz l):SV S x (.slice false l):=fun E β v k=>by
 rw [h] at k
 cases k with
 | gsl _ _ b len cap _ vs _ hβ hl hc hz hsz hr hv c e f h1 h2 h3=>exact .slice _ _ _ _ _ _ _ _ _ hl hc (by simp) hz hsz hr hv
 | ngsl=>exact .nslice _ _
theorem svn {x:Operand} {f:Bool} (h:S.op x = .nils):SV S x (.slice f []):=fun E β v k=>by
 rw [h] at k; cases k; exact .nslice _ _
theorem SV.rd {x:Operand} {d:D} (h:SV S x d) {E:Env} {β:cH} {a:Act} (hr:Rel O N S E β a):Rd E β (a.eval x) d:=h _ _ _ (hr.op x)

theorem iH {E:Env} {β:cH} {v:Value} {k:IntKind} {n:Int} (h:Rd E β v (.int k n)):v = .int k n:=by cases h; rfl
theorem zD {E:Env} {β:cH} {v:Value} {b:Bool} (h:Rd E β v (.bool b)):v = .bool b:=by cases h; rfl
theorem aBF {E:Env} {β:cH} {v:Value} {l:List UInt8} (h:Rd E β v (.str l)):v = .string (bs l):=by cases h; rfl
variable {o:Oper} {t:Nat}

theorem bI {x:Operand} {d:D} (ho:o.op = .move x) (hd:o.dst=some t) (ht:t<N) (hx:SV S x d):IOp P O N o S (S.set t d) :=
 gC hd ht fun E β a hr=>⟨a.eval x,by simp [execOp,ho],hx.rd hr⟩
theorem bV {x:Operand} {d:D} (ho:o.op = .assign x) (hd:o.dst=some t) (ht:t<N) (hx:SV S x d):IOp P O N o S (S.set t d) :=
 gC hd ht fun E β a hr=>⟨a.eval x,by simp [execOp,ho],hx.rd hr⟩

def int2 (op:BinOp) (k:IntKind) (a b:Int):Option D :=
 match op with
 | .add=>some (.int k (k.wrap (a+b)))
 | .sub=>some (.int k (k.wrap (a-b)))
 | .mul=>some (.int k (k.wrap (a*b)))
 | .quo=>if b=0 then none else some (.int k (k.wrap (a.tdiv b)))
 | .rem=>if b=0 then none else some (.int k (a.tmod b))
 | .and=>some (.int k (k.wrap ((BitVec.ofInt k.bits a) &&& (BitVec.ofInt k.bits b)).toNat))
 | .or=>some (.int k (k.wrap ((BitVec.ofInt k.bits a) ||| (BitVec.ofInt k.bits b)).toNat))
 | .xor=>some (.int k (k.wrap ((BitVec.ofInt k.bits a) ^^^ (BitVec.ofInt k.bits b)).toNat))
 | .andNot=>some (.int k (k.wrap ((BitVec.ofInt k.bits a) &&& ~~~(BitVec.ofInt k.bits b)).toNat))
 | .eql=>some (.bool (decide (a=b)))
 | .neq=>some (.bool (!decide (a=b)))
 | .lss=>some (.bool (decide (a<b)))
 | .leq=>some (.bool (decide (a≤b)))
 | .gtr=>some (.bool (decide (b<a)))
 | .geq=>some (.bool (decide (b≤a)))
 | _=>none

theorem aGB {op:BinOp} {k:IntKind} {a b:Int} {d:D} (h:int2 op k a b=some d) (T:TypeId) (w:World) (E:Env) (β:cH) :
 ∃ v,(binOp op T (.int k a) (.int k b)).run P w = .ok v w∧Rd E β v d:=by
 cases op <;> simp only [int2,Option.some.injEq,reduceCtorEq] at h <;> (try subst h)
 case quo =>
  split at h
  · cases h
  · rename_i hb; cases h; refine ⟨_,?_,.int _ _ _⟩; simp [binOp,Op.intDiv,hb]
 case rem =>
  split at h
  · cases h
  · rename_i hb; cases h; refine ⟨_,?_,.int _ _ _⟩; simp [binOp,Op.intDiv,hb]
 all_goals first
  | (refine ⟨_,?_,.int _ _ _⟩; simp [binOp,Op.intArith,Op.intBits]; done)
  | (refine ⟨_,?_,.bool _ _⟩; simp [binOp,Op.intCmp,bne,Bool.beq_eq_decide_eq]; done)

theorem aAV {op:BinOp} {xt yt:TypeId} {x y:Operand} {k:IntKind} {a b:Int} {d:D} (ho:o.op = .binOp op xt x y yt) (hd:o.dst=some t) (ht:t<N)
 (hx:SV S x (.int k a)) (hy:SV S y (.int k b)) (hr:int2 op k a b=some d):IOp P O N o S (S.set t d) :=
 gC hd ht fun E β ac hrel=>by
  have h1:=iH (hx.rd hrel)
  have h2:=iH (hy.rd hrel)
  obtain ⟨v,h3,h4⟩:=aGB (P:=P) hr xt E.w E β
  refine ⟨v,?_,h4⟩
  simp only [execOp,ho,h1,h2,eqGuard]
  simp [h3]

theorem aAM (d:Nat) {T:TypeId} (a b:Bool) (hu:P.underlying T=some .bool) (w:World):(Op.equalIn (d+1) T (.bool a) (.bool b)).run P w = .ok (a == b) w:=by
 simp [Op.equalIn,run_underlying hu]

theorem aCZ {op:BinOp} {xt yt:TypeId} {x y:Operand} {a b c:Bool} (ho:o.op = .binOp op xt x y yt) (hd:o.dst=some t) (ht:t<N) (hu:P.underlying xt=some .bool)
 (hx:SV S x (.bool a)) (hy:SV S y (.bool b)) (hr:(op = .eql∧c=(a == b))∨(op = .neq∧c = !(a == b))):IOp P O N o S (S.set t (.bool c)) :=
 gC hd ht fun E β ac hrel=>by
  have h1:=zD (hx.rd hrel)
  have h2:=zD (hy.rd hrel)
  refine ⟨.bool c,?_,.bool _ _⟩
  have he:=aAM (P:=P) 9999 a b hu E.w
  rcases hr with ⟨rfl,rfl⟩ | ⟨rfl,rfl⟩ <;> simp only [execOp,ho,h1,h2,eqGuard,binOp,Op.equal,Op.maxDepth] <;> simp [he]

theorem cV {xt:TypeId} {x:Operand} {a:Bool} (ho:o.op = .unOp .not xt x) (hd:o.dst=some t) (ht:t<N) (hx:SV S x (.bool a)):IOp P O N o S (S.set t (.bool !a)) :=
 gC hd ht fun E β ac hrel=>⟨.bool !a,by simp [execOp,ho,zD (hx.rd hrel),Op.unary],.bool _ _⟩
theorem yQ {c x y:Operand} {b:Bool} {d:D} (ho:o.op = .pick c x y) (hd:o.dst=some t) (ht:t<N) (hc:SV S c (.bool b)) (hx:b=true→SV S x d) (hy:b=false→SV S y d):IOp P O N o S (S.set t d) :=
 gC hd ht fun E β ac hrel=>by
  have h1:=zD (hc.rd hrel)
  cases b with
  | true=>exact ⟨ac.eval x,by simp [execOp,ho,h1,asBool],(hx rfl).rd hrel⟩
  | false=>exact ⟨ac.eval y,by simp [execOp,ho,h1,asBool],(hy rfl).rd hrel⟩

theorem iop_and {c x y:Operand} {b z:Bool} (ho:o.op = .pick c x y) (hd:o.dst=some t) (ht:t<N) (hc:SV S c (.bool b)) (hx:S.op x = .cnd (b == true) (.bool z)) (hy:S.op y = .bool false):IOp P O N o S (S.set t (.bool (b&&z))) :=
 yQ ho hd ht hc (fun h=>by subst h; simpa using svc hx rfl) (fun h=>by subst h; simpa using sv hy)
theorem iop_or {c x y:Operand} {b z:Bool} (ho:o.op = .pick c x y) (hd:o.dst=some t) (ht:t<N) (hc:SV S c (.bool b)) (hx:S.op x = .bool true) (hy:S.op y = .cnd (b == false) (.bool z)):IOp P O N o S (S.set t (.bool (b||z))) :=
 yQ ho hd ht hc (fun h=>by subst h; simpa using sv hx) (fun h=>by subst h; simpa using svc hy rfl)
theorem aGA {c x y:Operand} {b z g:Bool} (ho:o.op = .pick c x y) (hd:o.dst=some t) (ht:t<N) (hg:g=true) (hc:SV S c (.bool b)) (hx:S.op x = .cnd (g&&(b == true)) (.bool z)) (hy:S.op y = .bool false):IOp P O N o S (S.set t (.bool (b&&z))) :=
 yQ ho hd ht hc (fun h=>by subst h; subst hg; simpa using svc hx rfl) (fun h=>by subst h; simpa using sv hy)
theorem iop_or2 {c x y:Operand} {b z g:Bool} (ho:o.op = .pick c x y) (hd:o.dst=some t) (ht:t<N) (hg:g=true) (hc:SV S c (.bool b)) (hx:S.op x = .bool true) (hy:S.op y = .cnd (g&&(b == false)) (.bool z)):IOp P O N o S (S.set t (.bool (b||z))) :=
 yQ ho hd ht hc (fun h=>by subst h; simpa using sv hx) (fun h=>by subst h; subst hg; simpa using svc hy rfl)

theorem aAI {st dt:TypeId} {x:Operand} {k k':IntKind} {a b:Int} (ho:o.op = .convert st dt x) (hd:o.dst=some t) (ht:t<N) (hs:∃ u,P.underlying st=some u) (hu:P.underlying dt=some (.int k')) (hx:SV S x (.int k a)) (hb:k'.wrap a=b) :
 IOp P O N o S (S.set t (.int k' b)) :=
 gC hd ht fun E β ac hrel=>by
  obtain ⟨u,hs⟩:=hs
  refine ⟨.int k' b,?_,.int _ _ _⟩
  subst hb
  cases u <;> simp [execOp,ho,iH (hx.rd hrel),convert,run_underlying hs,run_underlying hu,Conv.intToInt]

end
end Go.IL
namespace Go.IL

def aFi (O:cT) (E:Env) (β:cH) (b:Nat):Ent→Prop
 | .none | .fresh=>False
 | .blk e ds=>∃ vs sp,E.w.heap[b]? = some (.cells (List.toArray (vs++sp)) e (0,0))∧(∀ o,E.X b o)∧RdL E β vs ds
 | .tail e sz n=>∃ c,E.w.heap[b]? = some (.cells c e (0,0))∧∀ o,n*sz≤o→E.X b o
 | .loop lk ds st pend=>∃ r,E.w.heap[b]? = some (.loop r)∧(∀ o,E.X b o)∧r.params=(O.lc lk).1∧r.assign=(O.lc lk).2.1∧r.body=(O.lc lk).2.2∧r.state=st∧r.pending=pend∧O.lv lk=b∧RdL E β r.tmps.toList ds
 | .kept ..=>False

theorem aFi.at {O:cT} {E:Env} {β:cH} {b id:Nat} {e:Ent} (h:aFi O E β b e) (hb:β id=some b) (ho:O.own b):aB6 O E β id e:=by
 cases e with
 | none=>exact h.elim
 | fresh=>exact h.elim
 | blk e ds=>obtain ⟨vs,sp,h1,h2,h3⟩:=h; exact .inr ⟨b,vs,sp,hb,ho,h1,h2,h3⟩
 | tail e sz n=>obtain ⟨c,h1,h2⟩:=h; exact .inr ⟨b,c,hb,ho,h1,h2⟩
 | loop lk ds st pend=>obtain ⟨r,h1,h2⟩:=h; exact ⟨b,r,hb,ho,h1,h2⟩
 | kept k ds=>exact h.elim

theorem sD {O:cT} {E:Env} {β:cH} {id b:Nat} {e:TypeId} {ds:List D} (h:aB6 O E β id (.blk e ds)) (hb:β id=some b) :
 ∃ vs sp,O.own b∧E.w.heap[b]? = some (.cells (List.toArray (vs++sp)) e (0,0))∧(∀ o,E.X b o)∧RdL E β vs ds:=by
 rcases h with ⟨h1,_⟩ | ⟨b',vs,sp,h1,h2,h3,h4,h5⟩
 · rw [hb] at h1; cases h1
 · rw [hb] at h1; cases h1; exact ⟨vs,sp,h2,h3,h4,h5⟩

structure Step (O:cT) (E E':Env) (b:Nat):Prop where
 os:E'.w.os=E.w.os
 tape:E'.w.tape=E.w.tape
 output:E'.w.output=E.w.output
 size:E.w.heap.size≤E'.w.heap.size
 lt:b<E'.w.heap.size
 own:O.own b
 block:∀ k,k<E.w.heap.size→k≠b→E'.w.heap[k]? = E.w.heap[k]?
 X:∀ k o,k≠b→(E'.X k o↔E.X k o)
 dfr:∀ ds,E.w.heap[b]? ≠ some (.deferred ds)

theorem World.cell_block {w w':World} {b o:Nat} (h:w'.heap[b]? = w.heap[b]?):w'.cell? ⟨b,o,none⟩=w.cell? ⟨b,o,none⟩:=by
 simp [World.cell?,h]

theorem dQ {w:World} {b:Nat} {o:Obj} (h:w.heap[b]? = some o):b<w.heap.size:=(Array.getElem?_eq_some_iff.1 h).1

theorem Step.le {O:cT} {E E':Env} {b:Nat} (h:Step O E E' b)
 (hc:∀ o v,E.w.cell? ⟨b,o,none⟩=some v→¬ E.X b o→E'.w.cell? ⟨b,o,none⟩=some v∧¬ E'.X b o)
 (hz:∀ (c:Array Value) (e:TypeId) (f:Nat×Nat),E.w.heap[b]? = some (Obj.cells c e f)→∃ (c':Array Value) (f':Nat×Nat),E'.w.heap[b]? = some (Obj.cells c' e f')∧c'.size=c.size):E.le E':=by
 constructor
 · intro k o v h1 h2
   by_cases hk:k=b
   · subst hk; exact hc o v h1 h2
   · have hlt:k<E.w.heap.size:=World.block_lt_of_cell? _ _ h1
     exact ⟨(World.cell_block (h.block k hlt hk)).trans h1,fun h3=>h2 ((h.X k o hk).1 h3)⟩
 · intro k c e f h1
   by_cases hk:k=b
   · subst hk; exact hz c e f h1
   · exact ⟨c,f,(h.block k (dQ h1) hk).trans h1,rfl⟩

theorem tJ.step {O:cT} {E E':Env} {b:Nat} {ds:List Deferred} (h:tJ O E ds) (hs:Step O E E' b):tJ O E' ds:=h.mono fun k h1=>by
 by_cases hk:k=b
 · subst hk; exact absurd h1 (hs.dfr _)
 · exact (hs.block k (dQ h1) hk).trans h1
theorem HOk.nodef {O:cT} {E:Env} {β:cH} {H:Nat→Ent} (h:HOk O E β H) {j b:Nat} (hh:(H j).held=true) (hb:β j=some b) (ds:Option (List Deferred)):E.w.heap[b]? ≠ some (.deferred ds):=by
 intro hx
 have he:=h.ent j
 cases hH:H j with
 | none=>rw [hH] at hh; cases hh
 | fresh=>rw [hH] at hh; cases hh
 | kept k ds=>rw [hH] at hh; cases hh
 | blk e ds =>
   rw [hH] at he
   rcases he with ⟨h3,_⟩ | ⟨k,vs,sp,h3,_,h5,_⟩
   · rw [hb] at h3; cases h3
   · rw [hb] at h3; cases h3; rw [hx] at h5; cases h5
 | tail e sz n =>
   rw [hH] at he
   rcases he with ⟨h3,_⟩ | ⟨k,c,h3,_,h5,_⟩
   · rw [hb] at h3; cases h3
   · rw [hb] at h3; cases h3; rw [hx] at h5; cases h5
 | loop lk ds st pend =>
   rw [hH] at he
   obtain ⟨k,r,h3,_,h5,_⟩:=he
   rw [hb] at h3; cases h3; rw [hx] at h5; cases h5
theorem HOk.own {O:cT} {E:Env} {β:cH} {H:Nat→Ent} (h:HOk O E β H) {j b:Nat} (hh:(H j).held=true) (hb:β j=some b):O.own b:=by
 have he:=h.ent j
 cases hH:H j with
 | none=>rw [hH] at hh; cases hh
 | fresh=>rw [hH] at hh; cases hh
 | kept k ds=>rw [hH] at hh; cases hh
 | blk e ds=>rw [hH] at he; obtain ⟨_,_,g2,_⟩:=sD he hb; exact g2
 | tail e sz n =>
   rw [hH] at he
   rcases he with ⟨h3,_⟩ | ⟨k,c,h3,h4,_⟩
   · rw [hb] at h3; cases h3
   · rw [hb] at h3; cases h3; exact h4
 | loop lk ds st pend =>
   rw [hH] at he
   obtain ⟨k,r,h3,h4,_⟩:=he
   rw [hb] at h3; cases h3; exact h4
theorem HOk.lt {O:cT} {E:Env} {β:cH} {H:Nat→Ent} (h:HOk O E β H) {j b:Nat} (hh:(H j).held=true) (hb:β j=some b):b<E.w.heap.size:=by
 have he:=h.ent j
 cases hH:H j with
 | none=>rw [hH] at hh; cases hh
 | fresh=>rw [hH] at hh; cases hh
 | kept k ds=>rw [hH] at hh; cases hh
 | blk e ds =>
   rw [hH] at he
   rcases he with ⟨h3,_⟩ | ⟨k,vs,sp,h3,_,h5,_⟩
   · rw [hb] at h3; cases h3
   · rw [hb] at h3; cases h3; exact dQ h5
 | tail e sz n =>
   rw [hH] at he
   rcases he with ⟨h3,_⟩ | ⟨k,c,h3,_,h5,_⟩
   · rw [hb] at h3; cases h3
   · rw [hb] at h3; cases h3; exact dQ h5
 | loop lk ds st pend =>
   rw [hH] at he
   obtain ⟨k,r,h3,_,h5,_⟩:=he
   rw [hb] at h3; cases h3; exact dQ h5

theorem HOk.put {O:cT} {E E':Env} {β β':cH} {H H':Nat→Ent} {b id:Nat} (h:HOk O E β H) (hs:Step O E E' b) (hle:E.le E') (hβ:β.le β')
 (hother:∀ j,j≠id→(H' j=H j∧(β' j=β j))∨H' j = .none)
 (hapart:∀ j,j≠id→(H' j).held=true→β j≠some b)
 (hid:β' id=some b) (hent:aFi O E' β' b (H' id)) (_hx:∀ o,E'.X b o→True):HOk O E' β' H' where
 os:=hs.os.trans h.os
 tab:=h.tab
 tape:=hs.tape.trans h.tape
 output:=hs.output.trans h.output
 size:=Nat.le_trans h.size hs.size
 block k hk hf:=by
  have hne:k≠b:=by
   rintro rfl
   rcases hs.own with h1 | h1
   · omega
   · exact hf h1
  exact (hs.block k (by have:=h.size; omega) hne).trans (h.block k hk hf)
 xlt k o hX:=by
  by_cases hk:k=b
  · subst hk; exact hs.lt
  · exact Nat.lt_of_lt_of_le (h.xlt k o ((hs.X k o hk).1 hX)) hs.size
 xold k o hk hf:=by
  have hne:k≠b:=by
   rintro rfl
   rcases hs.own with h1 | h1
   · omega
   · exact hf h1
  exact (hs.X k o hne).trans (h.xold k o hk hf)
 ent j := by
  by_cases hj:j=id
  · subst hj; exact hent.at hid hs.own
  · rcases hother j hj with ⟨h1,h2⟩ | h1
    · have hap:=hapart j hj
      rw [h1] at hap ⊢
      have he:=h.ent j
      cases hH:H j with
      | none=>trivial
      | fresh=>rw [hH] at he; exact h2.trans he
      | blk e ds =>
        rw [hH] at he hap
        rcases he with ⟨h3,h4⟩ | ⟨k,vs,sp,h3,h4,h5,h6,h7⟩
        · exact .inl ⟨h2.trans h3,h4⟩
        · have hne:k≠b:=fun e=>hap rfl (e ▸ h3)
          exact .inr ⟨k,vs,sp,h2.trans h3,h4,(hs.block k (dQ h5) hne).trans h5,fun o=>(hs.X k o hne).2 (h6 o),RdL.mono hle hβ h7⟩
      | tail e sz n =>
        rw [hH] at he hap
        rcases he with ⟨h3,h4⟩ | ⟨k,c,h3,h4,h5,h6⟩
        · exact .inl ⟨h2.trans h3,h4⟩
        · have hne:k≠b:=fun e=>hap rfl (e ▸ h3)
          exact .inr ⟨k,c,h2.trans h3,h4,(hs.block k (dQ h5) hne).trans h5,fun o ho=>(hs.X k o hne).2 (h6 o ho)⟩
      | loop lk ds st pend =>
        rw [hH] at he hap
        obtain ⟨k,r,h3,h4,h5,h6,h7,h8,h9,h10,h11,h12⟩:=he
        have hne:k≠b:=fun e=>hap rfl (e ▸ h3)
        exact ⟨k,r,h2.trans h3,h4,(hs.block k (dQ h5) hne).trans h5,fun o=>(hs.X k o hne).2 (h6 o),h7,h8,h9,h10,h11,h12.1,RdL.mono hle hβ h12.2⟩
      | kept n ds =>
        rw [hH] at he
        refine ⟨RdL.mono hle hβ he.1,fun c hc=>?_⟩
        have h5:=he.2 c hc
        by_cases hcb:c=b
        · subst hcb; exact absurd h5 (hs.dfr _)
        · exact (hs.block c (dQ h5) hcb).trans h5
    · rw [h1]; trivial
 le:=h.le.trans hle
 gid:=h.gid
 given i b hi:=hβ _ _ (h.given i b hi)
 inj i j k hi hj h1 h2:=by
  by_cases hii:i=id
  · by_cases hjj:j=id
    · rw [hii,hjj]
    · subst hii
      have:k=b:=by rw [hid] at h1; exact (Option.some.inj h1).symm
      subst this
      have hap:=hapart j hjj hj
      rcases hother j hjj with ⟨_,h4⟩ | h3
      · exact absurd (h4 ▸ h2) hap
      · rw [h3] at hj; cases hj
  · by_cases hjj:j=id
    · subst hjj
      have:k=b:=by rw [hid] at h2; exact (Option.some.inj h2).symm
      subst this
      have hap:=hapart i hii hi
      rcases hother i hii with ⟨_,h4⟩ | h3
      · exact absurd (h4 ▸ h1) hap
      · rw [h3] at hi; cases hi
    · rcases hother i hii with ⟨h3,h4⟩ | h3
      · rcases hother j hjj with ⟨h5,h6⟩ | h5
        · exact h.inj i j k (h3 ▸ hi) (h5 ▸ hj) (h4 ▸ h1) (h6 ▸ h2)
        · rw [h5] at hj; cases hj
      · rw [h3] at hi; cases hi

end Go.IL
namespace Go.IL

def D.boxable:D→Bool
 | .dead | .tuple _ | .cnd _ _=>false
 | _=>true

theorem iO (b off k:Nat):(⟨b,off,none⟩:Addr).add k=⟨b,off+k,none⟩:=by
 unfold Addr.add; split
 · rename_i h; subst h; rfl
 · rfl

theorem vF {E:Env} {β:cH} {v:Value} {d:D} (h:Rd E β v d) (hb:d.boxable=true):RdL E β v.cells.toList d.cells:=by
 cases h with
 | dead=>cases hb
 | tuple=>cases hb
 | cnd=>cases hb
 | agg _ vs cs h=>simpa [Value.cells,D.cells] using h
 | _ =>
   simp only [Value.cells,D.cells]
   refine .cons ?_ (.nil _)
   constructor <;> assumption

theorem RdL.length {E:Env} {β:cH}:∀ {vs:List Value} {ds:List D},RdL E β vs ds→vs.length=ds.length
 | _,_,.nil _=>rfl
 | _,_,.cons _ t=>by simp [RdL.length t]
theorem RdL.append {E:Env} {β:cH} {vs us:List Value} {ds es:List D} (h:RdL E β vs ds) (k:RdL E β us es):RdL E β (vs++us) (ds++es):=by
 induction vs generalizing ds with
 | nil=>cases h; exact k
 | cons v vs ih=>cases h with | cons h t=>exact .cons h (ih t)
theorem RdL.take {E:Env} {β:cH} (n:Nat):∀ {vs:List Value} {ds:List D},RdL E β vs ds→RdL E β (vs.take n) (ds.take n):=by
 induction n with
 | zero=>intro vs ds _; simpa using RdL.nil β
 | succ n ih=>intro vs ds h; cases h with
   | nil=>simpa using RdL.nil β
   | cons h t=>simpa using RdL.cons h (ih t)
theorem RdL.drop {E:Env} {β:cH} (n:Nat):∀ {vs:List Value} {ds:List D},RdL E β vs ds→RdL E β (vs.drop n) (ds.drop n):=by
 induction n with
 | zero=>intro vs ds h; simpa using h
 | succ n ih=>intro vs ds h; cases h with
   | nil=>simpa using RdL.nil β
   | cons h t=>simpa using ih t
theorem RdL.get {E:Env} {β:cH}:∀ {vs:List Value} {ds:List D} (n:Nat) {v:Value} {d:D},RdL E β vs ds→vs[n]? = some v→ds[n]? = some d→Rd E β v d
 | _,_,n,_,_,.nil _,h,_=>by simp at h
 | _,_,0,_,_,.cons h _,h1,h2=>by simp at h1 h2; subst h1; subst h2; exact h
 | _,_,n+1,_,_,.cons _ t,h1,h2=>RdL.get n t (by simpa using h1) (by simpa using h2)
theorem RdL.split {E:Env} {β:cH}:∀ {ds es:List D} {vs:List Value},RdL E β vs (ds++es)→∃ us ws,vs=us++ws∧RdL E β us ds∧RdL E β ws es
 | [],_,vs,h=>⟨[],vs,rfl,.nil _,h⟩
 | _::ds,es,_,.cons h t=>let ⟨us,ws,h1,h2,h3⟩:=RdL.split (ds:=ds) t; ⟨_::us,ws,by rw [h1]; rfl,.cons h h2,h3⟩

def D.one:D→Bool
 | .agg _=>false
 | d=>d.boxable
theorem rd_one {E:Env} {β:cH} {v:Value} {d:D} (h:Rd E β v d) (ho:d.one=true):v.oneCell'=true:=by
 cases h <;> first | rfl | (simp [D.one,D.boxable] at ho)
theorem zC {E:Env} {β:cH}:∀ {vs:List Value} {ds:List D},RdL E β vs ds→ds.all D.one=true→∀ v∈vs,v.oneCell'=true
 | _,_,.nil _,_,v,hv=>by cases hv
 | _,_,.cons h t,ho,v,hv=>by
   simp only [List.all_cons,Bool.and_eq_true] at ho
   cases hv with
   | head=>exact rd_one h ho.1
   | tail _ hv=>exact zC t ho.2 v hv

def TI (P:Program) (t:TypeId) (z:Option Value) (size bytes:Nat):Prop:=(P.info? t).map (fun i=>(i.zero,i.size,i.bytes))=some (z,size,bytes)
theorem TI.at {P:Program} {t:TypeId} {z:Option Value} {size bytes:Nat} (h:TI P t z size bytes):∃ i,P.info? t=some i∧i.zero=z∧i.size=size∧i.bytes=bytes:=by
 unfold TI at h
 cases hi:P.info? t with
 | none=>simp [hi] at h
 | some i=>simp [hi] at h; exact ⟨i,rfl,h.1,h.2.1,h.2.2⟩
theorem TI.run_size {P:Program} {t:TypeId} {z:Option Value} {size bytes:Nat} (h:TI P t z size bytes) (w:World):(sizeOf t).run P w = .ok size w:=by
 obtain ⟨i,hi,_,hs,_⟩:=h.at
 simp [sizeOf,typeInfo,hi,hs]

section
variable {P:Program} {O:cT} {N:Nat} {S S':St} {o:Oper} {t:Nat}

theorem aE6 {e:TypeId} {id:Nat} {ds:List D} (hd:o.dst=some t) (ht:t<N) (hf:S.ent id = .fresh)
 (h:∀ E β a,Rel O N S E β a→∃ vs:List Value,(execOp a.eval o).run P E.w = .ok (.value (.pointer (some ⟨E.w.heap.size,0,none⟩))) (E.w.alloc (.cells vs.toArray e))∧RdL E β vs ds) :
 IOp P O N o S ((S.setE id (.blk e ds)).set t (.ref id 0)):=by
 intro E β a hr next Q hn
 obtain ⟨vs,hrun,hv⟩:=h E β a hr
 unfold Oper.wp
 rw [hrun]
 simp only [Oper.upon,hd]
 have hfr:β id=none:=by have:=hr.h.ent id; rw [hf] at this; exact this
 let E':Env:=⟨E.w.alloc (.cells vs.toArray e),fun b o=>b=E.w.heap.size∨E.X b o⟩
 let β':cH:=fun j=>if j=id then some E.w.heap.size else β j
 have hβ:β.le β':=fun j b hj=>by
  by_cases hji:j=id
  · subst hji; rw [hfr] at hj; cases hj
  · simp [β',hji,hj]
 have hs:Step O E E' E.w.heap.size :=
  ⟨rfl,rfl,rfl,by simp [E'],by simp [E'],.inl hr.h.size,fun k hk _=>heap_alloc_old _ _ hk,fun k o hk=>by simp [E',hk],fun _ h=>Nat.lt_irrefl _ (dQ h)⟩
 have hle:E.le E':=hs.le (fun o v h1 _=>by have:=World.block_lt_of_cell? _ _ h1; simp at this) (fun c e f h1=>by have:=dQ h1; simp at this)
 refine hn E' β' _ ⟨by simp [Act.put,hr.n],hr.nd.step hs,?_,?_⟩
 · refine HOk.put hr.h hs hle hβ ?_ ?_ (id:=id) (by simp [β']) ?_ (fun _ _=>trivial)
   · intro j hj; left; constructor
     · simp [St.ent,entL,St.setE,St.set,bB,Ne.symm hj]
     · simp [β',hj]
   · intro j hj hheld hb
     have:(S.ent j).held=true:=by simpa [St.ent,entL,St.setE,St.set,bB,Ne.symm hj] using hheld
     exact Nat.lt_irrefl _ (hr.h.lt this hb)
   · simp only [St.ent,entL,St.setE,St.set,bB,if_true]
     exact ⟨vs,[],by rw [List.append_nil]; exact heap_alloc_new _ _,fun o=>.inl rfl,RdL.mono hle hβ hv⟩
 · intro s
   have hts:t<a.tmps.size:=hr.n ▸ ht
   by_cases hst:t=s
   · subst hst
     simp only [Act.put,St.get,St.set,bB,if_true,Array.getD_eq_getD_getElem?,Array.getElem?_setIfInBounds_self,hts,Option.getD_some]
     exact .ref _ _ _ _ (by simp [β'])
   · have:=Rd.mono hle hβ (hr.sl s)
     simpa [Act.put,St.get,St.set,St.setE,bB,hst,Array.getElem?_setIfInBounds_ne] using this

theorem iop_box {e:TypeId} {x:Operand} {d:D} (id:Nat) (ho:o.op = .box e x) (hd:o.dst=some t) (ht:t<N) (hf:S.ent id = .fresh) (hx:SV S x d) (hb:d.boxable=true) :
 IOp P O N o S ((S.setE id (.blk e d.cells)).set t (.ref id 0)) :=
 aE6 hd ht hf fun E β a hr=>⟨(a.eval x).cells.toList,by simp [execOp,ho,Instr.box,newVar,newRow],vF (hx.rd hr) hb⟩

theorem aFB {e:TypeId} {z:Value} {size bytes:Nat} (id:Nat) (ho:o.op = .alloc e) (hd:o.dst=some t) (ht:t<N) (hf:S.ent id = .fresh) (hz:TI P e (some z) size bytes) (hb:(D.ofVal z).boxable=true) :
 IOp P O N o S ((S.setE id (.blk e (D.ofVal z).cells)).set t (.ref id 0)) :=
 aE6 hd ht hf fun E β a hr=>by
  obtain ⟨i,hi,hz,_⟩:=hz.at
  exact ⟨z.cells.toList,by simp [execOp,ho,Instr.alloc,zeroValue,typeInfo,hi,hz,newVar,newRow],vF (aAT E β z) hb⟩

theorem zZ {w:World} {b off n:Nat} {vs:List Value} {e:TypeId} {f:Nat×Nat} (h:w.heap[b]? = some (.cells vs.toArray e f)) (hn:off+n≤vs.length) :
 (loadCells ⟨b,off,none⟩ n).run P w = .ok ((vs.drop off).take n).toArray w:=by
 have:=run_loadCells_list (P:=P) w ⟨b,off,none⟩ ((vs.drop off).take n) (fun j v hj=>by
  rw [iO,cell_of_row w b _ _ e f h]
  rw [List.getElem?_take] at hj
  split at hj
  · simpa [List.getElem?_drop] using hj
  · cases hj)
 rw [List.length_take,List.length_drop,Nat.min_eq_left (by omega)] at this
 exact this

def gH (P:Program) (T:TypeId):Bool:=match P.underlying T with | some (.struct _) | some (.array _ _)=>true | _=>false
theorem qD {T:TypeId} {u:TypeDesc} (h:P.underlying T=some u) (w:World):(isAgg T).run P w = .ok (gH P T) w:=by
 simp only [isAgg,Sem.run_bind,run_underlying h,Result.andThen_ok,gH,h]
 cases u <;> rfl

def D.load (agg:Bool) (n:Nat) (cs:List D):D:=if agg then .agg (cs.take n) else cs.headD .dead

theorem yX {α:Type} {vs sp:List α} {off n:Nat} (h:off+n≤vs.length):((vs++sp).drop off).take n=(vs.drop off).take n:=by
 rw [List.drop_append_of_le_length (by omega),List.take_append_of_le_length (by simp; omega)]

theorem aAH {T:TypeId} {x:Operand} {u:TypeDesc} {z:Option Value} {size bytes:Nat} {id off:Nat} {e:TypeId} {ds:List D} {d:D} (ho:o.op = .load T x) (hd:o.dst=some t) (ht:t<N)
 (hu:P.underlying T=some u) (hi:TI P T z size bytes) (hx:SV S x (.ref id off)) (he:S.ent id = .blk e ds) (hn:off+size≤ds.length) (h1:0<size)
 (hdd:D.load (gH P T) size (ds.drop off)=d):IOp P O N o S (S.set t d) :=
 gC hd ht fun E β a hr=>by
  have hv:=hx.rd hr
  have hent:=hr.h.ent id
  rw [he] at hent
  generalize hev:a.eval x=v at hv
  cases hv with
  | ref _ _ _ b' hb' =>
    obtain ⟨vs,sp,_,hh,_,hl⟩:=sD hent hb'
    have hb:=hb'
    have hlen:=hl.length
    subst hdd
    simp only [D.load]
    cases hag:gH P T with
    | true =>
      refine ⟨.agg ((vs.drop off).take size).toArray,?_,?_⟩
      · have hlc:=zZ (P:=P) hh (show off+size≤(vs++sp).length by simp; omega)
        rw [yX (by omega)] at hlc
        simp [execOp,ho,hev,Instr.loadAt,Instr.sureAddr,loadVar,qD hu,hag,hi.run_size,hlc]
      · exact .agg _ _ _ ((hl.drop off).take size)
    | false =>
      have hlt:off<vs.length:=by omega
      have hcell:E.w.cell? ⟨b',off,none⟩=some vs[off]:=by rw [cell_of_row _ _ _ _ _ _ hh]; simp [List.getElem?_append_left,hlt]
      refine ⟨vs[off],?_,?_⟩
      · simp [execOp,ho,hev,Instr.loadAt,Instr.sureAddr,loadVar,qD hu,hag,hcell]
      · have hlt':off<ds.length:=by omega
        have:=hl.get off (v:=vs[off]) (d:=ds[off]) (by simp [hlt]) (by simp [hlt'])
        simpa [List.headD_eq_head?_getD,List.head?_drop,hlt'] using this

theorem yR {T:TypeId} {x:Operand} {u:TypeDesc} {z:Option Value} {size bytes:Nat} {cs:List D} {d:D} (ho:o.op = .load T x) (hd:o.dst=some t) (ht:t<N)
 (hu:P.underlying T=some u) (hi:TI P T z size bytes) (hx:SV S x (.fptr cs)) (hn:size≤cs.length) (h1:0<size)
 (hdd:D.load (gH P T) size cs=d):IOp P O N o S (S.set t d) :=
 gC hd ht fun E β a hr=>by
  have hv:=hx.rd hr
  generalize hev:a.eval x=v at hv
  cases hv with
  | fptr _ b off vs _ hrow hl =>
    have hlen:=hl.length
    subst hdd
    simp only [D.load]
    cases hag:gH P T with
    | true =>
      refine ⟨.agg (vs.take size).toArray,?_,?_⟩
      · have:=run_loadCells_list (P:=P) E.w ⟨b,off,none⟩ (vs.take size) (fun j v hj=>by
         rw [iO]
         rw [List.getElem?_take] at hj
         split at hj
         · exact (hrow j v hj).1
         · cases hj)
        rw [List.length_take,Nat.min_eq_left (by omega)] at this
        simp [execOp,ho,hev,Instr.loadAt,Instr.sureAddr,loadVar,qD hu,hag,hi.run_size,this]
      · exact .agg _ _ _ (RdL.mono (Env.le.refl _) (fun _ _ h=>by cases h) (hl.take size))
    | false =>
      have hlt:0<vs.length:=by omega
      have hcell:=(hrow 0 vs[0] (by simp [hlt])).1
      refine ⟨vs[0],?_,?_⟩
      · simp only [Nat.add_zero] at hcell
        simp [execOp,ho,hev,Instr.loadAt,Instr.sureAddr,loadVar,qD hu,hag,hcell]
      · have hlt':0<cs.length:=by omega
        have:=RdL.mono (β':=β) (Env.le.refl E) (fun _ _ h=>by cases h) hl
        have:=this.get 0 (v:=vs[0]) (d:=cs[0]) (by simp [hlt]) (by simp [hlt'])
        simpa [List.headD_eq_head?_getD,List.head?_eq_getElem?,hlt'] using this

def fS (ds:List D) (off:Nat) (new:List D):List D:=ds.take off++new++ds.drop (off+new.length)

theorem aBp {T:TypeId} {x y:Operand} {z:Option Value} {size bytes:Nat} {id off:Nat} {e:TypeId} {ds ds':List D} {d:D} (ho:o.op = .store T x y) (hd:o.dst=none)
 (hi:TI P T z size bytes) (hx:SV S x (.ref id off)) (he:S.ent id = .blk e ds) (hy:SV S y d) (hb:d.boxable=true) (hsz:d.cells.length=size) (h1:d.cells.all D.one=true)
 (hn:off+size≤ds.length) (hds:fS ds off d.cells=ds'):IOp P O N o S (S.setE id (.blk e ds')):=by
 intro E β a hr next Q hn'
 have hv:=hx.rd hr
 have hent:=hr.h.ent id
 rw [he] at hent
 generalize hev:a.eval x=v at hv
 cases hv with
 | ref _ _ _ b hβb =>
   obtain ⟨vs,sp,hown,hh,hX,hl⟩:=sD hent hβb
   have hc:=vF (hy.rd hr) hb
   generalize hu:(a.eval y).cells.toList=us at hc
   have hus:(a.eval y).cells=us.toArray:=by rw [←hu]
   have hlu:us.length=size:=by rw [hc.length,hsz]
   have hlen:=hl.length
   have hst:=run_storeCells_at P b off e us 0 (vs++sp).toArray E.w hh (by simp; omega) (zC hc h1)
   simp only [Nat.add_zero] at hst
   unfold Oper.wp
   have hrun:(execOp a.eval o).run P E.w = .ok .skip (E.w.setRow b ((vs.take off++us++vs.drop (off+us.length))++sp).toArray):=by
    simp [execOp,ho,hev,Instr.storeAt,Instr.sureAddr,storeVar,hus,hi.run_size,hlu]
    have h5:=hst
    have e1:(vs++sp).take off=vs.take off:=List.take_append_of_le_length (by omega)
    have e2:(vs++sp).drop (off+size)=vs.drop (off+size)++sp:=List.drop_append_of_le_length (by omega)
    simp only [hlu] at h5
    rw [e1,e2] at h5
    simp at h5
    simp [h5]
   rw [hrun]
   simp only [Oper.upon,hd,Act.put]
   let E':Env:=⟨E.w.setRow b ((vs.take off++us++vs.drop (off+us.length))++sp).toArray,E.X⟩
   have hs:Step O E E' b:=⟨rfl,rfl,rfl,by simp [E'],by simpa [E'] using dQ hh,hown,fun k _ hk=>setRow_other _ _ _ _ hk,fun _ _ _=>Iff.rfl,fun _ h=>by first | (rw [hc] at h; cases h) | (rw [hh] at h; cases h)⟩
   have hle:E.le E':=hs.le (fun o v _ h2=>absurd (hX o) h2) (fun c e' f h3=>by
    rw [hh] at h3; cases h3
    exact ⟨_,_,setRow_heap _ _ _ _ _ _ hh,by simp; omega⟩)
   refine hn' E' β a ⟨hr.n,hr.nd.step hs,?_,fun s=>Rd.mono hle (cH.le.refl _) (hr.sl s)⟩
   refine HOk.put hr.h hs hle (cH.le.refl _) ?_ ?_ hβb ?_ (fun _ _=>trivial)
   · intro j hj; left; exact ⟨by simp [St.ent,entL,St.setE,bB,Ne.symm hj],rfl⟩
   · intro j hj hheld hbj
     have:(S.ent j).held=true:=by simpa [St.ent,entL,St.setE,bB,Ne.symm hj] using hheld
     exact hj (hr.h.inj j id b this (by rw [he]; rfl) hbj hβb)
   · simp only [St.ent,entL,St.setE,bB,if_true]
     refine ⟨_,sp,setRow_heap _ _ _ _ _ _ hh,hX,?_⟩
     rw [←hds,fS]
     have h4:us.length=d.cells.length:=hc.length
     rw [h4]
     exact RdL.mono hle (cH.le.refl _) (((hl.take off).append hc).append (hl.drop _))

end
end Go.IL
namespace Go.IL
section
variable {P:Program} {O:cT} {N:Nat} {S S':St} {o:Oper} {t:Nat}

theorem aDc {E:Env} {β:cH} {v:Value} {id off:Nat} (h:Rd E β v (.ref id off)):∃ b,β id=some b∧v = .pointer (some ⟨b,off,none⟩):=by
 cases h with | ref _ _ _ b hb=>exact ⟨b,hb,rfl⟩
theorem rd_fptr {E:Env} {β:cH} {v:Value} {cs:List D} (h:Rd E β v (.fptr cs)):∃ b off vs,v = .pointer (some ⟨b,off,none⟩)∧E.row b off vs∧RdL E β0 vs cs:=by
 cases h with | fptr _ b off vs _ h1 h2=>exact ⟨b,off,vs,rfl,h1,h2⟩
theorem rd_agg {E:Env} {β:cH} {v:Value} {cs:List D} (h:Rd E β v (.agg cs)):∃ vs:List Value,v = .agg vs.toArray∧RdL E β vs cs:=by
 cases h with | agg _ vs _ h=>exact ⟨vs,rfl,h⟩
theorem aFr {E:Env} {β:cH} {v:Value} {cs:List D} (h:Rd E β v (.tuple cs)):∃ vs:List Value,v = .tuple vs.toArray∧RdL E β vs cs:=by
 cases h with | tuple _ vs _ h=>exact ⟨vs,rfl,h⟩
theorem aFs {E:Env} {β:cH} {v:Value} {f:FuncId} {cs:List D} (h:Rd E β v (.fn f cs)):∃ vs:List Value,v = .func (.func f) #[] vs.toArray∧RdL E β vs cs:=by
 cases h with | fn _ _ vs _ h=>exact ⟨vs,rfl,h⟩
theorem RdL.up {E:Env} {β:cH} {vs:List Value} {ds:List D} (h:RdL E β0 vs ds):RdL E β vs ds:=RdL.mono (Env.le.refl _) (fun _ _ h=>by cases h) h
theorem Rd.up {E:Env} {β:cH} {v:Value} {d:D} (h:Rd E β0 v d):Rd E β v d:=Rd.mono (Env.le.refl _) (fun _ _ h=>by cases h) h

theorem dO {x:Operand} {id off:Nat} (ho:o.op = .nilCheck x) (hd:o.dst=some t) (ht:t<N) (hx:SV S x (.ref id off)):IOp P O N o S (S.set t (.ref id off)) :=
 gC hd ht fun E β a hr=>by
  obtain ⟨b,hb,hev⟩:=aDc (hx.rd hr)
  exact ⟨.pointer (some ⟨b,off,none⟩),by simp [execOp,ho,hev],.ref _ _ _ _ hb⟩
theorem aDQ (l:List UInt8):(bs l).size=l.length:=by simp [bs,ByteArray.size]

theorem rR {E:Env} {β:cH} {v:Value} {f:Bool} {l:List D} (h:Rd E β v (.slice f l)) :
 (v = .slice none 0 0∧l=[])∨(∃ b off cap sz vs,v = .slice (some ⟨b,off,none⟩) l.length cap∧l.length≤cap∧(f=true→cap=l.length)∧(∀ d∈l,d.cells.length=sz)∧0<sz∧E.row b off vs∧RdL E β0 vs (D.flat l))∨∃ ad cap,v = .slice (some ad) 0 cap∧l=[]:=by
 cases h with
 | slice _ b off len cap sz _ vs _ hl hc hf hz hsz hr hv=>subst hl; exact .inr (.inl ⟨b,off,cap,sz,vs,rfl,hc,hf,hz,hsz,hr,hv⟩)
 | nslice=>exact .inl ⟨rfl,rfl⟩
 | eslice _ ad cap _ _=>exact .inr (.inr ⟨ad,cap,rfl,rfl⟩)

theorem pW {sz:Nat}:∀ {l:List D},(∀ d∈l,d.cells.length=sz)→(D.flat l).length=l.length*sz
 | [],_=>by simp [D.flat]
 | d::l,h=>by
   have h1:=h d (by simp)
   have h2:=pW (l:=l) (fun d hd=>h d (by simp [hd]))
   simp only [D.flat,List.flatMap_cons,List.length_append,List.length_cons] at h2 ⊢
   rw [h1,h2,Nat.add_mul,Nat.one_mul,Nat.add_comm]

theorem aDN {sz:Nat}:∀ {l:List D} (_:∀ d∈l,d.cells.length=sz) (n:Nat) (d:D),l[n]? = some d→((D.flat l).drop (n*sz)).take sz=d.cells
 | [],_,n,d,h=>by simp at h
 | x::l,hz,0,d,h=>by
   simp at h; subst h
   have h1:=hz x (by simp)
   simp [D.flat,←h1]
 | x::l,hz,n+1,d,h=>by
   have h1:=hz x (by simp)
   have h2:=aDN (l:=l) (fun d hd=>hz d (by simp [hd])) n d (by simpa using h)
   simp only [D.flat,List.flatMap_cons] at h2 ⊢
   rw [Nat.add_mul,Nat.one_mul,Nat.add_comm,←h1,List.drop_length_add_append,h1]
   exact h2

theorem Env.row.drop {E:Env} {b off:Nat} {vs:List Value} (h:E.row b off vs) (n:Nat):E.row b (off+n) (vs.drop n):=fun k v hk=>by
 rw [Nat.add_assoc]; exact h (n+k) v (by simpa [List.getElem?_drop] using hk)
theorem Env.row.take {E:Env} {b off:Nat} {vs:List Value} (h:E.row b off vs) (n:Nat):E.row b off (vs.take n):=fun k v hk=>by
 rw [List.getElem?_take] at hk
 split at hk
 · exact h k v hk
 · cases hk

theorem aAr {T e:TypeId} {x y:Operand} {f:Bool} {l:List D} {k:IntKind} {n:Int} {z:Option Value} {size bytes:Nat} {d:D} {cs:List D} (ho:o.op = .indexAddr T x y) (hd:o.dst=some t) (ht:t<N)
 (hu:P.underlying T=some (.slice e)) (hi:TI P e z size bytes) (hx:SV S x (.slice f l)) (hy:SV S y (.int k n)) (h0:0≤n) (hn:l[n.toNat]? = some d) (hcs:d.cells=cs) (hsz:cs.length=size) :
 IOp P O N o S (S.set t (.fptr cs)) :=
 gC hd ht fun E β a hr=>by
  have hlt:n.toNat<l.length:=(List.getElem?_eq_some_iff.1 hn).1
  rcases rR (hx.rd hr) with ⟨_,rfl⟩ | ⟨b,off,cap,sz,vs,hev,hc,_,hz,hsp,hrow,hl⟩ | ⟨_,_,_,rfl⟩
  · simp at hlt
  rotate_left
  · simp at hlt
  · have hsz':sz=size:=by rw [←hsz,←hcs]; exact (hz d (List.mem_of_getElem? hn)).symm
    subst hsz'
    refine ⟨.pointer (some ⟨b,off+n.toNat*sz,none⟩),?_,?_⟩
    · have h1:=iH (hy.rd hr)
      have h2:n<(l.length:Int):=by omega
      simp [execOp,ho,hev,h1,Instr.indexAt,asIntOf,run_underlying hu,h0,h2,hi.run_size,iO]
    · rw [←hcs,←aDN hz n.toNat d hn]
      exact .fptr _ _ _ _ _ ((hrow.drop _).take _) ((hl.drop _).take _)

theorem aV {T:TypeId} {x:Operand} {i:Nat} {fs:Array Field} {F:Field} {z:Option Value} {size bytes:Nat} {id off:Nat} (ho:o.op = .fieldAddr T x i) (hd:o.dst=some t) (ht:t<N)
 (hu:P.underlying T=some (.struct fs)) (hf:fs[i]? = some F) (hi:TI P F.type z size bytes) (hs:0<size) (hx:SV S x (.ref id off)) {off':Nat} (ho':off+F.offset=off'):IOp P O N o S (S.set t (.ref id off')) :=
 gC hd ht fun E β a hr=>by
  obtain ⟨b,hb,hev⟩:=aDc (hx.rd hr)
  refine ⟨.pointer (some ⟨b,off',none⟩),?_,.ref _ _ _ _ hb⟩
  subst ho'
  have hne:¬ size=0:=by omega
  simp [execOp,ho,hev,Instr.fieldAt,run_underlying hu,hf,Instr.sureAddr,fieldPlace,hi.run_size,hne,iO]

theorem bG {T:TypeId} {x:Operand} {i:Nat} {fs:Array Field} {F:Field} {z:Option Value} {size bytes:Nat} {cs cs':List D} (ho:o.op = .fieldAddr T x i) (hd:o.dst=some t) (ht:t<N)
 (hu:P.underlying T=some (.struct fs)) (hf:fs[i]? = some F) (hi:TI P F.type z size bytes) (hs:0<size) (hx:SV S x (.fptr cs)) (hcs:(cs.drop F.offset).take size=cs'):IOp P O N o S (S.set t (.fptr cs')) :=
 gC hd ht fun E β a hr=>by
  obtain ⟨b,off,vs,hev,hrow,hl⟩:=rd_fptr (hx.rd hr)
  refine ⟨.pointer (some ⟨b,off+F.offset,none⟩),?_,?_⟩
  · have hne:¬ size=0:=by omega
    simp [execOp,ho,hev,Instr.fieldAt,run_underlying hu,hf,Instr.sureAddr,fieldPlace,hi.run_size,hne,iO]
  · rw [←hcs]; exact .fptr _ _ _ _ _ ((hrow.drop _).take _) ((hl.drop _).take _)

theorem nT {T e:TypeId} {len:Nat} {x y:Operand} {k:IntKind} {n:Int} {z:Option Value} {size bytes:Nat} {id off off':Nat} (ho:o.op = .indexAddr T x y) (hd:o.dst=some t) (ht:t<N)
 (hu:P.underlying T=some (.array len e)) (hi:TI P e z size bytes) (hx:SV S x (.ref id off)) (hy:SV S y (.int k n)) (h0:0≤n) (hn:n.toNat<len) (ho':off+n.toNat*size=off') :
 IOp P O N o S (S.set t (.ref id off')) :=
 gC hd ht fun E β a hr=>by
  obtain ⟨b,hb,hev⟩:=aDc (hx.rd hr)
  refine ⟨.pointer (some ⟨b,off',none⟩),?_,.ref _ _ _ _ hb⟩
  have h1:=iH (hy.rd hr)
  have h2:n<(len:Int):=by omega
  subst ho'
  simp [execOp,ho,hev,h1,Instr.indexAt,asIntOf,run_underlying hu,h0,h2,hi.run_size,iO,Instr.sureAddr]

theorem cF {T:TypeId} {x:Operand} {l:List UInt8} {n:Int} (ho:o.op = .call { callee:=.builtin .len,args:=#[x],argTypes:=#[T] }) (hd:o.dst=some t) (ht:t<N) (hu:P.underlying T=some .string)
 (hx:SV S x (.str l)) (hn:(l.length:Int)=n):IOp P O N o S (S.set t (.int .i64 n)) :=
 gC hd ht fun E β a hr=>⟨.int .i64 n,by
  subst hn
  simp [execOp,ho,resolve,invoke,builtin,Builtin.len_,run_underlying hu,aBF (hx.rd hr),goInt,aDQ],.int _ _ _⟩
theorem aBs {T e:TypeId} {x:Operand} {f:Bool} {l:List D} {n:Int} (ho:o.op = .call { callee:=.builtin .len,args:=#[x],argTypes:=#[T] }) (hd:o.dst=some t) (ht:t<N) (hu:P.underlying T=some (.slice e))
 (hx:SV S x (.slice f l)) (hn:(l.length:Int)=n):IOp P O N o S (S.set t (.int .i64 n)) :=
 gC hd ht fun E β a hr=>⟨.int .i64 n,by
  subst hn
  rcases rR (hx.rd hr) with ⟨hev,rfl⟩ | ⟨b,off,cap,sz,vs,hev,_⟩ | ⟨ad,cap,hev,rfl⟩ <;>
  simp [execOp,ho,resolve,invoke,builtin,Builtin.len_,run_underlying hu,hev,goInt],.int _ _ _⟩
theorem fE {x:Operand} {i:Nat} {cs:List D} {d:D} (ho:o.op = .extract x i) (hd:o.dst=some t) (ht:t<N) (hx:SV S x (.tuple cs)) (hc:cs[i]? = some d):IOp P O N o S (S.set t d) :=
 gC hd ht fun E β a hr=>by
  obtain ⟨vs,hev,hl⟩:=aFr (hx.rd hr)
  have hlt:i<vs.length:=by rw [hl.length]; exact (List.getElem?_eq_some_iff.1 hc).1
  refine ⟨vs[i],?_,hl.get i (by simp [hlt]) hc⟩
  simp [execOp,ho,hev,Instr.extract,hlt]

theorem aDW {T:TypeId} {u:TypeDesc} {z:Option Value} {size bytes:Nat} (hu:P.underlying T=some u) (hi:TI P T z size bytes) {E:Env} {β:cH} {vs:List Value} {cs:List D} (h:RdL E β vs cs) {off:Nat} (hn:off+size≤cs.length) (h1:0<size) (w:World) :
 ∃ v,(part T vs.toArray off).run P w = .ok v w∧Rd E β v (D.load (gH P T) size (cs.drop off)):=by
 have hlen:=h.length
 simp only [D.load]
 cases hag:gH P T with
 | true =>
   refine ⟨.agg ((vs.drop off).take size).toArray,?_,.agg _ _ _ ((h.drop off).take size)⟩
   simp [part,qD hu,hag,hi.run_size]
 | false =>
   have hlt:off<vs.length:=by omega
   have hlt':off<cs.length:=by omega
   refine ⟨vs[off],?_,?_⟩
   · simp [part,qD hu,hag,hlt]
   · have:=h.get off (v:=vs[off]) (d:=cs[off]) (by simp [hlt]) (by simp [hlt'])
     simpa [List.headD_eq_head?_getD,List.head?_drop,hlt'] using this

theorem aBu {T e:TypeId} {len:Nat} {x y:Operand} {k:IntKind} {n:Int} {u:TypeDesc} {z:Option Value} {size bytes:Nat} {cs:List D} {d:D} (ho:o.op = .index T x y) (hd:o.dst=some t) (ht:t<N)
 (hu:P.underlying T=some (.array len e)) (hue:P.underlying e=some u) (hi:TI P e z size bytes) (hx:SV S x (.agg cs)) (hy:SV S y (.int k n)) (h0:0≤n) (hn:n.toNat<len) (hc:n.toNat*size+size≤cs.length) (h1:0<size)
 (hdd:D.load (gH P e) size (cs.drop (n.toNat*size))=d):IOp P O N o S (S.set t d) :=
 gC hd ht fun E β a hr=>by
  obtain ⟨vs,hev,hl⟩:=rd_agg (hx.rd hr)
  obtain ⟨v,h2,h3⟩:=aDW (P:=P) hue hi hl hc h1 E.w
  subst hdd
  have h4:=iH (hy.rd hr)
  have h5:n<(len:Int):=by omega
  exact ⟨v,by simp [execOp,ho,hev,h4,Instr.index,asIntOf,run_underlying hu,h0,h5,hi.run_size,h2],h3⟩

end
end Go.IL
namespace Go.IL

def Flat (sz:Nat) (l:List D):Prop:=∀ d∈l,d.cells.length=sz∧∀ c∈d.cells,c.one=true
theorem Flat.len {sz:Nat} {l:List D} (h:Flat sz l):∀ d∈l,d.cells.length=sz:=fun d hd=>(h d hd).1
theorem Flat.all {sz:Nat} {l:List D} (h:Flat sz l):(D.flat l).all D.one=true:=by
 simp only [List.all_eq_true,D.flat,List.mem_flatMap]
 rintro c ⟨d,hd,hc⟩
 exact (h d hd).2 c hc
theorem Flat.nil (sz:Nat):Flat sz []:=fun d hd=>by cases hd
theorem Flat.cons {sz:Nat} {d:D} {l:List D} (h:d.cells.length=sz) (h1:d.cells.all D.one=true) (k:Flat sz l):Flat sz (d::l):=fun x hx=>by
 cases hx with
 | head=>exact ⟨h,fun c hc=>List.all_eq_true.1 h1 c hc⟩
 | tail _ hx=>exact k x hx
theorem Flat.append {sz:Nat} {l m:List D} (h:Flat sz l) (k:Flat sz m):Flat sz (l++m):=fun d hd=>by
 rcases List.mem_append.1 hd with hd | hd
 · exact h d hd
 · exact k d hd
theorem Flat.map {α:Type} {sz:Nat} {f:α→D} (h:∀ x,(f x).cells.length=sz∧(f x).cells.all D.one=true) (l:List α):Flat sz (l.map f):=fun d hd=>by
 obtain ⟨x,_,rfl⟩:=List.mem_map.1 hd
 exact ⟨(h x).1,fun c hc=>List.all_eq_true.1 (h x).2 c hc⟩
theorem Flat.sub {sz:Nat} {l m:List D} (h:Flat sz l) (k:∀ d∈m,d∈l):Flat sz m:=fun d hd=>h d (k d hd)

theorem aB7 {n m sz:Nat}:n*sz≤(n+m)*sz:=Nat.mul_le_mul_right _ (Nat.le_add_right _ _)

section
variable {P:Program} {O:cT} {N:Nat} {S S':St} {o:Oper} {t:Nat}

theorem kB {w:World} {T ty e:TypeId} {z:Option Value} {size bytes:Nat} (hu:P.underlying T=some (.slice e)) (hi:TI P e z size bytes) (a:Option Addr) (n c:Nat) (hc:n≤c) (y:Value) (hy:y = .slice none 0 0∨∃ b c',y = .slice (some b) 0 c') :
 (Builtin.append_ #[T,T] ty #[.slice a n c,y]).run P w = .ok (.slice a n c) w:=by
 obtain ⟨i,h1,_,hs,_⟩:=hi.at
 rcases hy with rfl | ⟨b,c',rfl⟩ <;> cases a <;>
  simp [Builtin.append_,run_underlying hu,sizeOf,typeInfo,h1,Builtin.lenOf,hc,Builtin.firstCells,loadCells,loadCellsFrom,storeCells]

theorem aD6 {w:World} {X:Nat→Nat→Prop} {b:Nat} {vs:List Value} {c:Array Value} {e:TypeId} {f:Nat×Nat} (h:(⟨w,X⟩:Env).row b 0 vs) (hc:w.heap[b]? = some (.cells c e f)):c.toList.take vs.length=vs:=by
 apply List.ext_getElem?
 intro j
 rw [List.getElem?_take]
 by_cases hj:j<vs.length
 · have h1:=(h j vs[j] (by simp [hj])).1
   simp only [Nat.zero_add] at h1
   rw [cell_of_row w b j c e f hc] at h1
   simp only [hj,if_true,Array.getElem?_toList,h1,List.getElem?_eq_getElem hj]
 · simp [hj,List.getElem?_eq_none (Nat.le_of_not_lt hj)]

theorem vA {T e:TypeId} {x y:Operand} {z:Value} {size bytes:Nat} {l ys:List D} {f:Bool} {S1:St} (id':Nat)
 (ho:o.op = .call { callee:=.builtin .append,args:=#[x,y],argTypes:=#[T,T] }) (hd:o.dst=some t) (ht:t<N)
 (hu:P.underlying T=some (.slice e)) (hi:TI P e (some z) size bytes) (hz:z.cells.size=size) (hsp:0<size)
 (hs1:S1.sl=S.sl) (hs2:∀ j,S1.ent j=S.ent j∨S1.ent j = .none) (hfr:S.ent id' = .fresh)
 (hx:∀ E β a,Rel O N S E β a→(a.eval x = .slice none 0 0∧l=[])∨∃ b cap c vs,a.eval x = .slice (some ⟨b,0,none⟩) l.length cap∧l.length≤cap∧cap≤maxLen∧E.w.heap[b]? = some (.cells c e (0,0)) ∧
   c.size=cap*size∧E.row b 0 vs∧RdL E β0 vs (D.flat l)∧O.own b∧(∀ o,l.length*size≤o→E.X b o)∧∀ j,(S1.ent j).held=true→β j≠some b)
 (hl:∀ d∈l,d.cells.length=size)
 (hy:SV S y (.slice f ys)) (hys:Flat size ys) (hm:l.length+ys.length≤maxLen) (hb:(l.length+ys.length)*bytes≤140737488355328) :
 IOp P O N o S ((S1.setE id' (.tail e size (l.length+ys.length))).set t (.gsl id' size (l++ys))):=by
 intro E β a hr next Q hn
 obtain ⟨i,hi1,hi2,hi3,hi4⟩:=hi.at
 have hfre:β id'=none:=by have:=hr.h.ent id'; rw [hfr] at this; exact this
 have hrun:∀ v,(Builtin.append_ #[T,T] o.type #[a.eval x,a.eval y]).run P E.w=v→(execOp a.eval o).run P E.w=v.andThen fun v w'=>.ok (.value v) w':=fun v hv=>by
  simp [execOp,ho,resolve,invoke,builtin,hv]
 have hts:t<a.tmps.size:=hr.n ▸ ht
 have slots:∀ (E':Env) (β':cH) (v:Value),E.le E'→β.le β'→Rd E' β' v (.gsl id' size (l++ys))→∀ s,Rd E' β' ((a.put (some t) v).tmps.getD s undef) (((S1.setE id' (.tail e size (l.length+ys.length))).set t (.gsl id' size (l++ys))).get s):=by
  intro E' β' v hle hβ hv s
  by_cases hst:t=s
  · subst hst
    simpa [Act.put,St.get,St.set,bB,hts] using hv
  · have:=Rd.mono hle hβ (hr.sl s)
    simpa [Act.put,St.get,St.set,St.setE,bB,hst,Array.getElem?_setIfInBounds_ne,hs1] using this
 have hflat:∀ d∈l++ys,d.cells.length=size:=fun d hd=>by
  rcases List.mem_append.1 hd with h | h
  · exact hl d h
  · exact (hys d h).1
 have hfl:D.flat (l++ys)=D.flat l++D.flat ys:=by simp [D.flat]
 have hll:(D.flat l).length=l.length*size:=pW hl
 have hly:(D.flat ys).length=ys.length*size:=pW hys.len
 let β':Nat→cH:=fun b j=>if j=id' then some b else β j
 have hβ:∀ b,β.le (β' b):=fun b j k hj=>by
  by_cases hji:j=id'
  · subst hji; rw [hfre] at hj; cases hj
  · simp [β',hji,hj]
 have hother:∀ b j,j≠id'→((((S1.setE id' (.tail e size (l.length+ys.length))).set t (.gsl id' size (l++ys))).ent j=S.ent j∧β' b j=β j)∨((S1.setE id' (.tail e size (l.length+ys.length))).set t (.gsl id' size (l++ys))).ent j = .none):=by
  intro b j hj
  have h1:((S1.setE id' (.tail e size (l.length+ys.length))).set t (.gsl id' size (l++ys))).ent j=S1.ent j:=by simp [St.ent,entL,St.setE,St.set,bB,Ne.symm hj]
  rw [h1]
  rcases hs2 j with h | h
  · exact .inl ⟨h,by simp [β',hj]⟩
  · exact .inr h
 have hheld:∀ j,j≠id'→(((S1.setE id' (.tail e size (l.length+ys.length))).set t (.gsl id' size (l++ys))).ent j).held=true→(S1.ent j).held=true:=by
  intro j hj h
  simpa [St.ent,entL,St.setE,St.set,bB,Ne.symm hj] using h
 have hentid:((S1.setE id' (.tail e size (l.length+ys.length))).set t (.gsl id' size (l++ys))).ent id' = .tail e size (l.length+ys.length):=by simp [St.ent,entL,St.setE,St.set,bB]
 -- a new block
 have fresh:∀ (vs us:List Value) (cap:Nat),RdL E β0 vs (D.flat l)→RdL E β0 us (D.flat ys)→l.length+ys.length≤cap→cap≤maxLen →
  (Builtin.append_ #[T,T] o.type #[a.eval x,a.eval y]).run P E.w = .ok (.slice (some ⟨E.w.heap.size,0,none⟩) (l.length+ys.length) cap) (E.w.drew.alloc (.cells (vs.toArray++us.toArray++Builtin.zeroCells z.cells (cap-(l.length+ys.length))) e)) →
  o.wp P a E.w next Q:=by
  intro vs us cap hvs hus hcap hcm hra
  unfold Oper.wp
  rw [hrun _ hra]
  simp only [Result.andThen_ok,Oper.upon,hd]
  let E':Env:=⟨E.w.drew.alloc (.cells (vs.toArray++us.toArray++Builtin.zeroCells z.cells (cap-(l.length+ys.length))) e),fun b o=>(b=E.w.heap.size∧(l.length+ys.length)*size≤o)∨E.X b o⟩
  have hs:Step O E E' E.w.heap.size :=
   ⟨rfl,rfl,rfl,by simp [E'],by simp [E'],.inl hr.h.size,fun k hk _=>heap_alloc_old E.w.drew _ hk,fun k o hk=>by simp [E',hk],fun _ h=>Nat.lt_irrefl _ (dQ h)⟩
  have hle:E.le E':=hs.le (fun o v h1 _=>by have:=World.block_lt_of_cell? _ _ h1; simp at this) (fun c e f h1=>by have:=dQ h1; simp at this)
  have hnew:E'.w.heap[E.w.heap.size]? = some (.cells (vs.toArray++us.toArray++Builtin.zeroCells z.cells (cap-(l.length+ys.length))) e (0,0)):=heap_alloc_new E.w.drew _
  have hvl:=hvs.length
  have hul:=hus.length
  have hrow:E'.row E.w.heap.size 0 (vs++us):=fun k v hk=>by
   have hlt:k<vs.length+us.length:=by have:=(List.getElem?_eq_some_iff.1 hk).1; simpa using this
   refine ⟨?_,?_⟩
   · rw [Nat.zero_add,cell_of_row _ _ _ _ _ _ hnew]
     simp only [←Array.getElem?_toList,Array.toList_append]
     rw [List.getElem?_append_left (by simpa using hlt)]
     simpa using hk
   · rintro (⟨_,h⟩ | h)
     · rw [Nat.add_mul] at h; omega
     · have:=hr.h.xlt _ _ h; omega
  have hvs':=(RdL.mono hle (cH.le.refl _) hvs).append (RdL.mono hle (cH.le.refl _) hus)
  rw [←hfl] at hvs'
  refine hn E' (β' E.w.heap.size) _ ⟨by simp [Act.put,hr.n],hr.nd.step hs,?_,slots E' _ _ hle (hβ _) ?_⟩
  · refine HOk.put hr.h hs hle (hβ _) (fun j hj=>hother _ j hj) ?_ (id:=id') (by simp [β']) ?_ (fun _ _=>trivial)
    · intro j hj hh hbj
      have hh':=hheld j hj hh
      rcases hs2 j with h | h
      · rw [h] at hh'; exact Nat.lt_irrefl _ (hr.h.lt hh' hbj)
      · rw [h] at hh'; cases hh'
    · rw [hentid]
      exact ⟨_,hnew,fun o ho=>.inl ⟨rfl,ho⟩⟩
  · exact .gsl _ _ E.w.heap.size _ cap size (vs++us) _ (by simp [β']) (by simp) hcap hflat hsp hrow hvs' _ _ _ hnew
     (by simp only [Array.size_append,List.size_toArray,size_zeroCells,hz,hvl,hul,hll,hly]; rw [←Nat.add_mul,←Nat.add_mul]; congr 1; omega) hcm
 -- nothing is appended
 have nothing:ys=[]→(a.eval y = .slice none 0 0∨∃ b c',a.eval y = .slice (some b) 0 c')→o.wp P a E.w next Q:=by
  intro hys0 hyv
  subst hys0
  rcases hx E β a hr with ⟨hxv,rfl⟩ | ⟨b,cap,c,vs,hxv,hnc,hcm,hc,hcs,hrow,hvs,hown,hX,hap⟩
  · have hra:=kB (P:=P) (w:=E.w) (ty:=o.type) hu hi none 0 0 (Nat.le_refl _) _ hyv
    unfold Oper.wp
    rw [←hxv] at hra
    rw [hrun _ hra]
    simp only [Result.andThen_ok,Oper.upon,hd]
    refine hn E β _ ⟨by simp [Act.put,hr.n],hr.nd,?_,slots E β _ (Env.le.refl _) (cH.le.refl _) (by rw [hxv]; exact .ngsl _ _ _)⟩
    refine { hr.h with ent:=fun j=>?_,inj:=fun j k b hj hk h1 h2=>?_ }
    · by_cases hj:j=id'
      · subst hj; rw [hentid]; exact .inl ⟨hfre,rfl⟩
      · rcases hother 0 j hj with ⟨h,_⟩ | h
        · rw [h]; exact hr.h.ent j
        · rw [h]; trivial
    · have hnj:∀ j b,(((S1.setE id' (.tail e size (([]:List D).length+([]:List D).length))).set t (.gsl id' size ([]++[]))).ent j).held=true→β j=some b→j≠id'∧(S.ent j).held=true:=by
       intro j b hh hb
       have hj:j≠id':=by rintro rfl; rw [hfre] at hb; cases hb
       refine ⟨hj,?_⟩
       rcases hother 0 j hj with ⟨h,_⟩ | h
       · rw [←h]; exact hh
       · rw [h] at hh; cases hh
      exact hr.h.inj j k b (hnj j b hj h1).2 (hnj k b hk h2).2 h1 h2
  · have hra:=kB (P:=P) (w:=E.w) (ty:=o.type) hu hi (some ⟨b,0,none⟩) l.length cap hnc _ hyv
    unfold Oper.wp
    rw [←hxv] at hra
    rw [hrun _ hra]
    simp only [Result.andThen_ok,Oper.upon,hd]
    have hs:Step O E E b:=⟨rfl,rfl,rfl,Nat.le_refl _,dQ hc,hown,fun _ _ _=>rfl,fun _ _ _=>Iff.rfl,fun _ h=>by first | (rw [hc] at h; cases h) | (rw [hh] at h; cases h)⟩
    refine hn E (β' b) _ ⟨by simp [Act.put,hr.n],hr.nd,?_,slots E _ _ (Env.le.refl _) (hβ _) ?_⟩
    · refine HOk.put hr.h hs (Env.le.refl _) (hβ _) (fun j hj=>hother _ j hj) (fun j hj hh=>hap j (hheld j hj hh)) (id:=id') (by simp [β']) ?_ (fun _ _=>trivial)
      rw [hentid]
      exact ⟨_,hc,fun o ho=>hX o (by simpa using ho)⟩
    · rw [hxv]
      simp only [List.append_nil] at hfl ⊢
      exact .gsl _ _ b _ cap size vs _ (by simp [β']) rfl hnc hl hsp hrow hvs _ _ _ hc hcs hcm
 rcases rR (hy.rd hr) with ⟨hyv,rfl⟩ | ⟨yb,yoff,ycap,ysz,us,hyv,hyc,_,hyz,hysp,hyrow,hus⟩ | ⟨ad,ycap,hyv,rfl⟩
 · exact nothing rfl (.inl hyv)
 rotate_left
 · exact nothing rfl (.inr ⟨_,_,hyv⟩)
 · by_cases hemp:ys=[]
   · exact nothing hemp (.inr ⟨_,_,by subst hemp; exact hyv⟩)
   · have hne:0<ys.length:=List.length_pos_iff.2 hemp
     have hul:us.length=ys.length*i.size:=by rw [hus.length,hly,hi3]
     have hyr:∀ j u,us[j]? = some u→E.w.cell? ((⟨yb,yoff,none⟩:Addr).add j)=some u:=fun j u hj=>by rw [iO]; exact (hyrow j u hj).1
     rcases hx E β a hr with ⟨hxv,rfl⟩ | ⟨b,cap,c,vs,hxv,hnc,hcm,hc,hcs,hrow,hvs,hown,hX,hap⟩
     · have hra:=run_append_nil (P:=P) E.w T o.type e i z hu hi1 hi2 ⟨yb,yoff,none⟩ ys.length ycap us hul hyr hne (by simp [maxLen] at hm; omega) (by rw [hi4]; simp at hb; omega)
       refine fresh [] us (grownCap E.w ys.length 0 e) (by simpa [D.flat] using RdL.nil β0) hus (by simpa using grownCap_ge _ _ _ _) (grownCap_le_maxLen _ _ _ _ (by simpa using hm)) ?_
       rw [hxv,hyv]
       simpa using hra
     · have hvl:vs.length=l.length*i.size:=by rw [hvs.length,hll,hi3]
       by_cases hroom:l.length+ys.length≤cap
       · have hvt:c.toList.take (l.length*i.size)=vs:=by rw [←hvl]; exact aD6 (X:=E.X) hrow hc
         have hfit:l.length*i.size+us.length≤c.size:=by rw [hul,hcs,hi3,←Nat.add_mul]; exact Nat.mul_le_mul_right _ hroom
         have hra:=run_append_room (P:=P) E.w T o.type e i hu hi1 b l.length cap c hc ⟨yb,yoff,none⟩ ys.length ycap us hul hyr (zC hus hys.all) hroom hfit
         rw [hvt] at hra
         unfold Oper.wp
         rw [←hxv,←hyv] at hra
         rw [hrun _ hra]
         simp only [Result.andThen_ok,Oper.upon,hd]
         let E':Env:=⟨E.w.setRow b (vs++us++c.toList.drop (l.length*i.size+us.length)).toArray,fun k o=>if k=b then (l.length+ys.length)*size≤o else E.X k o⟩
         have hs:Step O E E' b:=⟨rfl,rfl,rfl,by simp [E'],by simpa [E'] using dQ hc,hown,fun k _ hk=>setRow_other _ _ _ _ hk,fun k o hk=>by simp [E',hk],fun _ h=>by first | (rw [hc] at h; cases h) | (rw [hh] at h; cases h)⟩
         have hnew:E'.w.heap[b]? = some (.cells (vs++us++c.toList.drop (l.length*i.size+us.length)).toArray e (0,0)):=setRow_heap _ _ _ _ _ _ hc
         have hsz:(vs++us++c.toList.drop (l.length*i.size+us.length)).toArray.size=c.size:=by
          simp [hvl]; omega
         have hle:E.le E':=hs.le (fun o v h1 h2=>by
          have hlt:o<l.length*size:=Nat.lt_of_not_le fun h=>h2 (hX o h)
          have hlt':o<vs.length:=by rw [hvl,hi3]; exact hlt
          refine ⟨?_,?_⟩
          · rw [cell_of_row _ _ _ _ _ _ hnew]
            rw [cell_of_row _ _ _ _ _ _ hc] at h1
            have h3:vs[o]? = some v:=by rw [←hvt,List.getElem?_take,if_pos (by rw [hi3]; exact hlt)]; simpa using h1
            simp only [←Array.getElem?_toList,List.append_assoc]
            rw [List.getElem?_append_left hlt']
            exact h3
          · simp only [E',if_true]
            have:=@aB7 l.length ys.length size
            omega) (fun c' e' f' h1=>by rw [hc] at h1; cases h1; exact ⟨_,_,hnew,hsz⟩)
         have hrow':E'.row b 0 (vs++us):=fun k v hk=>by
          have hlt:k<vs.length+us.length:=by have:=(List.getElem?_eq_some_iff.1 hk).1; simpa using this
          refine ⟨?_,?_⟩
          · rw [Nat.zero_add,cell_of_row _ _ _ _ _ _ hnew]
            simp only [←Array.getElem?_toList]
            rw [List.getElem?_append_left (by simpa using hlt)]
            exact hk
          · simp only [E',if_true,Nat.zero_add]
            rw [Nat.add_mul]; rw [hvl,hul,hi3] at hlt; omega
         have hvs':=(RdL.mono hle (cH.le.refl _) hvs).append (RdL.mono hle (cH.le.refl _) hus)
         rw [←hfl] at hvs'
         refine hn E' (β' b) _ ⟨by simp [Act.put,hr.n],hr.nd.step hs,?_,slots E' _ _ hle (hβ _) ?_⟩
         · refine HOk.put hr.h hs hle (hβ _) (fun j hj=>hother _ j hj) (fun j hj hh=>hap j (hheld j hj hh)) (id:=id') (by simp [β']) ?_ (fun _ _=>trivial)
           rw [hentid]
           exact ⟨_,hnew,fun o ho=>by simpa [E'] using ho⟩
         · exact .gsl _ _ b _ cap size (vs++us) _ (by simp [β']) (by simp) hroom hflat hsp hrow' hvs' _ _ _ hnew (by rw [hsz,hcs]) hcm
       · have hxr:∀ j u,vs[j]? = some u→E.w.cell? ((⟨b,0,none⟩:Addr).add j)=some u:=fun j u hj=>by rw [iO]; exact (hrow j u hj).1
         have hra:=run_append_grow (P:=P) E.w T o.type e i z hu hi1 hi2 ⟨b,0,none⟩ l.length cap vs hvl hxr ⟨yb,yoff,none⟩ ys.length ycap us hul hyr (by omega) (by simp [maxLen] at hm; omega) (growslice_fits (by omega) (by rw [hi4]; exact hb))
         refine fresh vs us (grownCap E.w (l.length+ys.length) cap e) hvs hus (grownCap_ge _ _ _ _) (grownCap_le_maxLen _ _ _ _ hm) ?_
         rw [hxv,hyv]
         exact hra

end
end Go.IL
namespace Go.IL
open RowKit (Below)

mutual
theorem D.ren_id:∀ (d:D),d.ren (fun i=>i)=d
 | .dead | .bool _ | .int _ _ | .float _ _ | .str _ | .slice _ _ | .nils | .fptr _ | .nilp | .nilf | .nili | .ref _ _ | .rsl _ _ _ _ _ | .gsl _ _ _ | .osl _ _ _ | .yld _=>rfl
 | .agg cs=>by rw [D.ren,D.renL_id cs]
 | .tuple cs=>by rw [D.ren,D.renL_id cs]
 | .fn f cs=>by rw [D.ren,D.renL_id cs]
 | .mv f cs=>by rw [D.ren,D.renL_id cs]
 | .cnd b d=>by rw [D.ren,D.ren_id d]
theorem D.renL_id:∀ (ds:List D),D.renL (fun i=>i) ds=ds
 | []=>rfl
 | d::ds=>by rw [D.renL,D.ren_id d,D.renL_id ds]
end

def noRef:Nat→Bool:=fun _=>false
theorem Rd.bare {E:Env} {β:cH} {v:Value} {d:D} (h:Rd E β v d) (hp:d.refsIn noRef=true):Rd E β0 v d :=
 Rd.ren (ρ:=fun i=>i) (p:=noRef) (β:=β) (fun _ h=>by cases h) d (by rw [D.ren_id]; exact h) hp
theorem RdL.bare {E:Env} {β:cH} {vs:List Value} {ds:List D} (h:RdL E β vs ds) (hp:D.refsInL noRef ds=true):RdL E β0 vs ds :=
 RdL.ren (ρ:=fun i=>i) (p:=noRef) (β:=β) (fun _ h=>by cases h) ds (by rw [D.renL_id]; exact h) hp

def bJ (P:Program) (f:FuncId) (ds:List D) (r:D):Prop :=
 ∀ (E:Env) (vs:List Value),E.good→RdL E β0 vs ds →
   Calls P f vs.toArray E.w fun e w'=>∃ v,e = .returned v∧Below E.w.heap.size E.w w'∧Rd ⟨w',E.X⟩ β0 v r

def aU (P : Program) (f : FuncId) : Prop := ∃ fn, P.funcs[f]? = some fn ∧ (fn.name == "runtime.NumGoroutine") = false ∧ fn.body.isNone = false

theorem sE {w w':World} {X:Nat→Nat→Prop} (h:Below w.heap.size w w'):(⟨w,X⟩:Env).le ⟨w',X⟩:=by
 constructor
 · intro b o v h1 h2
   exact ⟨(World.cell_block (h.block b (World.block_lt_of_cell? _ _ h1))).trans h1,h2⟩
 · intro b c e f h1
   exact ⟨c,f,(h.block b (dQ h1)).trans h1,rfl⟩

theorem tJ.below {O:cT} {E:Env} {ds:List Deferred} (h:tJ O E ds) {w':World} (hb:Below E.w.heap.size E.w w'):tJ O ⟨w',E.X⟩ ds:=h.mono fun k h1=>(hb.block k (dQ h1)).trans h1

theorem HOk.below {O:cT} {E:Env} {β:cH} {H:Nat→Ent} (h:HOk O E β H) {w':World} (hb:Below E.w.heap.size E.w w'):HOk O ⟨w',E.X⟩ β H where
 os:=hb.os.trans h.os
 tab:=h.tab
 tape:=hb.tape.trans h.tape
 output:=hb.output.trans h.output
 size:=Nat.le_trans h.size hb.size
 block k hk hf:=(hb.block k (Nat.lt_of_lt_of_le hk h.size)).trans (h.block k hk hf)
 xlt b o hX:=Nat.lt_of_lt_of_le (h.xlt b o hX) hb.size
 xold:=h.xold
 ent id:=by
  have he:=h.ent id
  cases hH:H id with
  | none=>trivial
  | fresh=>rw [hH] at he; exact he
  | blk e ds =>
    rw [hH] at he
    rcases he with h1 | ⟨b,vs,sp,h1,h2,h3,h4,h5⟩
    · exact .inl h1
    · exact .inr ⟨b,vs,sp,h1,h2,(hb.block b (dQ h3)).trans h3,h4,RdL.mono (sE hb) (cH.le.refl _) h5⟩
  | tail e sz n =>
    rw [hH] at he
    rcases he with h1 | ⟨b,c,h1,h2,h3,h4⟩
    · exact .inl h1
    · exact .inr ⟨b,c,h1,h2,(hb.block b (dQ h3)).trans h3,h4⟩
  | loop lk ds st pend =>
    rw [hH] at he
    obtain ⟨k,r,h3,h4,h5,h6,h7,h8,h9,h10,h11,h12⟩:=he
    exact ⟨k,r,h3,h4,(hb.block k (dQ h5)).trans h5,h6,h7,h8,h9,h10,h11,h12.1,RdL.mono (sE hb) (cH.le.refl _) h12.2⟩
  | kept n ds =>
    rw [hH] at he
    exact ⟨RdL.mono (sE hb) (cH.le.refl _) he.1,fun c hc=>(hb.block c (dQ (he.2 c hc))).trans (he.2 c hc)⟩
 inj:=h.inj
 le:=h.le.trans (sE hb)
 gid:=h.gid
 given:=h.given

inductive SVs (S:St):List Operand→List D→Prop
 | nil:SVs S [] []
 | cons {x d xs ds} (h:SV S x d) (t:SVs S xs ds):SVs S (x::xs) (d::ds)

section
variable {P:Program} {O:cT} {N:Nat} {S S':St} {o:Oper} {t:Nat}

theorem SVs.rd {E:Env} {β:cH} {a:Act} (hr:Rel O N S E β a):∀ {xs:List Operand} {ds:List D},SVs S xs ds→RdL E β (xs.map a.eval) ds
 | _,_,.nil=>.nil _
 | _,_,.cons h t=>.cons (h.rd hr) (SVs.rd hr t)

theorem aCX {f:FuncId} {ds:List D} {r:D} (hd:o.dst=some t) (ht:t<N)
 (h:∀ E β a,Rel O N S E β a→∃ vs:List Value,(execOp a.eval o).run P E.w = .ok (.enter f vs.toArray) E.w∧RdL E β vs ds) (hp:D.refsInL noRef ds=true) (hf:bJ P f ds r):IOp P O N o S (S.set t r):=by
 intro E β a hr next Q hn
 obtain ⟨vs,hrun,hv⟩:=h E β a hr
 unfold Oper.wp
 rw [hrun]
 simp only [Oper.upon,hd]
 refine (hf E vs hr.h.good (hv.bare hp)).mono ?_
 rintro e w' ⟨v,rfl,hb,hrd⟩
 have hr':Rel O N S ⟨w',E.X⟩ β a:=⟨hr.n,hr.nd.below hb,hr.h.below hb,fun s=>Rd.mono (sE hb) (cH.le.refl _) (hr.sl s)⟩
 exact hn ⟨w',E.X⟩ β _ (hr'.set ht hrd.up)

theorem jZ {f:FuncId} (hc:aU P f) (args:Array Value) (w:World):(callFunc f args).run P w = .ok (.enter f args) w:=by
 obtain ⟨fn,h1,h2,h3⟩:=hc
 simp only [callFunc,Sem.run_bind,run_program,Result.andThen_ok,h1,h2,h3,Bool.false_eq_true,if_false]
 rfl

theorem aL {f:FuncId} {xs:List Operand} {ts:Array TypeId} {ds:List D} {r:D} (ho:o.op = .call { callee:=.value (.func f),args:=xs.toArray,argTypes:=ts }) (hd:o.dst=some t) (ht:t<N)
 (hc:aU P f) (hx:SVs S xs ds) (hp:D.refsInL noRef ds=true) (hf:bJ P f ds r):IOp P O N o S (S.set t r) :=
 aCX hd ht (fun E β a hr=>⟨xs.map a.eval,by
  simp [execOp,ho,resolve,Deferred.ofValue,Act.eval,invoke,jZ hc],hx.rd hr⟩) hp hf

theorem tC {x:Operand} {f:FuncId} {caps:List D} {xs:List Operand} {ts:Array TypeId} {ds:List D} {r:D} (ho:o.op = .call { callee:=.value x,args:=xs.toArray,argTypes:=ts }) (hd:o.dst=some t) (ht:t<N)
 (hc:aU P f) (hfx:SV S x (.fn f caps)) (hx:SVs S xs ds) (hp:D.refsInL noRef (ds++caps)=true) (hf:bJ P f (ds++caps) r):IOp P O N o S (S.set t r) :=
 aCX hd ht (fun E β a hr=>by
  obtain ⟨vs,hev,hl⟩:=aFs (hfx.rd hr)
  exact ⟨xs.map a.eval++vs,by simp [execOp,ho,resolve,Deferred.ofValue,hev,invoke,jZ hc],(hx.rd hr).append hl⟩) hp hf

theorem nM {f:FuncId} {xs:List Operand} {ds:List D} (ho:o.op = .makeFunc (.func f) #[] xs.toArray) (hd:o.dst=some t) (ht:t<N) (hx:SVs S xs ds):IOp P O N o S (S.set t (.fn f ds)) :=
 gC hd ht fun E β a hr=>⟨.func (.func f) #[] (xs.map a.eval).toArray,by simp [execOp,ho,Instr.makeFunc],.fn _ _ _ _ (hx.rd hr)⟩

def ResV (P:Program) (S:St):ResultVar→D→Prop
 | .tmp t,d=>SV S (.tmp t) d
 | .cell x T,d=>∃ id off e ds u z size bytes,SV S (.tmp x) (.ref id off)∧S.ent id = .blk e ds∧P.underlying T=some u∧TI P T z size bytes∧off+size≤ds.length∧0<size∧D.load (gH P T) size (ds.drop off)=d
inductive aB4 (P:Program) (S:St):List ResultVar→List D→Prop
 | nil:aB4 P S [] []
 | cons {x d xs ds} (h:ResV P S x d) (t:aB4 P S xs ds):aB4 P S (x::xs) (d::ds)

theorem aCE {E:Env} {β:cH} {a:Act} (hr:Rel O N S E β a) {T:TypeId} {u:TypeDesc} {z:Option Value} {size bytes:Nat} {id off:Nat} {e:TypeId} {ds:List D} {v:Value}
 (hu:P.underlying T=some u) (hi:TI P T z size bytes) (hv:Rd E β v (.ref id off)) (he:S.ent id = .blk e ds) (hn:off+size≤ds.length) (h1:0<size) :
 ∃ y b,v = .pointer (some ⟨b,off,none⟩)∧(loadVar T ⟨b,off,none⟩).run P E.w = .ok y E.w∧Rd E β y (D.load (gH P T) size (ds.drop off)):=by
 obtain ⟨b,hb,rfl⟩:=aDc hv
 have hent:=hr.h.ent id
 rw [he] at hent
 obtain ⟨vs,sp,_,hh,_,hl⟩:=sD hent hb
 have hlen:=hl.length
 simp only [D.load]
 cases hag:gH P T with
 | true =>
   refine ⟨.agg ((vs.drop off).take size).toArray,b,rfl,?_,.agg _ _ _ ((hl.drop off).take size)⟩
   have hlc:=zZ (P:=P) hh (show off+size≤(vs++sp).length by simp; omega)
   rw [yX (by omega)] at hlc
   simp [loadVar,qD hu,hag,hi.run_size,hlc]
 | false =>
   have hlt:off<vs.length:=by omega
   have hcell:E.w.cell? ⟨b,off,none⟩=some vs[off]:=by rw [cell_of_row _ _ _ _ _ _ hh]; simp [List.getElem?_append_left,hlt]
   refine ⟨vs[off],b,rfl,by simp [loadVar,qD hu,hag,hcell],?_⟩
   have hlt':off<ds.length:=by omega
   have:=hl.get off (v:=vs[off]) (d:=ds[off]) (by simp [hlt]) (by simp [hlt'])
   simpa [List.headD_eq_head?_getD,List.head?_drop,hlt'] using this

def resF (tmps:Array Value):ResultVar→Sem Value
 | .tmp t=>pure (tmps.getD t undef)
 | .cell x t=>do loadVar t (←asAddr (tmps.getD x undef))

theorem rG {E:Env} {β:cH} {a:Act} (hr:Rel O N S E β a):∀ {rs:List ResultVar} {ds:List D},aB4 P S rs ds →
 ∃ vs,(rs.mapM (resF a.tmps)).run P E.w = .ok vs E.w∧RdL E β vs ds
 | _,_,.nil=>⟨[],by simp,.nil _⟩
 | _, _,.cons (x:=r) h t=>by
   obtain ⟨vs,h1,h2⟩:=rG hr t
   cases r with
   | tmp t =>
     exact ⟨a.tmps.getD t undef::vs,by simp [List.mapM_cons,resF,h1],.cons (h.rd hr) h2⟩
   | cell x T =>
     obtain ⟨id,off,e,ds,u,z,size,bytes,g1,g2,g3,g4,g5,g6,rfl⟩:=h
     obtain ⟨y,b,e1,e2,e3⟩:=aCE (P:=P) hr g3 g4 (g1.rd hr) g2 g5 g6
     have e1':a.tmps.getD x undef = .pointer (some ⟨b,off,none⟩):=e1
     refine ⟨y::vs,?_,.cons e3 h2⟩
     have h4:(resF a.tmps (.cell x T)).run P E.w = .ok y E.w:=by
      simp only [resF,e1']
      simp [asAddr,e2]
     rw [List.mapM_cons]
     simp only [Sem.run_bind,h4,h1,Result.andThen_ok,Sem.run_pure]

def retD:List D→D
 | [d]=>d
 | ds=>.tuple ds

theorem aBw {w:World} {X:Nat→Nat→Prop} (hX:(⟨w,X⟩:Env).good):HOk ⟨w,X,fun _=>False,β0,none,fun _=>[],fun _=>0,fun _=>[],fun _=>(#[],.skip,.skip)⟩ ⟨w,X⟩ β0 (entL []) where
 os:=rfl
 tab:=hX.tab
 tape:=rfl
 output:=rfl
 size:=Nat.le_refl _
 block _ _ _:=rfl
 xlt:=hX.xlt
 xold _ _ _ _:=Iff.rfl
 ent id:=by
  show aB6 _ _ _ _ (defE id)
  unfold defE; split
  · trivial
  · rfl
 inj i j b hi:=by
  have:(defE i).held=true:=hi
  unfold defE at this; split at this <;> cases this
 le:=Env.le.refl _
 gid i b h:=by cases h
 given i b h:=by cases h

theorem aAa {w:World} {X:Nat→Nat→Prop} {b:Nat} (hx:w.heap[b]? = some (.deferred (some []))):(⟨w,X⟩:Env).le ⟨w.putObj b (.deferred none),X⟩:=by
 constructor
 · intro k o v h1 h2
   by_cases hk:k=b
   · subst hk; simp [World.cell?,hx] at h1
   · exact ⟨(World.cell_block (World.putObj_heap_other hk)).trans h1,h2⟩
 · intro k c e f h1
   by_cases hk:k=b
   · subst hk; rw [hx] at h1; cases h1
   · exact ⟨c,f,(World.putObj_heap_other hk).trans h1,rfl⟩
theorem HOk.shut {O:cT} {E:Env} {β:cH} {H:Nat→Ent} (h:HOk O E β H) {b:Nat} (hb:O.w.heap.size≤b) (hof:¬ O.foot b) (hdv:∀ k,b ∉ O.dv k) (hx:E.w.heap[b]? = some (.deferred (some []))):HOk O ⟨E.w.putObj b (.deferred none),E.X⟩ β H where
 os:=h.os
 tab:=h.tab
 tape:=h.tape
 output:=h.output
 size:=by simpa [World.putObj] using h.size
 block k hk hf:=(World.putObj_heap_other (by omega)).trans (h.block k hk hf)
 xlt k o hX:=by simpa [World.putObj] using h.xlt k o hX
 xold:=h.xold
 ent id:=by
  have hne:∀ (k:Nat) (o:Obj),E.w.heap[k]? = some o→(∀ ds,o≠Obj.deferred ds)→(E.w.putObj b (.deferred none)).heap[k]? = some o:=fun k o h1 h2=>by
   have:k≠b:=by rintro rfl; rw [hx] at h1; cases h1; exact h2 _ rfl
   exact (World.putObj_heap_other this).trans h1
  have he:=h.ent id
  cases hH:H id with
  | none=>trivial
  | fresh=>rw [hH] at he; exact he
  | blk e ds =>
    rw [hH] at he
    rcases he with h1 | ⟨b,vs,sp,h1,h2,h3,h4,h5⟩
    · exact .inl h1
    · exact .inr ⟨b,vs,sp,h1,h2,hne _ _ h3 (fun _ h=>by cases h),h4,RdL.mono (aAa hx) (cH.le.refl _) h5⟩
  | tail e sz n =>
    rw [hH] at he
    rcases he with h1 | ⟨b,c,h1,h2,h3,h4⟩
    · exact .inl h1
    · exact .inr ⟨b,c,h1,h2,hne _ _ h3 (fun _ h=>by cases h),h4⟩
  | loop lk ds st pend =>
    rw [hH] at he
    obtain ⟨k,r,h3,h4,h5,h6,h7,h8,h9,h10,h11,h12⟩:=he
    exact ⟨k,r,h3,h4,hne _ _ h5 (fun _ h=>by cases h),h6,h7,h8,h9,h10,h11,h12.1,RdL.mono (aAa hx) (cH.le.refl _) h12.2⟩
  | kept n ds =>
    rw [hH] at he
    exact ⟨RdL.mono (aAa hx) (cH.le.refl _) he.1,fun c hc=>(World.putObj_heap_other (by rintro rfl; exact hdv _ hc)).trans (he.2 c hc)⟩
 inj:=h.inj
 le:=h.le.trans (aAa hx)
 gid:=h.gid
 given:=h.given
theorem aAG {O:cT} {N:Nat} {S:St} {β:cH} {a:Act} {fn:Func} {R:Ending→World→Prop} {n:Nat} {F:Fence} {P:Program} (ho:∀ b,O.w.heap.size≤b→¬ O.foot b):∀ (bs:List Nat) (E:Env),Rel O N S E β { a with defers:=[] }→bs.Nodup→(∀ b∈bs,(O.w.heap.size≤b∧∀ k,b ∉ O.dv k)∧E.w.heap[b]? = some (.deferred (some []))) →
 (∀ E',Rel O N S E' β { a with defers:=[] }→∃ v,(results fn a.tmps).run P E'.w = .ok v E'.w∧R (.returned v) E'.w)→LeavesInM F n P fn a.tmps R (bs.map fun b=>{ target:=.collected b,args:=#[] }) .returning E.w
 | [],E,hr,_,_,h=>h E hr
 | b::bs,E,hr,hn,hb,h=>by
   obtain ⟨⟨h1,hdv⟩,h2⟩:=hb b (by simp)
   rw [List.nodup_cons] at hn
   refine ⟨by simp,.inl ⟨b,_,rfl,run_takeDeferred h2,?_⟩⟩
   exact aAG ho bs ⟨E.w.putObj b (.deferred none),E.X⟩ ⟨hr.n,tJ.nil,hr.h.shut h1 (ho b h1) hdv h2,fun s=>Rd.mono (aAa h2) (cH.le.refl _) (hr.sl s)⟩ hn.2
    (fun c hc=>⟨(hb c (by simp [hc])).1,(World.putObj_heap_other (by rintro rfl; exact hn.1 hc)).trans (hb c (by simp [hc])).2⟩) h
theorem qM {P:Program} {f:FuncId} {fn:Func} {c:Code} {args:Array Value} {R:Ending→World→Prop} {O:cT} {N:Nat} {S:St} {E:Env} {β:cH} {Q:Exit→St→Prop} (hf:P.funcs[f]? = some fn) (hb:fn.body=some c)
 (hO:O.round=none) (ho:∀ b,O.w.heap.size≤b→¬ O.foot b) (hrel:Rel O N S E β { tmps:=args++Array.replicate (fn.ntmps-args.size) undef,defers:=[] }) (h:IWP P O N c S Q)
 (hq:∀ e S' E' β' a',Rel O N S' E' β' a'→Q e S'→(e = .normal∨e = .ret)∧∃ v,(results fn a'.tmps).run P E'.w = .ok v E'.w∧R (.returned v) E'.w):Calls P f args E.w R:=by
 refine callsIn_wide (n:=0) |>.1 (callsIn_of_wp_marks hf hb trivial ?_)
 have h':=h E β _ hrel
 rw [hO] at h'
 refine wpIn_mono h' ?_
 rintro e a' w' ⟨S',E',β',rfl,hr',hQ⟩
 obtain ⟨he,_⟩:=hq e S' E' β' a' hr' hQ
 obtain ⟨bs,hbs,hnd,hall⟩:=hr'.nd
 have hl:LeavesInM Fence.wide 0 P fn a'.tmps R a'.defers .returning E'.w:=by
  rw [hbs]
  exact aAG ho bs E' ⟨hr'.n,tJ.nil,hr'.h,hr'.sl⟩ hnd hall fun E'' hr''=>(hq e S' E'' β' _ hr'' hQ).2
 rcases he with rfl | rfl
 · exact hl
 · exact hl

theorem aQ {f:FuncId} {fn:Func} {c:Code} {ds rs:List D} (hf:P.funcs[f]? = some fn) (hb:fn.body=some c) (hN:fn.ntmps=N) (hlen:ds.length≤N) (hp:D.refsInL noRef rs=true)
 (h:∀ O:cT,O.Plain→IWP P O N c ⟨(List.range ds.length).zip ds,[]⟩ (fun e S=>(e = .normal∨e = .ret)∧aB4 P S fn.results.toList rs)):bJ P f ds (retD rs):=by
 intro E vs hX hvs
 let O:cT:=⟨E.w,E.X,fun _=>False,β0,none,fun _=>[],fun _=>0,fun _=>[],fun _=>(#[],.skip,.skip)⟩
 have hl:=hvs.length
 have hrel : Rel O N ⟨(List.range ds.length).zip ds,[]⟩ E β0 { tmps:=vs.toArray++Array.replicate (fn.ntmps-vs.toArray.size) undef,defers:=[] }:=by
  refine ⟨by simp; omega,tJ.nil,?_,?_⟩
  · exact aBw hX
  · intro s
    have key : ∀ (ds:List D) (vs:List Value) (k:Nat),RdL E β0 vs ds→Rd E β0 (if s<k then undef else vs.getD (s-k) undef) (look .dead s ((List.range' k ds.length).zip ds)):=by
     intro ds
     induction ds with
     | nil=>intro vs k _; simp [look]; exact .dead _ _
     | cons d ds ih =>
       intro vs k hv
       cases hv with
       | cons h1 h2 =>
         simp only [List.length_cons,List.range'_succ,List.zip_cons_cons,bB]
         by_cases hks:k=s
         · subst hks; simpa using h1
         · rw [if_neg hks]
           have:=ih _ (k+1) h2
           by_cases hlt:s<k
           · simpa [hlt,show s<k+1 by omega] using this
           · have h3:¬ s<k+1:=by omega
             rw [if_neg hlt]; rw [if_neg h3] at this
             rw [show s-k=(s-(k+1))+1 by omega]
             simpa using this
    have:=key ds vs 0 hvs
    rw [List.range_eq_range']
    simp only [Nat.not_lt_zero,if_false,Nat.sub_zero] at this
    have hg:(vs.toArray++Array.replicate (fn.ntmps-vs.toArray.size) undef).getD s undef=vs.getD s undef:=by
     by_cases hs:s<vs.length
     · simp [hs,Array.getElem?_append]
     · simp [Array.getElem?_append,hs,List.getElem?_eq_none (Nat.le_of_not_lt hs)]
       simp [Array.getElem?_replicate]
       split <;> rfl
    show Rd E β0 (Array.getD _ s undef) _
    rw [hg]
    exact this
 refine qM hf hb rfl (fun _ _ h=>h) hrel (h O ⟨rfl,fun _ _ h=>h,fun _=>rfl⟩) ?_
 rintro e S' E' β' a' hr' ⟨he,hres⟩
 refine ⟨he,?_⟩
 have hbelow:Below E.w.heap.size E.w E'.w:=⟨hr'.h.os,hr'.h.tape,hr'.h.output,hr'.h.size,fun k hk=>hr'.h.block k hk (fun h=>h)⟩
 obtain ⟨vs',h1,h2⟩:=rG (P:=P) hr' hres
 have h3:=h2.bare hp
 have hxx:E'.le ⟨E'.w,E.X⟩:=by
  constructor
  · intro b o v hc hx
    refine ⟨hc,fun hX'=>hx ?_⟩
    exact (hr'.h.xold b o (hX.xlt b o hX') (fun h=>h)).2 hX'
  · intro b c e f hc; exact ⟨c,f,hc,rfl⟩
 have h4:=RdL.mono hxx (cH.le.refl _) h3
 have hrun:(results fn a'.tmps).run P E'.w = .ok (if h:vs'.toArray.size=1 then vs'.toArray[0] else .tuple vs'.toArray) E'.w:=by
  have hF:results fn a'.tmps=(fn.results.mapM (resF a'.tmps)) >>= fun vs=>pure (if h:vs.size=1 then vs[0] else .tuple vs):=by
   unfold results
   congr 2
  rw [hF,←Array.toArray_toList (xs:=fn.results),List.mapM_toArray]
  simp only [Sem.run_bind,Sem.run_map,h1,Result.andThen_ok,Sem.run_pure]
 have hfin:∃ v,(results fn a'.tmps).run P E'.w = .ok v E'.w∧Rd ⟨E'.w,E.X⟩ β0 v (retD rs):=by
  refine ⟨_,hrun,?_⟩
  cases h4 with
  | nil=>simpa [retD] using Rd.tuple (E:=⟨E'.w,E.X⟩) β0 [] [] (.nil _)
  | cons h5 h6 =>
    cases h6 with
    | nil=>simpa [retD] using h5
    | cons h7 h8 =>
      simp only [retD,List.size_toArray,List.length_cons]
      rw [dif_neg (by omega)]
      exact .tuple _ _ _ (.cons h5 (.cons h7 h8))
 obtain ⟨v,h5,h6⟩:=hfin
 exact ⟨v,h5,v,rfl,hbelow,h6⟩

end
end Go.IL
namespace Go.IL
section
variable {P:Program} {O:cT} {N:Nat} {S S':St} {o:Oper} {t:Nat}

theorem aEL {T e:TypeId} {x y:Operand} {z:Value} {size bytes:Nat} {l ys:List D} {f:Bool} {id:Nat} (id':Nat)
 (ho:o.op = .call { callee:=.builtin .append,args:=#[x,y],argTypes:=#[T,T] }) (hd:o.dst=some t) (ht:t<N)
 (hu:P.underlying T=some (.slice e)) (hi:TI P e (some z) size bytes) (hz:z.cells.size=size) (hsp:0<size)
 (hx:S.op x = .gsl id size l) (he:S.ent id = .tail e size l.length) (hfr:S.ent id' = .fresh) (hl:∀ d∈l,d.cells.length=size)
 (hy:SV S y (.slice f ys)) (hys:Flat size ys) (hm:l.length+ys.length≤maxLen) (hb:(l.length+ys.length)*bytes≤140737488355328) :
 IOp P O N o S (((S.setE id .none).setE id' (.tail e size (l.length+ys.length))).set t (.gsl id' size (l++ys))):=by
 refine vA (S1:=S.setE id .none) id' ho hd ht hu hi hz hsp rfl ?_ hfr ?_ hl hy hys hm hb
 · intro j
   by_cases hj:id=j
   · subst hj; right; simp [St.ent,entL,St.setE,bB]
   · left; simp [St.ent,entL,St.setE,bB,hj]
 · intro E β a hr
   have hv:=hr.op x
   rw [hx] at hv
   generalize hev:a.eval x=v at hv
   cases hv with
   | ngsl=>exact .inl ⟨rfl,rfl⟩
   | gsl _ _ b len cap _ vs _ hβ hln hc hzz hsz hrow hvs c e' f' h1 h2 h3 =>
     right
     have hent:=hr.h.ent id
     rw [he] at hent
     rcases hent with ⟨h4,_⟩ | ⟨b',c',h4,h5,h6,h7⟩
     · rw [hβ] at h4; cases h4
     · rw [hβ] at h4; cases h4
       rw [h6] at h1; cases h1
       subst hln
       refine ⟨b,cap,_,vs,rfl,hc,h3,h6,h2,hrow,hvs,h5,h7,?_⟩
       intro j hj hb
       by_cases hji:id=j
       · subst hji; simp [St.ent,entL,St.setE,bB,Ent.held] at hj
       · have hj':(S.ent j).held=true:=by simpa [St.ent,entL,St.setE,bB,hji] using hj
         exact hji (hr.h.inj id j b (by rw [he]; rfl) hj' hβ hb)

theorem aAt {T e:TypeId} {x y:Operand} {z:Value} {size bytes:Nat} {ys:List D} {f:Bool} (id':Nat)
 (ho:o.op = .call { callee:=.builtin .append,args:=#[x,y],argTypes:=#[T,T] }) (hd:o.dst=some t) (ht:t<N)
 (hu:P.underlying T=some (.slice e)) (hi:TI P e (some z) size bytes) (hz:z.cells.size=size) (hsp:0<size)
 (hx:S.op x = .nils) (hfr:S.ent id' = .fresh)
 (hy:SV S y (.slice f ys)) (hys:Flat size ys) (hm:ys.length≤maxLen) (hb:ys.length*bytes≤140737488355328) :
 IOp P O N o S ((S.setE id' (.tail e size ys.length)).set t (.gsl id' size ys)):=by
 have:=vA (P:=P) (O:=O) (N:=N) (l:=[]) (S1:=S) id' ho hd ht hu hi hz hsp rfl (fun j=>.inl rfl) hfr ?_ (by simp) hy hys (by simpa using hm) (by simpa using hb)
 · simpa using this
 · intro E β a hr
   have hv:=hr.op x
   rw [hx] at hv
   generalize hev:a.eval x=v at hv
   cases hv
   exact .inl ⟨rfl,rfl⟩



theorem aCj (off:Nat):∀ (us:List Value) (k:Nat) (cells:Array Value),off+k+us.length≤cells.size →
 ((us.zipIdx k).foldl (fun cs (x:Value×Nat)=>cs.setIfInBounds (off+x.2) x.1) cells).toList=cells.toList.take (off+k)++us++cells.toList.drop (off+k+us.length)
 | [],k,cells,_=>by simp
 | u::us,k,cells,h=>by
   simp only [List.length_cons] at h
   have ih:=aCj off us (k+1) (cells.setIfInBounds (off+k) u) (by simp; omega)
   simp only [List.zipIdx_cons,List.foldl_cons]
   rw [ih]
   have h1:off+k<cells.toList.length:=by simp; omega
   simp only [Array.toList_setIfInBounds]
   rw [List.take_set,List.drop_set_of_lt (by omega)]
   have h2:(cells.toList.take (off+(k+1))).set (off+k) u=cells.toList.take (off+k)++[u]:=by
    rw [←Nat.add_assoc,List.take_succ_eq_append_getElem (by simpa using h1)]
    rw [List.set_append_right _ _ (by simp; omega)]
    have:off+k-(List.take (off+k) cells.toList).length=0:=by simp; simp at h1; omega
    rw [this]; simp
   rw [h2]
   simp only [List.append_assoc,List.singleton_append,List.length_cons,Nat.add_assoc]
   congr 3
   omega

def aBB (place:Nat→Option (Nat×Nat)) (cells:List D):List (Nat×D)→Option (List D)
 | []=>some cells
 | (i,d)::rest =>
   match place i with
   | none=>none
   | some (off,size)=>if d.boxable=false∨d.cells.length≠size∨cells.length<off+size then none else aBB place (fS cells off d.cells) rest

inductive PVs (S:St):List (Nat×Operand)→List (Nat×D)→Prop
 | nil:PVs S [] []
 | cons {i x d xs ds} (h:SV S x d) (t:PVs S xs ds):PVs S ((i,x)::xs) ((i,d)::ds)

theorem aAz {E:Env} {β:cH} {a:Act} (hr:Rel O N S E β a) {place:Nat→Option (Nat×Nat)}:∀ {ps:List (Nat×Operand)} {ds:List (Nat×D)} {cells:Array Value} {cs cs':List D},PVs S ps ds →
 RdL E β cells.toList cs→aBB place cs ds=some cs'→∃ cells',Instr.fill place cells (ps.map fun p=>(p.1,a.eval p.2))=some cells'∧RdL E β cells'.toList cs'
 | _,_,cells,cs,cs',.nil,hc,hf=>by simp [aBB] at hf; subst hf; exact ⟨cells,rfl,hc⟩
 | _,_,cells,cs,cs',.cons (i:=i) (x:=x) (d:=d) h t,hc,hf=>by
   simp only [aBB] at hf
   split at hf
   · cases hf
   · rename_i off size hp
     split at hf
     · cases hf
     · rename_i hcond
       simp only [not_or] at hcond
       obtain ⟨h1,h2,h3⟩:=hcond
       have h2:d.cells.length=size:=by simpa using h2
       have hv:=vF (h.rd hr) (by simpa using h1)
       have hvl:(a.eval x).cells.size=size:=by rw [←h2,←hv.length]; simp
       have hcl:=hc.length
       have hset:=aCj off (a.eval x).cells.toList 0 cells (by simp [hvl] at hcl ⊢; omega)
       simp only [Nat.add_zero] at hset
       have hrd:RdL E β ((a.eval x).cells.toList.zipIdx.foldl (fun cs (x:Value×Nat)=>cs.setIfInBounds (off+x.2) x.1) cells).toList (fS cs off d.cells):=by
        rw [hset,fS,hv.length]
        exact ((hc.take _).append hv).append (hc.drop _)
       obtain ⟨cells',h4,h5⟩:=aAz hr t hrd hf
       refine ⟨cells',?_,h5⟩
       simp only [List.map_cons,Instr.fill,hp,hvl]
       rw [if_neg (by simp at hcl ⊢; omega)]
       rw [←h4]
       congr 1
       rw [←Array.foldl_toList,Array.toList_zipIdx]

theorem bA {T:TypeId} {fs:Array Field} {places:Array (Nat×Nat)} {ps:List (Nat×Operand)} {z:Value} {size bytes:Nat} {ds:List (Nat×D)} {cs:List D} (ho:o.op = .build T ps.toArray) (hd:o.dst=some t) (ht:t<N)
 (hu:P.underlying T=some (.struct fs)) (hi:TI P T (some z) size bytes) (hp:∀ w,(fs.mapM fun f=>Functor.map (Prod.mk f.offset) (sizeOf f.type)).run P w = .ok places w)
 (hz:(D.ofVal z).boxable=true) (hx:PVs S ps ds) (hf:aBB (places[·]?) (D.ofVal z).cells ds=some cs):IOp P O N o S (S.set t (.agg cs)) :=
 gC hd ht fun E β a hr=>by
  obtain ⟨i,h1,h2,_⟩:=hi.at
  obtain ⟨cells,h3,h4⟩:=aAz hr hx (vF (aAT E β z) hz) hf
  refine ⟨.agg cells,?_,by simpa using Rd.agg β cells.toList cs h4⟩
  simp [execOp,ho,Instr.build,zeroValue,typeInfo,h1,h2,run_underlying hu,hp,h3]

theorem aAs {T e:TypeId} {len esz eb:Nat} {ez:Option Value} {ps:List (Nat×Operand)} {z:Value} {size bytes:Nat} {ds:List (Nat×D)} {cs:List D} (ho:o.op = .build T ps.toArray) (hd:o.dst=some t) (ht:t<N)
 (hu:P.underlying T=some (.array len e)) (hi:TI P T (some z) size bytes) (he:TI P e ez esz eb)
 (hz:(D.ofVal z).boxable=true) (hx:PVs S ps ds) (hf:aBB (fun i=>some (i*esz,esz)) (D.ofVal z).cells ds=some cs):IOp P O N o S (S.set t (.agg cs)) :=
 gC hd ht fun E β a hr=>by
  obtain ⟨i,h1,h2,_⟩:=hi.at
  obtain ⟨cells,h3,h4⟩:=aAz hr hx (vF (aAT E β z) hz) hf
  refine ⟨.agg cells,?_,by simpa using Rd.agg β cells.toList cs h4⟩
  simp [execOp,ho,Instr.build,zeroValue,typeInfo,h1,h2,run_underlying hu,he.run_size,h3]

theorem vE (E:Env) (β:cH):∀ (vs:List Value),RdL E β vs (List.replicate vs.length .dead)
 | []=>.nil _
 | v::vs=>.cons (.dead _ v) (vE E β vs)

end
end Go.IL
namespace Go.IL
open RowKit (Below)
section
variable {P:Program} {O:cT} {N:Nat} {S S':St} {o:Oper} {t:Nat}

theorem aEI {e:TypeId} {sz:Nat} {ds:List D} (id:Nat) (hd:o.dst=some t) (ht:t<N) (hf:S.ent id = .fresh) (hz:∀ d∈ds,d.cells.length=sz) (hsp:0<sz)
 (h:∀ E β a,Rel O N S E β a→∃ (vs:List Value) (cap:Nat) (c:Array Value) (w1:World),(execOp a.eval o).run P E.w = .ok (.value (.slice (some ⟨E.w.heap.size,0,none⟩) ds.length cap)) (w1.alloc (.cells c e))∧w1.heap=E.w.heap ∧
   w1.os=E.w.os∧w1.tape=E.w.tape∧w1.output=E.w.output∧RdL E β0 vs (D.flat ds)∧c.toList.take vs.length=vs∧c.size=cap*sz∧ds.length≤cap∧cap≤maxLen) :
 IOp P O N o S ((S.setE id (.tail e sz ds.length)).set t (.gsl id sz ds)):=by
 intro E β a hr next Q hn
 obtain ⟨vs,cap,c,w1,hrun,hh,hos,htp,hou,hvs,hct,hcs,hlc,hcm⟩:=h E β a hr
 unfold Oper.wp
 rw [hrun]
 simp only [Oper.upon,hd]
 have hfr:β id=none:=by have:=hr.h.ent id; rw [hf] at this; exact this
 let E':Env:=⟨w1.alloc (.cells c e),fun b o=>(b=E.w.heap.size∧ds.length*sz≤o)∨E.X b o⟩
 let β':cH:=fun j=>if j=id then some E.w.heap.size else β j
 have hβ:β.le β':=fun j b hj=>by
  by_cases hji:j=id
  · subst hji; rw [hfr] at hj; cases hj
  · simp [β',hji,hj]
 have hsz1:w1.heap.size=E.w.heap.size:=by rw [hh]
 have hs:Step O E E' E.w.heap.size :=
  ⟨hos,htp,hou,by simp [E',hsz1],by simp [E',hsz1],.inl hr.h.size,fun k hk _=>by rw [heap_alloc_old w1 _ (by rw [hsz1]; exact hk),hh],fun k o hk=>by simp [E',hk],fun _ h=>Nat.lt_irrefl _ (dQ h)⟩
 have hle:E.le E':=hs.le (fun o v h1 _=>by have:=World.block_lt_of_cell? _ _ h1; simp at this) (fun c e f h1=>by have:=dQ h1; simp at this)
 have hnew:E'.w.heap[E.w.heap.size]? = some (.cells c e (0,0)):=by rw [←hsz1]; exact heap_alloc_new w1 _
 have hfl:(D.flat ds).length=ds.length*sz:=pW hz
 have hvl:=hvs.length
 have hrow:E'.row E.w.heap.size 0 vs:=fun k v hk=>by
  have hlt:=(List.getElem?_eq_some_iff.1 hk).1
  refine ⟨?_,?_⟩
  · rw [Nat.zero_add,cell_of_row _ _ _ _ _ _ hnew,←Array.getElem?_toList]
    have h1:(c.toList.take vs.length)[k]? = some v:=by rw [hct]; exact hk
    rwa [List.getElem?_take,if_pos hlt] at h1
  · rintro (⟨_,h⟩ | h)
    · omega
    · have:=hr.h.xlt _ _ h; omega
 refine hn E' β' _ ⟨by simp [Act.put,hr.n],hr.nd.step hs,?_,?_⟩
 · refine HOk.put hr.h hs hle hβ ?_ ?_ (id:=id) (by simp [β']) ?_ (fun _ _=>trivial)
   · intro j hj; left; constructor
     · simp [St.ent,entL,St.setE,St.set,bB,Ne.symm hj]
     · simp [β',hj]
   · intro j hj hheld hb
     have:(S.ent j).held=true:=by simpa [St.ent,entL,St.setE,St.set,bB,Ne.symm hj] using hheld
     exact Nat.lt_irrefl _ (hr.h.lt this hb)
   · simp only [St.ent,entL,St.setE,St.set,bB,if_true]
     exact ⟨c,hnew,fun o ho=>.inl ⟨rfl,ho⟩⟩
 · intro s
   have hts:t<a.tmps.size:=hr.n ▸ ht
   by_cases hst:t=s
   · subst hst
     simp only [Act.put,St.get,St.set,bB,if_true,Array.getD_eq_getD_getElem?,Array.getElem?_setIfInBounds_self,hts,Option.getD_some]
     exact .gsl _ _ E.w.heap.size _ cap sz vs _ (by simp [β']) rfl hlc hz hsp hrow (RdL.mono hle (cH.le.refl _) hvs) _ _ _ hnew hcs hcm
   · have:=Rd.mono hle hβ (hr.sl s)
     simpa [Act.put,St.get,St.set,St.setE,bB,hst,Array.getElem?_setIfInBounds_ne] using this

theorem aBA {T e:TypeId} {len esz eb:Nat} {ez:Value} {ps:List (Nat×Operand)} {dps:List (Nat×D)} {ds:List D} (id:Nat) (ho:o.op = .buildSlice T len ps.toArray) (hd:o.dst=some t) (ht:t<N)
 (hu:P.underlying T=some (.slice e)) (he:TI P e (some ez) esz eb) (hsp:0<esz) (hf:S.ent id = .fresh) (hx:PVs S ps dps)
 (hfill:aBB (fun i=>some (i*esz,esz)) (List.replicate (len*esz) .dead) dps=some (D.flat ds)) (hl:ds.length=len) (hz:∀ d∈ds,d.cells.length=esz) (hp:D.refsInL noRef (D.flat ds)=true) (hb:len*esz≤2 ^ 24) :
 IOp P O N o S ((S.setE id (.tail e esz len)).set t (.gsl id esz ds)):=by
 subst hl
 refine aEI id hd ht hf hz hsp fun E β a hr=>?_
 obtain ⟨i,h1,h2,h3,_⟩:=he.at
 let init:Array Value:=(Array.range (ds.length*esz)).map fun k=>(if ds.length*esz=0 then #[] else ez.cells)[k % (if ds.length*esz=0 then #[] else ez.cells).size]!
 have hinit:RdL E β init.toList (List.replicate (ds.length*esz) .dead):=by
  have:=vE E β init.toList
  rwa [show init.toList.length=ds.length*esz by simp [init]] at this
 obtain ⟨cells,h4,h5⟩:=aAz hr hx hinit hfill
 have hcl:cells.size=ds.length*esz:=by have:=h5.length; rw [pW hz] at this; simpa using this
 refine ⟨cells.toList,ds.length,cells,E.w,?_,rfl,rfl,rfl,rfl,h5.bare hp,by rw [List.take_of_length_le (by simp)],hcl,Nat.le_refl _,?_⟩
 · have hb':¬ (2 ^ 24<ds.length*esz):=by omega
   simp only [execOp,ho,Instr.buildSlice,Sem.run_bind,run_underlying hu,Result.andThen_ok,he.run_size]
   rw [if_neg (by simpa using hb')]
   by_cases h0:ds.length*esz=0
   · have h4':=h4
     simp only [init,h0,if_true] at h4' ⊢
     simp at h4'
     simp [h4',newRow]
   · have h4':=h4
     simp only [init,h0,if_false] at h4' ⊢
     simp [zeroValue,typeInfo,h1,h2,h4',newRow]
 · have:ds.length≤ds.length*esz:=Nat.le_mul_of_pos_right _ hsp
   simp only [maxLen]; omega

def uD (S:St) (z:Int) (x:Option Operand) (n:Int):Prop :=
 match x with
 | none=>n=z
 | some x=>∃ k,SV S x (.int k n)

theorem qV {E:Env} {β:cH} {a:Act} (hr:Rel O N S E β a) {isS:Bool} {len cap:Nat} {lo hi:Option Operand} {l h:Int} (hlo:uD S 0 lo l) (hhi:uD S len hi h) (h0:0≤l) (h1:l≤h) (h2:h≤len) (h3:len≤cap) :
 (Instr.sliceBounds isS len cap (lo.map a.eval) (hi.map a.eval) none).run P E.w = .ok (l.toNat,h.toNat,cap) E.w:=by
 have hh:h≤(cap:Int):=by omega
 have e1:0≤h:=by omega
 have e2:l≤(h.toNat:Int):=by omega
 cases lo with
 | none =>
   have hlo:l=0:=hlo
   subst hlo
   cases hi with
   | none =>
     have hhi:h=len:=hhi
     subst hhi
     simp [Instr.sliceBounds]
   | some y =>
     obtain ⟨k,hy⟩:=hhi
     simp [Instr.sliceBounds,Instr.sliceBound,iH (hy.rd hr),asIntOf,e1,hh]
 | some x =>
   obtain ⟨k,hx⟩:=hlo
   cases hi with
   | none =>
     have hhi:h=len:=hhi
     subst hhi
     have:l≤(len:Int):=h1
     simp [Instr.sliceBounds,Instr.sliceBound,iH (hx.rd hr),asIntOf,h0,this]
   | some y =>
     obtain ⟨k',hy⟩:=hhi
     simp [Instr.sliceBounds,Instr.sliceBound,iH (hx.rd hr),iH (hy.rd hr),asIntOf,h0,e1,hh]
     intro _; omega

theorem aBq {T:TypeId} {x:Operand} {lo hi:Option Operand} {s r:List UInt8} {l h:Int} (ho:o.op = .slice T x lo hi none) (hd:o.dst=some t) (ht:t<N) (hu:P.underlying T=some .string)
 (hx:SV S x (.str s)) (hlo:uD S 0 lo l) (hhi:uD S s.length hi h) (h0:0≤l) (h1:l≤h) (h2:h≤s.length) (hr':(s.take h.toNat).drop l.toNat=r):IOp P O N o S (S.set t (.str r)) :=
 gC hd ht fun E β a hr=>by
  refine ⟨.string (bs r),?_,.str _ _⟩
  have hb:=qV (P:=P) hr (isS:=false) hlo hhi h0 h1 h2 (Nat.le_refl _)
  subst hr'
  have he:(bs s).extract l.toNat h.toNat=bs ((s.take h.toNat).drop l.toNat):=by
   simp only [bs]
   rw [ByteArray.extract_mk,List.drop_take]
  simp [execOp,ho,aBF (hx.rd hr),Instr.sliceAt,Instr.slice,run_underlying hu,aDQ,hb,he]

theorem aAp {T e:TypeId} {x:Operand} {lo hi:Option Operand} {s r:List D} {f:Bool} {l h:Int} {z:Option Value} {size bytes:Nat} (ho:o.op = .slice T x lo hi none) (hd:o.dst=some t) (ht:t<N) (hu:P.underlying T=some (.slice e)) (hi':TI P e z size bytes)
 (hx:SV S x (.slice f s)) (hz:∀ d∈s,d.cells.length=size) (hlo:uD S 0 lo l) (hhi:uD S s.length hi h) (h0:0≤l) (h1:l≤h) (h2:h≤s.length) (hr':(s.take h.toNat).drop l.toNat=r):IOp P O N o S (S.set t (.slice false r)) :=
 gC hd ht fun E β a hr=>by
  subst hr'
  rcases rR (hx.rd hr) with ⟨hev,rfl⟩ | ⟨b,off,cap,sz,vs,hev,hc,_,hzz,hsp,hrow,hvs⟩ | ⟨ad,cap,hev,rfl⟩
  rotate_right
  · have hb:=qV (P:=P) hr (isS:=true) hlo hhi h0 h1 h2 (Nat.zero_le cap)
    have e1:h.toNat=0:=by simp at h2; omega
    have e2:l.toNat=0:=by omega
    refine ⟨.slice (some ad) 0 cap,?_,by simpa using Rd.eslice β ad cap false (fun h=>by cases h)⟩
    simp only [List.length_nil] at hb
    simp [execOp,ho,hev,Instr.sliceAt,Instr.slice,run_underlying hu,hb,hi'.run_size,e1,e2,Addr.add]
  · have hb:=qV (P:=P) hr (isS:=true) hlo hhi h0 h1 h2 (Nat.le_refl _)
    have e1:h.toNat=0:=by simp at h2; omega
    have e2:l.toNat=0:=by omega
    refine ⟨.slice none 0 0,?_,by simpa using Rd.nslice β false⟩
    simp only [List.length_nil] at hb
    simp [execOp,ho,hev,Instr.sliceAt,Instr.slice,run_underlying hu,hb,hi'.run_size,e1,e2]
  · have hb:=qV (P:=P) hr (isS:=true) hlo hhi h0 h1 h2 hc
    have hlen:((s.take h.toNat).drop l.toNat).length=h.toNat-l.toNat:=by rw [List.length_drop,List.length_take]; omega
    by_cases hs:s=[]
    · subst hs
      have e1:h.toNat=0:=by simp at h2; omega
      have e2:l.toNat=0:=by omega
      refine ⟨.slice (some ⟨b,off,none⟩) 0 cap,?_,?_⟩
      · simp only [List.length_nil] at hb
        simp [execOp,ho,hev,Instr.sliceAt,Instr.slice,run_underlying hu,hb,hi'.run_size,e1,e2,iO]
      · simp only [List.take_nil,List.drop_nil]
        exact .slice _ b off 0 cap sz false vs [] rfl (Nat.zero_le _) (by simp) (by simp) hsp hrow hvs
    · have hsz:sz=size:=by
       obtain ⟨d,hd⟩:=List.exists_mem_of_ne_nil s hs
       rw [←hzz d hd,hz d hd]
      subst hsz
      have hflat:∀ (s:List D) (n:Nat),(∀ d∈s,d.cells.length=sz)→D.flat (s.take n)=(D.flat s).take (n*sz):=by
       intro s
       induction s with
       | nil=>intro n _; simp [D.flat]
       | cons d s ih =>
         intro n hz
         cases n with
         | zero=>simp [D.flat]
         | succ n =>
           have h1:=hz d (by simp)
           have:=ih n (fun d hd=>hz d (by simp [hd]))
           simp only [D.flat,List.take_succ_cons,List.flatMap_cons] at this ⊢
           rw [this,Nat.add_mul,Nat.one_mul,Nat.add_comm,←h1,List.take_length_add_append]
      have hflatd:∀ (s:List D) (n:Nat),(∀ d∈s,d.cells.length=sz)→D.flat (s.drop n)=(D.flat s).drop (n*sz):=by
       intro s
       induction s with
       | nil=>intro n _; simp [D.flat]
       | cons d s ih =>
         intro n hz
         cases n with
         | zero=>simp
         | succ n =>
           have h1:=hz d (by simp)
           have:=ih n (fun d hd=>hz d (by simp [hd]))
           simp only [D.flat,List.drop_succ_cons,List.flatMap_cons] at this ⊢
           rw [this,Nat.add_mul,Nat.one_mul,Nat.add_comm,←h1,List.drop_length_add_append]
      have hsub:∀ d∈(s.take h.toNat).drop l.toNat,d.cells.length=sz:=fun d hd=>hzz d (List.mem_of_mem_take (List.mem_of_mem_drop hd))
      have hrd:RdL E β0 ((vs.take (h.toNat*sz)).drop (l.toNat*sz)) (D.flat ((s.take h.toNat).drop l.toNat)):=by
       rw [hflatd _ _ (fun d hd=>hzz d (List.mem_of_mem_take hd)),hflat _ _ hzz]
       exact (hvs.take _).drop _
      by_cases hcl:cap=l.toNat
      · have e3:h.toNat=l.toNat:=by omega
        refine ⟨.slice (some ⟨b,off,none⟩) (h.toNat-l.toNat) (cap-l.toNat),?_,?_⟩
        · simp only [execOp,ho,hev,Instr.sliceAt,Instr.slice,Sem.run_bind,run_underlying hu,Result.andThen_ok,Option.map_none,hb,hi'.run_size,Sem.run_pure]
          rw [if_pos hcl]
        · have hnil:(s.take h.toNat).drop l.toNat=[]:=List.eq_nil_of_length_eq_zero (by rw [hlen]; omega)
          rw [hnil]
          exact .slice _ b off _ _ sz false [] [] (by simp; omega) (by omega) (by simp) (by simp) hsp (fun k v hk=>by simp at hk) (by simpa [D.flat] using RdL.nil β0)
      · refine ⟨.slice (some ⟨b,off+l.toNat*sz,none⟩) (h.toNat-l.toNat) (cap-l.toNat),?_,?_⟩
        · simp [execOp,ho,hev,Instr.sliceAt,Instr.slice,run_underlying hu,hb,hi'.run_size,hcl,iO]
        · exact .slice _ b _ _ _ sz false _ _ hlen (by omega) (by simp) hsub hsp ((hrow.take _).drop _) hrd

end
end Go.IL
namespace Go.IL
open RowKit (Below)
section
variable {P:Program} {O:cT} {N:Nat} {S S':St} {o:Oper} {t:Nat}

theorem aFc (l:List UInt8):(bs l).toList=l:=by simp [bs]

def str2 (op:BinOp) (a b:List UInt8):Option D :=
 match op with
 | .eql=>some (.bool (decide (a=b)))
 | .neq=>some (.bool (!decide (a=b)))
 | .lss=>some (.bool (Op.bytesLess a b))
 | _=>none

theorem aF8 {op:BinOp} {xt yt:TypeId} {x y:Operand} {a b:List UInt8} {d:D} (ho:o.op = .binOp op xt x y yt) (hd:o.dst=some t) (ht:t<N)
 (hx:SV S x (.str a)) (hy:SV S y (.str b)) (hr:str2 op a b=some d):IOp P O N o S (S.set t d) :=
 gC hd ht fun E β ac hrel=>by
  have h1:=aBF (hx.rd hrel)
  have h2:=aBF (hy.rd hrel)
  have e:(a == b)=decide (a=b):=by by_cases h:a=b <;> simp [h]
  cases op <;> simp only [str2,Option.some.injEq,reduceCtorEq] at hr <;> subst hr
  all_goals (refine ⟨_,?_,.bool _ _⟩; simp [execOp,ho,h1,h2,eqGuard,binOp,Op.stringOp,aFc,e])

theorem iop_cat {xt yt:TypeId} {x y:Operand} {a b c:List UInt8} (ho:o.op = .binOp .add xt x y yt) (hd:o.dst=some t) (ht:t<N)
 (hx:SV S x (.str a)) (hy:SV S y (.str b)) (hc:a++b=c) (hl:c.length≤9223372036854775807):IOp P O N o S (S.set t (.str c)) :=
 gC hd ht fun E β ac hrel=>by
  have h1:=aBF (hx.rd hrel)
  have h2:=aBF (hy.rd hrel)
  subst hc
  refine ⟨.string (bs (a++b)),?_,.str _ _⟩
  have h3:=run_string_add_sum (P:=P) (w:=E.w) (bs a) (bs b) (by simpa [aDQ] using hl)
  have h4:bs a++bs b=bs (a++b):=by simp only [bs]; exact ByteArray.mk_append_mk a b
  rw [h4] at h3
  simp [execOp,ho,h1,h2,eqGuard,binOp,h3]

theorem mC {x y:Operand} {ts:Array TypeId} {k:IntKind} {a b c:Int} (ho:o.op = .call { callee:=.builtin .max,args:=#[x,y],argTypes:=ts }) (hd:o.dst=some t) (ht:t<N)
 (hx:SV S x (.int k a)) (hy:SV S y (.int k b)) (hc:max a b=c):IOp P O N o S (S.set t (.int k c)) :=
 gC hd ht fun E β ac hr=>⟨.int k c,by
  subst hc
  have:(if a<b then b else a)=max a b:=by split <;> omega
  simp [execOp,ho,resolve,invoke,builtin,Builtin.max_,Builtin.max2,iH (hx.rd hr),iH (hy.rd hr),this],.int _ _ _⟩
theorem iN {x y:Operand} {ts:Array TypeId} {k:IntKind} {a b c:Int} (ho:o.op = .call { callee:=.builtin .min,args:=#[x,y],argTypes:=ts }) (hd:o.dst=some t) (ht:t<N)
 (hx:SV S x (.int k a)) (hy:SV S y (.int k b)) (hc:min a b=c):IOp P O N o S (S.set t (.int k c)) :=
 gC hd ht fun E β ac hr=>⟨.int k c,by
  subst hc
  have:(if b<a then b else a)=min a b:=by split <;> omega
  simp [execOp,ho,resolve,invoke,builtin,Builtin.min_,Builtin.min2,iH (hx.rd hr),iH (hy.rd hr),this],.int _ _ _⟩


def St.held (S:St) (id:Nat):Bool:=(S.ent id).held
def St.okn (S:St) (id:Nat):Bool:=S.held id||Nat.ble 1000 id

inductive SlW (S S':St) (ρ:Nat→Nat):Nat→D→Prop
 | same {t d} (h:S.get t=d.ren ρ) (hr:d.refsIn S'.okn=true):SlW S S' ρ t d
 | coe {t d} (h:SV S (.tmp t) d) (hr:d.refsIn noRef=true):SlW S S' ρ t d
 | nils {t id sz} (h:S.get t = .nils):SlW S S' ρ t (.gsl id sz [])
 | nilo {t id sz} (h:S.get t = .nils):SlW S S' ρ t (.osl id sz 0)

inductive SubC:List D→List D→Prop
 | nil:SubC [] []
 | same {d ds ds'} (t:SubC ds ds'):SubC (d::ds) (d::ds')
 | nilg {id sz ds ds'} (t:SubC ds ds'):SubC (.nils::ds) (.gsl id sz []::ds')
 | nilo {id sz ds ds'} (t:SubC ds ds'):SubC (.nils::ds) (.osl id sz 0::ds')
 | nils {f ds ds'} (t:SubC ds ds'):SubC (.nils::ds) (.slice f []::ds')
 | gsl {id sz l ds ds'} (t:SubC ds ds'):SubC (.gsl id sz l::ds) (.slice false l::ds')
theorem RdL.subC {E:Env} {β:cH} {ds ds':List D} (h:SubC ds ds'):∀ {vs:List Value},RdL E β vs ds→RdL E β vs ds':=by
 induction h with
 | nil=>exact fun h=>h
 | same t ih=>intro vs h; cases h with | cons h k=>exact .cons h (ih k)
 | nilg t ih=>intro vs h; cases h with | cons h k=>cases h; exact .cons (.ngsl _ _ _) (ih k)
 | nilo t ih=>intro vs h; cases h with | cons h k=>cases h; exact .cons (.nosl _ _ _) (ih k)
 | nils t ih=>intro vs h; cases h with | cons h k=>cases h; exact .cons (.nslice _ _) (ih k)
 | gsl t ih =>
   intro vs h
   cases h with
   | cons h k =>
     refine .cons ?_ (ih k)
     cases h with
     | gsl _ _ b len cap _ vs _ hβ hl hc hz hsz hr hv c e f h1 h2 h3=>exact .slice _ _ _ _ _ _ _ _ _ hl hc (by simp) hz hsz hr hv
     | ngsl=>exact .nslice _ _

inductive EntW (S S':St) (ρ:Nat→Nat):Nat→Ent→Prop
 | blk {id e ds ds'} (h:S.ent (ρ id) = .blk e ds') (hd:ds'=D.renL ρ ds) (hr:D.refsInL S'.okn ds=true):EntW S S' ρ id (.blk e ds)
 | sub {id e ds ds'} (h:S.ent (ρ id) = .blk e ds') (hd:SubC ds' (D.renL ρ ds)) (hr:D.refsInL S'.okn ds=true):EntW S S' ρ id (.blk e ds)
 | tail {id e sz n} (h:S.ent (ρ id) = .tail e sz n):EntW S S' ρ id (.tail e sz n)
 | nils {id e sz} (h:S.ent (ρ id) = .fresh):EntW S S' ρ id (.tail e sz 0)
 | nilb {id e} (h:S.ent (ρ id) = .fresh):EntW S S' ρ id (.blk e [])
 | loop {id k ds ds' st pend} (h:S.ent (ρ id) = .loop k ds' st pend) (hd:ds'=D.renL ρ ds) (hr:D.refsInL S'.okn ds=true):EntW S S' ρ id (.loop k ds st pend)
 | kept {id k ds ds'} (h:S.ent (ρ id) = .kept k ds') (hd:ds'=D.renL ρ ds) (hr:D.refsInL S'.okn ds=true):EntW S S' ρ id (.kept k ds)

inductive AllW {α:Type} (p:Nat→α→Prop):List (Nat×α)→Prop
 | nil:AllW p []
 | cons {t d r} (h:p t d) (k:AllW p r):AllW p ((t,d)::r)
theorem AllW.mem {α:Type} {p:Nat→α→Prop}:∀ {l:List (Nat×α)},AllW p l→∀ t d,(t,d)∈l→p t d
 | _,.nil,_,_,h=>by cases h
 | _,.cons h k,t,d,hm=>by
   cases hm with
   | head=>exact h
   | tail _ hm=>exact k.mem t d hm

structure Weak (S S':St) (ρ:Nat→Nat):Prop where
 sl:AllW (SlW S S' ρ) S'.sl
 ent:AllW (EntW S S' ρ) S'.H
 inj:(S'.H.map fun x=>ρ x.1).Nodup
 fixed:∀ i,1000≤i→ρ i=i

theorem aAS {ρ:Nat→Nat} {ds:List D} (h:D.renL ρ ds=[]):ds=[]:=by
 cases ds with
 | nil=>rfl
 | cons d ds=>simp [D.renL] at h

theorem yN {α:Type} {z:α} {t:Nat}:∀ {l:List (Nat×α)},look z t l=z∨(t,look z t l)∈l
 | []=>.inl rfl
 | (s,d)::r=>by
   rw [bB]
   by_cases h:s=t
   · subst h; simp
   · rw [if_neg h]
     rcases yN (z:=z) (t:=t) (l:=r) with h1 | h1
     · exact .inl h1
     · exact .inr (by simp [h1])

theorem yM {α:Type} {ρ:Nat→Nat}:∀ {l:List (Nat×α)},(l.map fun x=>ρ x.1).Nodup→∀ {i j:Nat} {a b:α},(i,a)∈l→(j,b)∈l→ρ i=ρ j→i=j
 | [],_,_,_,_,_,h,_,_=>by cases h
 | (k,c)::r,hn,i,j,a,b,hi,hj,he=>by
   simp only [List.map_cons,List.nodup_cons,List.mem_map,not_exists,not_and] at hn
   cases hi with
   | head=>cases hj with
     | head=>rfl
     | tail _ hj=>exact absurd he.symm (hn.1 (j,b) hj)
   | tail _ hi=>cases hj with
     | head=>exact absurd he (hn.1 (i,a) hi)
     | tail _ hj=>exact yM hn.2 hi hj he

theorem Rel.weak' {E:Env} {β:cH} {a:Act} (h:Rel O N S E β a) {ρ:Nat→Nat} (hw:Weak S S' ρ):∃ β',Rel O N S' E β' a∧∀ id,S'.okn id=true→β' id=β (ρ id):=by
 let β':cH:=fun id=>if S'.held id=true then β (ρ id) else if 1000≤id then β id else none
 have hp:∀ id,S'.okn id=true→β' id=β (ρ id):=fun id hid=>by
  by_cases hh:S'.held id=true
  · simp [β',hh]
  · have h1:1000≤id:=by simpa [St.okn,hh] using hid
    simp [β',hh,h1,hw.fixed id h1]
 have hph:∀ id,S'.held id=true→β' id=β (ρ id):=fun id hid=>by simp [β',hid]
 have key:∀ id e,S'.ent id=e→e ≠ .none→e ≠ .fresh→(id,e)∈S'.H:=fun id e he h1 h2=>by
  rcases yN (z:=defE id) (t:=id) (l:=S'.H) with h4 | h4
  · have h5:S'.ent id=defE id:=h4
    rw [he] at h5
    unfold defE at h5
    split at h5
    · exact absurd h5 h1
    · exact absurd h5 h2
  · rw [←he]; exact h4
 have keyh:∀ id,S'.held id=true→(id,S'.ent id)∈S'.H:=fun id hid=>by
  refine key id _ rfl ?_ ?_ <;> (intro h5; rw [St.held,h5] at hid; cases hid)
 refine ⟨β',⟨h.n,h.nd,{ h.h with ent:=fun id=>?_,inj:=fun i j b hi hj hbi hbj=>?_,given:=fun i b hi=>?_ },fun t=>?_⟩,hp⟩
 · cases hh : S'.held id with
   | false =>
     cases hE:S'.ent id with
     | none=>trivial
     | fresh =>
       show β' id=none
       by_cases h1000:1000≤id
       · exfalso
         rcases yN (z:=defE id) (t:=id) (l:=S'.H) with h4 | h4
         · have h5:S'.ent id=defE id:=h4
           rw [hE] at h5
           simp [defE,h1000] at h5
         · have h5:(id,Ent.fresh)∈S'.H:=by
            have:look (defE id) id S'.H = .fresh:=hE
            rwa [this] at h4
           have:=hw.ent.mem id _ h5
           cases this
       · simp [β',hh,h1000]
     | blk=>rw [St.held,hE] at hh; cases hh
     | tail=>rw [St.held,hE] at hh; cases hh
     | loop=>rw [St.held,hE] at hh; cases hh
     | kept k ds =>
       have h4:=hw.ent.mem id _ (key id _ hE (by simp) (by simp))
       have h5:=h.h.ent (ρ id)
       cases h4 with
       | kept hS hd hr =>
         rw [hS] at h5
         subst hd
         exact ⟨RdL.ren hp _ h5.1 hr,h5.2⟩
   | true =>
     have h4:=hw.ent.mem id _ (keyh id hh)
     have hb:β' id=β (ρ id):=hph id hh
     have h5:=h.h.ent (ρ id)
     generalize hE:S'.ent id=e at h4
     cases h4 with
     | blk hS hd hr =>
       rw [hS] at h5
       subst hd
       rcases h5 with ⟨h6,h7⟩ | ⟨b,vs,sp,h7,h8,h9,h10,h11⟩
       · exact .inl ⟨hb.trans h6,aAS h7⟩
       · exact .inr ⟨b,vs,sp,hb.trans h7,h8,h9,h10,RdL.ren hp _ h11 hr⟩
     | sub hS hd hr =>
       rw [hS] at h5
       rcases h5 with ⟨h6,h7⟩ | ⟨b,vs,sp,h7,h8,h9,h10,h11⟩
       · subst h7
         generalize hq:D.renL ρ _=q at hd
         cases hd
         exact .inl ⟨hb.trans h6,aAS hq⟩
       · exact .inr ⟨b,vs,sp,hb.trans h7,h8,h9,h10,RdL.ren hp _ (RdL.subC hd h11) hr⟩
     | tail hS =>
       rw [hS] at h5
       rcases h5 with ⟨h6,h7⟩ | ⟨b,c,h6,h7,h8,h9⟩
       · exact .inl ⟨hb.trans h6,h7⟩
       · exact .inr ⟨b,c,hb.trans h6,h7,h8,h9⟩
     | nils hS =>
       rw [hS] at h5
       exact .inl ⟨hb.trans h5,rfl⟩
     | nilb hS =>
       rw [hS] at h5
       exact .inl ⟨hb.trans h5,rfl⟩
     | loop hS hd hr =>
       rw [hS] at h5
       subst hd
       obtain ⟨k,r,h3,h4,h5,h6,h7,h8,h9,h10,h11,h12⟩:=h5
       exact ⟨k,r,hb.trans h3,h4,h5,h6,h7,h8,h9,h10,h11,h12.1,RdL.ren hp _ h12.2 hr⟩
     | kept hS hd hr=>rw [St.held,hE] at hh; cases hh
 · have hi':S'.held i=true:=hi
   have hj':S'.held j=true:=hj
   have e1:=hph i hi'
   have e2:=hph j hj'
   rw [e1] at hbi
   rw [e2] at hbj
   have heldρ:∀ id b,S'.held id=true→β (ρ id)=some b→(S.ent (ρ id)).held=true:=fun id b hid hb=>by
    have h4:=hw.ent.mem id _ (keyh id hid)
    have h5:=h.h.ent (ρ id)
    generalize hE:S'.ent id=e at h4
    cases h4 with
    | blk hS=>rw [hS]; rfl
    | sub hS=>rw [hS]; rfl
    | tail hS=>rw [hS]; rfl
    | nils hS=>rw [hS] at h5; rw [h5] at hb; cases hb
    | nilb hS=>rw [hS] at h5; rw [h5] at hb; cases hb
    | loop hS=>rw [hS]; rfl
    | kept hS=>rw [St.held,hE] at hid; cases hid
   have:=h.h.inj (ρ i) (ρ j) b (heldρ i b hi' hbi) (heldρ j b hj' hbj) hbi hbj
   exact yM hw.inj (keyh i hi') (keyh j hj') this
 · have h1:=h.h.gid i b hi
   have h2:=h.h.given i b hi
   by_cases hh:S'.held i=true
   · simp [β',hh,hw.fixed i h1,h2]
   · simp [β',hh,h1,h2]
 · rcases yN (z:=D.dead) (t:=t) (l:=S'.sl) with h4 | h4
   · have:S'.get t = .dead:=h4
     rw [this]; exact .dead _ _
   · have h5:=hw.sl.mem t _ h4
     have h7:=h.sl t
     have h8:S'.get t=look D.dead t S'.sl:=rfl
     rw [h8]
     generalize look D.dead t S'.sl=d at h5
     cases h5 with
     | same he hr=>rw [he] at h7; exact Rd.ren hp _ h7 hr
     | coe he hr=>exact ((he _ _ _ h7).bare hr).up
     | nilo he =>
       rw [he] at h7
       generalize a.tmps.getD t undef=v at h7
       cases h7
       exact .nosl _ _ _
     | nils he =>
       rw [he] at h7
       generalize a.tmps.getD t undef=v at h7
       cases h7
       exact .ngsl _ _ _

theorem Rel.weak {E:Env} {β:cH} {a:Act} (h:Rel O N S E β a) {ρ:Nat→Nat} (hw:Weak S S' ρ):∃ β',Rel O N S' E β' a :=
 let ⟨β',h1,_⟩:=h.weak' hw; ⟨β',h1⟩

theorem aBm {c:Code} {Q:Exit→St→Prop} (ρ:Nat→Nat) (hw:Weak S S' ρ) (h:IWP P O N c S' Q):IWP P O N c S Q :=
 fun E β a hr=>let ⟨β',hr'⟩:=hr.weak hw; h E β' a hr'
theorem aDn {ops:Array Oper} {l:List Oper} {Q:Exit→St→Prop} (ρ:Nat→Nat) (hw:Weak S S' ρ) (h:ILS P O N ops l S' Q):ILS P O N ops l S Q :=
 fun E β a hr=>let ⟨β',hr'⟩:=hr.weak hw; h E β' a hr'

theorem cK {α:Type} {c:Code} {Q:Exit→St→Prop} (st:α→St) (inv:α→Prop) (m:α→Nat) (a0:α) (ρ0:Nat→Nat) (h0:Weak S (st a0) ρ0) (i0:inv a0)
 (round:∀ x,inv x→IWP P O N c (st x) (aD4 (fun S'=>∃ y ρ,Weak S' (st y) ρ∧inv y∧m y<m x) Q)):IWP P O N (.loop c) S Q:=by
 refine aBm ρ0 h0 ?_
 intro E β a hr b k cs hro hb hroom
 have key:∀ n x E β a,m x=n→inv x→Rel O N (st x) E β a →
  ∃ e a' w',(∃ S' E' β',E'.w=w'∧Rel O N S' E' β' a'∧Q e S')∧ArrivesIn (Machine.fenced P (fen O.round)) P (lone (b.atR a (.code c :: .inLoop c::k)) cs E.w) b k cs e a' w':=by
  intro n
  induction n using Nat.strongRecOn with
  | _ n ih =>
    intro x E β a hn hI hr
    obtain ⟨e,a₁,w₁,⟨S₁,E₁,β₁,rfl,hr₁,hq⟩,harr⟩:=round x hI E β a hr b (.inLoop c::k) cs hro hb hroom
    cases e with
    | normal =>
      obtain ⟨y,ρ,hw,hI₁,hlt⟩:=hq
      obtain ⟨β₂,hr₂⟩:=hr₁.weak hw
      obtain ⟨e₂,a₂,w₂,hq₂,harr₂⟩:=ih (m y) (hn ▸ hlt) y E₁ β₂ a₁ rfl hI₁ hr₂
      exact ⟨e₂,a₂,w₂,hq₂,.of_steps (StepsIn.trans harr (.one (fenced_calm hb hroom rfl) stepR_inLoop)) harr₂⟩
    | exit id=>exact ⟨_,a₁,_,⟨S₁,E₁,β₁,rfl,hr₁,hq⟩,.pass (x:=.inLoop c) rfl (fun _ _=>.inl (by simp)) harr⟩
    | goto l=>exact ⟨_,a₁,_,⟨S₁,E₁,β₁,rfl,hr₁,hq⟩,.pass (x:=.inLoop c) rfl (fun _ _=>.inl (by simp)) harr⟩
    | ret=>exact ⟨_,a₁,_,⟨S₁,E₁,β₁,rfl,hr₁,hq⟩,.pass (x:=.inLoop c) rfl (fun _ _=>.inl (by simp)) harr⟩
    | panic ch=>exact ⟨_,a₁,_,⟨S₁,E₁,β₁,rfl,hr₁,hq⟩,.pass (x:=.inLoop c) rfl (fun _ _=>.inl (by simp)) harr⟩
    | outgrown=>exact ⟨_,a₁,_,⟨S₁,E₁,β₁,rfl,hr₁,hq⟩,.pass (x:=.inLoop c) rfl (fun _ _=>.inl (by simp)) harr⟩
 obtain ⟨e,a',w',hq,harr⟩:=key _ a0 E β a rfl i0 hr
 exact ⟨e,a',w',hq,.of_steps (.one (fenced_calm hb hroom rfl) stepR_loop) harr⟩

theorem mW {α:Type} {x y:Code} {Q:Exit→St→Prop} (st:α→St) (inv:α→Prop) (h:IWP P O N x S (aD4 (fun S'=>∃ z ρ,Weak S' (st z) ρ∧inv z) Q))
 (k:∀ z,inv z→IWP P O N y (st z) Q):IWP P O N (.seq x y) S Q :=
 aP (aDj h fun e S' hq=>by
  cases e with
  | normal=>obtain ⟨z,ρ,hw,hi⟩:=hq; exact aBm ρ hw (k z hi)
  | _=>exact hq)

end
end Go.IL
namespace Go.IL

structure Node where
 rs:List Nat
 ri:List Nat
 us:List (Nat×D)
 ui:List (Nat×Ent)

def St.upd (S:St) (n:Node):St:=⟨n.us++S.sl,n.ui++S.H⟩

def St.eqv (S S':St):Prop:=(∀ t,S.get t=S'.get t)∧∀ i,S.ent i=S'.ent i
theorem St.eqv.refl (S:St):S.eqv S:=⟨fun _=>rfl,fun _=>rfl⟩

theorem rM {α:Type} {z:α} {t:Nat}:∀ {l r:List (Nat×α)},look z t (l++r)=if t∈l.map (·.1) then look z t l else look z t r
 | [],r=>by simp
 | (s,d)::l,r=>by
   simp only [List.cons_append,bB,List.map_cons,List.mem_cons]
   by_cases h:s=t
   · simp [h]
   · rw [if_neg h,rM (l:=l)]
     by_cases h2:t∈l.map (·.1)
     · simp [h2,h]
     · simp [h2,h,Ne.symm h]

theorem St.get_upd (S:St) (n:Node) (t:Nat):(S.upd n).get t=if t∈n.us.map (·.1) then look .dead t n.us else S.get t:=rM
theorem St.ent_upd (S:St) (n:Node) (i:Nat):(S.upd n).ent i=if i∈n.ui.map (·.1) then look (defE i) i n.ui else S.ent i:=rM

theorem St.eqv.upd {S S':St} (h:S.eqv S') (n:Node):(S.upd n).eqv (S'.upd n) :=
 ⟨fun t=>by rw [St.get_upd,St.get_upd,h.1],fun i=>by rw [St.ent_upd,St.ent_upd,h.2]⟩

def Node.apart (m n:Node):Bool :=
 (m.us.map (·.1)).all (fun t=>!n.rs.contains t && !(n.us.map (·.1)).contains t)&&(n.us.map (·.1)).all (fun t=>!m.rs.contains t) &&
 (m.ui.map (·.1)).all (fun t=>!n.ri.contains t && !(n.ui.map (·.1)).contains t)&&(n.ui.map (·.1)).all (fun t=>!m.ri.contains t)

structure Node.Apart (m n:Node):Prop where
 s1:∀ t∈n.rs,t ∉ m.us.map (·.1)
 s2:∀ t∈m.rs,t ∉ n.us.map (·.1)
 s3:∀ t∈m.us.map (·.1),t ∉ n.us.map (·.1)
 i1:∀ t∈n.ri,t ∉ m.ui.map (·.1)
 i2:∀ t∈m.ri,t ∉ n.ui.map (·.1)
 i3:∀ t∈m.ui.map (·.1),t ∉ n.ui.map (·.1)

theorem Node.apart_spec {m n:Node} (h:m.apart n=true):m.Apart n:=by
 simp only [Node.apart,Bool.and_eq_true,List.all_eq_true,Bool.not_eq_true',List.contains_eq_mem,decide_eq_false_iff_not] at h
 obtain ⟨⟨⟨h1,h2⟩,h3⟩,h4⟩:=h
 exact ⟨fun t ht hm=>(h1 t hm).1 ht,fun t ht hn=>h2 t hn ht,fun t ht=>(h1 t ht).2,fun t ht hm=>(h3 t hm).1 ht,fun t ht hn=>h4 t hn ht,fun t ht=>(h3 t ht).2⟩

theorem St.upd_comm (S:St) {m n:Node} (h:m.Apart n):((S.upd m).upd n).eqv ((S.upd n).upd m):=by
 constructor
 · intro t
   simp only [St.get_upd]
   by_cases h1:t∈m.us.map (·.1)
   · simp [h1,h.s3 t h1]
   · simp [h1]
 · intro t
   simp only [St.ent_upd]
   by_cases h1:t∈m.ui.map (·.1)
   · simp [h1,h.i3 t h1]
   · simp [h1]

theorem Rel.eqv {O:cT} {N:Nat} {S S':St} {E:Env} {β:cH} {a:Act} (h:Rel O N S E β a) (he:S.eqv S'):Rel O N S' E β a:=by
 refine ⟨h.n,h.nd,?_,fun t=>he.1 t ▸ h.sl t⟩
 have:S.ent=S'.ent:=funext he.2
 rw [←this]; exact h.h

section
variable {P:Program} {O:cT} {N:Nat} {ops:Array Oper}

def GOp (P:Program) (O:cT) (N:Nat) (ops:Array Oper) (i:Nat) (S S':St):Prop :=
 ∀ E β a,Rel O N S E β a→∀ (K:Act→World→Prop) Q,(∀ E' β' a',Rel O N S' E' β' a'→K a' E'.w)→wpOpIn (fen O.round) 0 P ops Q i K a E.w

theorem aFL {i:Nat} {o:Oper} {S S':St} (ho:ops[i]? = some o) (hg:pG o=true) (h:IOp P O N o S S'):GOp P O N ops i S S' :=
 fun E β a hr K Q hK=>by
  unfold wpOpIn
  simp only [ho,Region.wanted,(qF hg).1,if_true]
  exact aD1 _ (qF hg).2 (h E β a hr K Q hK)

theorem aFM {i:Nat} {o:Oper} {S:St} {j tj t:Nat} {want g:Bool} {d:D} (ho:ops[i]? = some o) (hg:o.guard=some (j,want)) (hj:(ops[j]?).bind (·.dst)=some tj)
 (hb:Grd S tj want g) (hd:(o.dst,sF o.op)=(some t,true)) (ht:t<N) (h:g=true→IOp P O N o S (S.set t d)):GOp P O N ops i S (S.set t (.cnd g d)):=by
 obtain ⟨hd,hnd⟩:=Prod.mk.inj hd
 intro E β a hr K Q hK
 have hwant:=hb.yields hr hj hg
 unfold wpOpIn
 simp only [ho,hwant]
 cases g with
 | true =>
   simp only [if_true]
   exact aD1 _ hnd (h rfl E β a hr _ _ fun E' β' a' hr'=>hK E' β' a' hr'.cndT)
 | false =>
   simp only [Bool.false_eq_true,if_false,hd]
   exact ⟨fun _ _=>trivial,hK E β _ (hr.set ht (.cnd _ _ _ _ (fun h=>by cases h) fun _=>rfl))⟩

def uE (n:Node) (S S0:St):Prop:=(∀ t∈n.rs,S.get t=S0.get t)∧∀ i∈n.ri,S.ent i=S0.ent i
def LOp (P:Program) (O:cT) (N:Nat) (ops:Array Oper) (i:Nat) (S0:St) (n:Node):Prop :=
 ∀ S,uE n S S0→GOp P O N ops i S (S.upd n)

def IAny (ops:Array Oper) (nd:Nat→Node) (Sq:Nat→St) (Sf:St):Nat→Array Bool→St→Prop
 | 0,listed,S=>Region.ready .any ops listed=[]∧S.eqv Sf
 | fuel+1,listed,S=>(Region.ready .any ops listed=[]→S.eqv Sf) ∧
  ∀ i∈Region.ready .any ops listed,uE (nd i) S (Sq i)∧IAny ops nd Sq Sf fuel (listed.setIfInBounds i true) (S.upd (nd i))

theorem IAny.eqv {nd:Nat→Node} {Sq:Nat→St} {Sf:St}:∀ {fuel:Nat} {listed:Array Bool} {S S':St},S.eqv S'→IAny ops nd Sq Sf fuel listed S→IAny ops nd Sq Sf fuel listed S'
 | 0,_,S,S',h,⟨h1,h2⟩=>⟨h1,fun t=>(h.1 t) ▸ h2.1 t,fun t=>(h.2 t) ▸ h2.2 t⟩
 | fuel+1,_,S,S',h,⟨h1,h2⟩=>⟨fun hr=>let k:=h1 hr; ⟨fun t=>(h.1 t) ▸ k.1 t,fun t=>(h.2 t) ▸ k.2 t⟩,
  fun i hi=>let ⟨h3,h4⟩:=h2 i hi
   ⟨⟨fun t ht=>(h.1 t) ▸ h3.1 t ht,fun t ht=>(h.2 t) ▸ h3.2 t ht⟩,IAny.eqv (h.upd _) h4⟩⟩

theorem IAny.sound {nd:Nat→Node} {Sq:Nat→St} {Sf:St} {Q:Exit→St→Prop} (hlop:∀ i,i<ops.size→LOp P O N ops i (Sq i) (nd i)) (hQ:Q .normal Sf) :
 ∀ (fuel:Nat) (listed:Array Bool) (S:St),IAny ops nd Sq Sf fuel listed S→∀ E β a,Rel O N S E β a →
   wpAnyIn (fen O.round) 0 P .any ops (fun e a' w'=>∃ S' E' β',E'.w=w'∧Rel O N S' E' β' a'∧Q e S') fuel listed a E.w:=by
 intro fuel
 induction fuel with
 | zero=>exact fun listed S h E β a hr=>⟨h.1,Sf,E,β,rfl,hr.eqv h.2,hQ⟩
 | succ fuel ih =>
   intro listed S h E β a hr
   refine ⟨fun h0=>⟨Sf,E,β,rfl,hr.eqv (h.1 h0),hQ⟩,fun i hi=>?_⟩
   obtain ⟨h1,h2⟩:=h.2 i hi
   have hlt:i<ops.size:=by
    obtain ⟨_,o,ho,_⟩:=mem_ready.1 hi
    exact (Array.getElem?_eq_some_iff.1 ho).1
   exact hlop i hlt S h1 E β a hr _ _ fun E' β' a' hr'=>ih _ _ h2 E' β' a' hr'

theorem IAny.first {nd:Nat→Node} {Sq:Nat→St} {Sf:St} {i:Nat}:∀ (fuel:Nat) (listed:Array Bool) (S:St),
 (∀ j oj,ops[j]? = some oj→j≠i→listed.getD j true=false→(∀ e∈oj.after,Region.binds .any e=true→e.on≠i)→(nd i).Apart (nd j)) →
 i∈Region.ready .any ops listed→uE (nd i) S (Sq i)→IAny ops nd Sq Sf fuel (listed.setIfInBounds i true) (S.upd (nd i))→IAny ops nd Sq Sf (fuel+1) listed S:=by
 intro fuel
 induction fuel with
 | zero =>
   intro listed S _ hr ha H
   refine ⟨fun h=>(by rw [h] at hr; cases hr),fun j hj=>?_⟩
   by_cases hji:j=i
   · subst hji; exact ⟨ha,H⟩
   · have:=ready_mono hj hji
     rw [H.1] at this
     cases this
 | succ fuel ih =>
   intro listed S hfree hr ha H
   refine ⟨fun h=>(by rw [h] at hr; cases hr),fun j hj=>?_⟩
   by_cases hji:j=i
   · subst hji; exact ⟨ha,H⟩
   · obtain ⟨h1,h2⟩:=H.2 j (ready_mono hj hji)
     obtain ⟨hjun,oj,hoj,hall⟩:=mem_ready.1 hj
     have hnot:∀ e∈oj.after,Region.binds .any e=true→e.on≠i:=fun e he hb heq=>by
      have h1:=hall e he hb
      have h0:=(mem_ready.1 hr).1
      rw [heq] at h1
      rcases Nat.lt_or_ge i listed.size with h' | h'
      · simp [h'] at h0 h1; rw [h0] at h1; cases h1
      · simp [Array.getElem?_eq_none h'] at h1
     have hap:=hfree j oj hoj hji hjun hnot
     have haj:uE (nd j) S (Sq j):=⟨fun t ht=>by rw [←h1.1 t ht,St.get_upd,if_neg (hap.s1 t ht)],fun t ht=>by rw [←h1.2 t ht,St.ent_upd,if_neg (hap.i1 t ht)]⟩
     have hai:uE (nd i) (S.upd (nd j)) (Sq i):=⟨fun t ht=>by rw [←ha.1 t ht,St.get_upd,if_neg (hap.s2 t ht)],fun t ht=>by rw [←ha.2 t ht,St.ent_upd,if_neg (hap.i2 t ht)]⟩
     refine ⟨haj,ih (listed.setIfInBounds j true) _ ?_ (ready_mono hr (Ne.symm hji)) hai ?_⟩
     · refine fun k ok hk hki hun hno=>hfree k ok hk hki ?_ hno
       by_cases hjk:j=k
       · subst hjk; exact hjun
       · rw [getD_set_ne true hjk] at hun; exact hun
     · rw [Array.setIfInBounds_comm _ _ hji]
       exact IAny.eqv (S.upd_comm hap) h2

def aEG (ops:Array Oper) (nds:List Node):Nat→Nat→Array Bool→Bool
 | 0,_,listed=>(Region.ready .any ops listed).isEmpty
 | n + 1,k,listed=>(Region.ready .any ops listed).contains k &&
     (List.range ops.size).all (fun j=>j == k||listed.getD j true||match ops[j]? with
       | some oj=>oj.after.any (fun e=>Region.binds .any e&&e.on == k)||(nds.getD k ⟨[],[],[],[]⟩).apart (nds.getD j ⟨[],[],[],[]⟩)
       | none=>true)&&aEG ops nds n (k+1) (listed.setIfInBounds k true)

def seqS (S:St):List Node→St
 | []=>S
 | n::ns=>seqS (S.upd n) ns

theorem IAny.lex {nds:List Node} {S0:St}:∀ (n k:Nat) (listed:Array Bool),k+n=nds.length→aEG ops nds n k listed=true →
 IAny ops (fun i=>nds.getD i ⟨[],[],[],[]⟩) (fun i=>seqS S0 (nds.take i)) (seqS S0 nds) n listed (seqS S0 (nds.take k))
 | 0,k,listed,hk,h=>by
   have:nds.take k=nds:=List.take_of_length_le (by omega)
   rw [this]
   exact ⟨by simpa [aEG] using h,St.eqv.refl _⟩
 | n + 1,k,listed,hk,h=>by
   simp only [aEG,Bool.and_eq_true] at h
   obtain ⟨⟨h1,h2⟩,h3⟩:=h
   have hlt:k<nds.length:=by omega
   have ih:=IAny.lex (S0:=S0) n (k+1) (listed.setIfInBounds k true) (by omega) h3
   have hS:seqS S0 (nds.take (k+1))=(seqS S0 (nds.take k)).upd (nds.getD k ⟨[],[],[],[]⟩):=by
    have hg:nds.getD k ⟨[],[],[],[]⟩=nds[k]:=by simp [hlt]
    rw [List.take_succ_eq_append_getElem hlt,hg]
    clear ih h1 h2 h3 hg
    generalize nds.take k=l
    induction l generalizing S0 with
    | nil=>rfl
    | cons m l ihl=>exact ihl (S0:=S0.upd m)
   rw [hS] at ih
   refine IAny.first n listed _ ?_ (by simpa using h1) ⟨fun _ _=>rfl,fun _ _=>rfl⟩ ih
   intro j oj hj hne hun hno
   simp only [List.all_eq_true,List.mem_range] at h2
   have h4:=h2 j (Array.getElem?_eq_some_iff.1 hj).1
   simp only [hj,Bool.or_eq_true,beq_iff_eq,hne,false_or,hun,Bool.false_eq_true] at h4
   rcases h4 with h4 | h4
   · obtain ⟨e,he,hb⟩:=Array.any_eq_true'.1 h4
     simp only [Bool.and_eq_true,beq_iff_eq] at hb
     exact absurd hb.2 (hno e he hb.1)
   · exact Node.apart_spec h4

inductive DSeq (P:Program) (O:cT) (N:Nat) (ops:Array Oper):Nat→St→List Node→Prop
 | nil {k S}:DSeq P O N ops k S []
 | cons {k S n ns} (h:LOp P O N ops k S n) (t:DSeq P O N ops (k+1) (S.upd n) ns):DSeq P O N ops k S (n::ns)

theorem DSeq.at {k:Nat} {S:St}:∀ {nds:List Node},DSeq P O N ops k S nds→∀ i,i<nds.length→LOp P O N ops (k+i) (seqS S (nds.take i)) (nds.getD i ⟨[],[],[],[]⟩)
 | _,.nil,i,h=>by simp at h
 | _,.cons h t,0,_=>h
 | _::ns,.cons h t,i+1,hi=>by
   have:=DSeq.at t i (by simpa using hi)
   rw [show k+(i+1)=k+1+i by omega]
   exact this

theorem oK {id:Nat} {l:List Oper} {S:St} {Q:Exit→St→Prop} (hm:P.follows .mixedOrders=true) (nds:List Node) (hlen:nds.length=l.length)
 (hd:DSeq P O N l.toArray 0 S nds) (hchk:aEG l.toArray nds l.length 0 (Array.replicate l.length false)=true) (hQ:Q .normal (seqS S nds)):IWP P O N (.region id l.toArray true) S Q:=by
 intro E β a hr
 refine wpIn_region_any hm ?_
 have hr':Rel O N S ⟨{ E.w with drawn:=E.w.drawn+1 },E.X⟩ β a:=by
  have hb:RowKit.Below E.w.heap.size E.w { E.w with drawn:=E.w.drawn+1 }:=(RowKit.Below.refl _ _).drew
  exact ⟨hr.n,hr.nd.below hb,hr.h.below hb,fun s=>Rd.mono (sE hb) (cH.le.refl _) (hr.sl s)⟩
 have hl:=IAny.lex (S0:=S) l.length 0 (Array.replicate l.length false) (by omega) hchk
 simp only [List.take_zero,seqS] at hl
 have:=IAny.sound (P:=P) (O:=O) (N:=N) (Q:=Q) (fun i hi=>by
  have:=hd.at i (by simp at hi; omega)
  rwa [Nat.zero_add] at this) hQ _ _ _ hl _ β a hr'
 simpa using this

end
end Go.IL
namespace Go.IL
section
variable {P:Program} {O:cT} {N:Nat} {S S':St} {o:Oper} {t:Nat} {Q:Exit→St→Prop}

theorem aC {id:Nat} {l:List Oper} {y:Code} (h:ILS P O N l.toArray l S (fun e S'=>e = .normal∧IWP P O N y S' Q)):IWP P O N (.seq (.region id l.toArray false) y) S Q :=
 aP (aDj (aZ h) fun e S' ⟨h1,h2⟩=>by subst h1; exact h2)
theorem aB {ops:Array Oper} {y:Code} (h:IWP P O N y S Q):ILS P O N ops [] S (fun e S'=>e = .normal∧IWP P O N y S' Q):=bN ⟨rfl,h⟩
theorem cC {id:Nat} {l:List Oper} {y:Code} (hm:P.follows .mixedOrders=true) (nds:List Node) (hlen:nds.length=l.length)
 (hd:DSeq P O N l.toArray 0 S nds) (hchk:aEG l.toArray nds l.length 0 (Array.replicate l.length false)=true) (h:IWP P O N y (seqS S nds) Q):IWP P O N (.seq (.region id l.toArray true) y) S Q :=
 aP (oK hm nds hlen hd hchk h)
theorem aJ {k:St→Prop} (h:k S):aD4 k Q .normal S:=h
theorem aT {k:St→Prop} (h:Q .ret S):aD4 k Q .ret S:=h
theorem bP {k:St→Prop} {i:Nat} (h:Q (.exit i) S):aD4 k Q (.exit i) S:=h
theorem bW {i:Nat} (h:Q .normal S):aAL i Q .normal S:=h
theorem bM {i:Nat} (h:Q .ret S):aAL i Q .ret S:=h
theorem cS {i:Nat} (h:Q .normal S):aAL i Q (.exit i) S:=by simp only [aAL,if_true]; exact h
theorem aDv {i j:Nat} (hn:(j == i)=false) (h:Q (.exit j) S):aAL i Q (.exit j) S:=by
 have:¬ j=i:=by simpa using hn
 simp only [aAL,if_neg this]; exact h

theorem pZ {c:Operand} {x y:Code} {b:Bool} (hc:S.op c = .bool b) (h1:b=true→IWP P O N x S Q) (h2:b=false→IWP P O N y S Q):IWP P O N (.cond c x y) S Q :=
 fun E β a hr=>by
  have:=zD (show Rd E β (a.eval c) (.bool b) from hc ▸ hr.op c)
  exact wpIn_cond_split this (fun h=>h1 h E β a hr) (fun h=>h2 h E β a hr)
theorem zS {c:Operand} {x y:Code} {b:Bool} (hc:S.op c = .bool b) (hb:b=true) (h1:IWP P O N x S Q):IWP P O N (.cond c x y) S Q :=
 pZ hc (fun _=>h1) (fun h=>by rw [hb] at h; cases h)
theorem agr {n:Node} {S0:St} {s:Nat} {d:D} (hA:uE n S S0) (hm:n.rs.elem s=true) (h:S0.get s=d):S.op (.tmp s)=d:=(hA.1 s (List.elem_iff.1 hm)).trans h
theorem agi {n:Node} {S0:St} {i:Nat} {e:Ent} (hA:uE n S S0) (hm:n.ri.elem i=true) (h:S0.ent i=e):S.ent i=e:=(hA.2 i (List.elem_iff.1 hm)).trans h
theorem lop {ops:Array Oper} {i:Nat} {S0:St} {n:Node} (ho:ops[i]? = some o) (hg:pG o=true) (h:∀ S,uE n S S0→IOp P O N o S (S.upd n)):LOp P O N ops i S0 n :=
 fun S hA=>aFL ho hg (h S hA)
theorem grd1 {n:Node} {S0:St} {tj:Nat} {want b:Bool} (hA:uE n S S0) (hm:n.rs.elem tj=true) (h:S0.get tj = .bool b):Grd S tj want (b == want):=.one ((hA.1 tj (List.elem_iff.1 hm)).trans h)
theorem grd2 {n:Node} {S0:St} {tj:Nat} {want c b:Bool} (hA:uE n S S0) (hm:n.rs.elem tj=true) (h:S0.get tj = .cnd c (.bool b)):Grd S tj want (c&&(b == want)):=.two ((hA.1 tj (List.elem_iff.1 hm)).trans h)
theorem lopg {ops:Array Oper} {i:Nat} {S0:St} {rs ri:List Nat} {d:D} {j tj:Nat} {want g:Bool} (ho:ops[i]? = some o) (hg:o.guard=some (j,want)) (hj:(ops[j]?).bind (·.dst)=some tj)
 (hd:(o.dst,sF o.op)=(some t,true)) (ht:t<N) (hb:∀ S,uE ⟨rs,ri,[(t,.cnd g d)],[]⟩ S S0→Grd S tj want g) (h:∀ S,uE ⟨rs,ri,[(t,.cnd g d)],[]⟩ S S0→g=true→IOp P O N o S (S.set t d)):LOp P O N ops i S0 ⟨rs,ri,[(t,.cnd g d)],[]⟩ :=
 fun S hA=>aFM ho hg hj (hb S hA) hd ht (h S hA)

theorem aGR {n:Int} (h1 : -9223372036854775808≤n) (h2:n≤9223372036854775807):IntKind.i64.wrap n=n:=by
 rw [IntKind.wrap_i64]; omega

theorem iop_eqb {xt yt:TypeId} {x y:Operand} {a b:Bool} (ho:o.op = .binOp .eql xt x y yt) (hd:o.dst=some t) (ht:t<N) (hu:P.underlying xt=some .bool)
 (hx:SV S x (.bool a)) (hy:SV S y (.bool b)):IOp P O N o S (S.set t (.bool (a == b))):=aCZ ho hd ht hu hx hy (.inl ⟨rfl,rfl⟩)
theorem iop_neb {xt yt:TypeId} {x y:Operand} {a b:Bool} (ho:o.op = .binOp .neq xt x y yt) (hd:o.dst=some t) (ht:t<N) (hu:P.underlying xt=some .bool)
 (hx:SV S x (.bool a)) (hy:SV S y (.bool b)):IOp P O N o S (S.set t (.bool !(a == b))):=aCZ ho hd ht hu hx hy (.inr ⟨rfl,rfl⟩)

theorem cD {T:TypeId} {x:Operand} {u:TypeDesc} {z:Option Value} {size bytes:Nat} {id off:Nat} {e:TypeId} {ds r:List D} {d:D} (ho:o.op = .load T x) (hd:o.dst=some t) (ht:t<N)
 (hu:P.underlying T=some u) (hg:gH P T=false) (hi:TI P T z size bytes) (h1:0<size) (hx:SV S x (.ref id off)) (he:S.ent id = .blk e ds) (hn:off+size≤ds.length)
 (hdd:ds.drop off=d::r):IOp P O N o S (S.set t d) :=
 aAH ho hd ht hu hi hx he hn h1 (by simp [D.load,hg,hdd])
theorem bS {T:TypeId} {x:Operand} {u:TypeDesc} {z:Option Value} {size bytes:Nat} {id off:Nat} {e:TypeId} {ds cs:List D} (ho:o.op = .load T x) (hd:o.dst=some t) (ht:t<N)
 (hu:P.underlying T=some u) (hg:gH P T=true) (hi:TI P T z size bytes) (h1:0<size) (hx:SV S x (.ref id off)) (he:S.ent id = .blk e ds) (hn:off+size≤ds.length)
 (hdd:(ds.drop off).take size=cs):IOp P O N o S (S.set t (.agg cs)) :=
 aAH ho hd ht hu hi hx he hn h1 (by simp [D.load,hg,hdd])
theorem bU {T:TypeId} {x:Operand} {u:TypeDesc} {z:Option Value} {size bytes:Nat} {r:List D} {d:D} (ho:o.op = .load T x) (hd:o.dst=some t) (ht:t<N)
 (hu:P.underlying T=some u) (hg:gH P T=false) (hi:TI P T z size bytes) (h1:0<size) (hx:SV S x (.fptr (d::r))) (hn:size≤(d::r).length):IOp P O N o S (S.set t d) :=
 yR ho hd ht hu hi hx hn h1 (by simp [D.load,hg])
theorem cJ {T:TypeId} {x:Operand} {u:TypeDesc} {z:Option Value} {size bytes:Nat} {ds cs:List D} (ho:o.op = .load T x) (hd:o.dst=some t) (ht:t<N)
 (hu:P.underlying T=some u) (hg:gH P T=true) (hi:TI P T z size bytes) (h1:0<size) (hx:SV S x (.fptr ds)) (hn:size≤ds.length) (hdd:ds.take size=cs):IOp P O N o S (S.set t (.agg cs)) :=
 yR ho hd ht hu hi hx hn h1 (by simp [D.load,hg,hdd])
theorem bK {T:TypeId} {x y:Operand} {z:Option Value} {size bytes:Nat} {id off:Nat} {e:TypeId} {ds ds':List D} {d:D} (ho:o.op = .store T x y) (hd:o.dst=none)
 (hi:TI P T z size bytes) (hx:SV S x (.ref id off)) (he:S.ent id = .blk e ds) (hy:SV S y d) (hb:d.boxable=true) (hsz:d.cells.length=size) (h1:d.cells.all D.one=true)
 (hn:off+size≤ds.length) (hds:fS ds off d.cells=ds'):IOp P O N o S (S.setE id (.blk e ds')) :=
 aBp ho hd hi hx he hy hb hsz h1 hn hds

theorem sA {e:TypeId} {x:Operand} {d:D} {cs:List D} (id:Nat) (ho:o.op = .box e x) (hd:o.dst=some t) (ht:t<N) (hf:S.ent id = .fresh) (hx:SV S x d) (hb:d.boxable=true) (hcs:d.cells=cs) :
 IOp P O N o S ((S.setE id (.blk e cs)).set t (.ref id 0)):=hcs ▸ iop_box id ho hd ht hf hx hb
theorem aEM {e:TypeId} {z:Value} {size bytes:Nat} {cs:List D} (id:Nat) (ho:o.op = .alloc e) (hd:o.dst=some t) (ht:t<N) (hf:S.ent id = .fresh) (hz:TI P e (some z) size bytes) (hb:(D.ofVal z).boxable=true) (hcs:(D.ofVal z).cells=cs) :
 IOp P O N o S ((S.setE id (.blk e cs)).set t (.ref id 0)):=hcs ▸ aFB id ho hd ht hf hz hb


theorem nle {a b:Nat} (h:Nat.ble a b=true):a≤b:=Nat.le_of_ble_eq_true h

theorem aCB {x:Operand} {id sz:Nat} {l m:List D} (h:S.op x = .gsl id sz l) (e:l=m):SV S x (.slice false m):=e ▸ svg h
theorem aCA {x:Operand} {f:Bool} {l:List D} (h:S.op x = .nils) (e:l=[]):SV S x (.slice f l):=e ▸ svn h

theorem resv_a {x:Nat} {T:TypeId} {id off:Nat} {e:TypeId} {ds cs:List D} {u:TypeDesc} {z:Option Value} {size bytes:Nat} (hx:S.get x = .ref id off) (he:S.ent id = .blk e ds) (hu:P.underlying T=some u) (hg:gH P T=true) (hi:TI P T z size bytes)
 (h1:0<size) (hn:off+size≤ds.length) (hd:(ds.drop off).take size=cs):ResV P S (.cell x T) (.agg cs) :=
 ⟨id,off,e,ds,u,z,size,bytes,sv hx,he,hu,hi,hn,h1,by simp [D.load,hg,hd]⟩
def fieldsOf (P:Program) (T:TypeId):Array Field:=match P.underlying T with | some (.struct fs)=>fs | _=>#[]

end
end Go.IL
namespace Go.IL
open RowKit (Below)

def rP (β:cH) (H:List (Nat×Ent)) (b:Nat):Prop:=∃ i,(entL H i).held=true∧β i=some b

def FnH (P:Program) (f:FuncId) (ds:List D) (H0:List (Nat×Ent)) (r:D) (H1:List (Nat×Ent)):Prop :=
 ∀ (E:Env) (β:cH) (vs:List Value),E.good→(∀ i b,β i=some b→1000≤i) →
   HOk ⟨E.w,E.X,rP β H0,β,none,fun _=>[],fun _=>0,fun _=>[],fun _=>(#[],.skip,.skip)⟩ E β (entL H0)→RdL E β vs ds →
   Calls P f vs.toArray E.w fun e w'=>∃ v,e = .returned v∧∃ E' β',E'.w=w'∧HOk ⟨E.w,E.X,rP β H0,β,none,fun _=>[],fun _=>0,fun _=>[],fun _=>(#[],.skip,.skip)⟩ E' β' (entL H1)∧Rd E' β' v r

def Ent.ren (ρ:Nat→Nat):Ent→Ent
 | .blk e ds=>.blk e (D.renL ρ ds)
 | .loop k ds st p=>.loop k (D.renL ρ ds) st p
 | .kept k ds=>.kept k (D.renL ρ ds)
 | e=>e
def Ent.refsIn (p:Nat→Bool):Ent→Bool
 | .blk _ ds=>D.refsInL p ds
 | .loop ..=>false
 | .kept ..=>false
 | _=>true
theorem Ent.held_ren (ρ:Nat→Nat) (e:Ent):(e.ren ρ).held=e.held:=by cases e <;> rfl

mutual
theorem Rd.renp {E:Env} {β β':cH} {ρ:Nat→Nat} {p:Nat→Bool} (hp:∀ id b,p id=true→β id=some b→β' (ρ id)=some b):∀ {v:Value} {d:D},Rd E β v d→d.refsIn p=true→Rd E β' v (d.ren ρ)
 | _,_,.dead _ v,_=>.dead _ v
 | _,_,.bool _ b,_=>.bool _ b
 | _,_,.int _ k n,_=>.int _ k n
 | _,_,.float _ k m n h,_=>.float _ k m n h
 | _,_,.str _ l,_=>.str _ l
 | _,_,.slice _ b off len cap sz full vs l hl hc hf hz hsz hr hv,_=>.slice _ b off len cap sz full vs l hl hc hf hz hsz hr hv
 | _,_,.nslice _ f,_=>.nslice _ f
 | _,_,.eslice _ a c f h,_=>.eslice _ a c f h
 | _,_,.nils _,_=>.nils _
 | _,_,.agg _ vs cs hv,hi=>.agg _ vs _ (RdL.renp hp hv (by simpa [D.refsIn] using hi))
 | _,_,.tuple _ vs cs hv,hi=>.tuple _ vs _ (RdL.renp hp hv (by simpa [D.refsIn] using hi))
 | _,_,.fptr _ b off vs cs hr hv,_=>.fptr _ b off vs cs hr hv
 | _,_,.nilp _,_=>.nilp _
 | _,_,.nilf _,_=>.nilf _
 | _,_,.nili _,_=>.nili _
 | _,_,.fn _ f vs caps hv,hi=>.fn _ f vs _ (RdL.renp hp hv (by simpa [D.refsIn] using hi))
 | _,_,.mv _ f us first hv,hi=>.mv _ f us _ (RdL.renp hp hv (by simpa [D.refsIn] using hi))
 | _,_,.ref _ id off b hb,hi=>.ref _ _ off b (hp _ _ (by simpa [D.refsIn] using hi) hb)
 | _,_,.rsl _ id sz off len cap b o hb hc hsz ho c e f h1 h2 h3,hi=>.rsl _ _ sz off len cap b o (hp _ _ (by simpa [D.refsIn] using hi) hb) hc hsz ho c e f h1 h2 h3
 | _,_,.gsl _ id b len cap sz vs l hb hl hc hz hsz hr hv c e f h1 h2 h3,hi=>.gsl _ _ b len cap sz vs l (hp _ _ (by simpa [D.refsIn] using hi) hb) hl hc hz hsz hr hv c e f h1 h2 h3
 | _,_,.ngsl _ id sz,_=>.ngsl _ _ sz
 | _,_,.osl _ id b len cap sz hb hc hsz c e f h1 h2 h3,hi=>.osl _ _ b len cap sz (hp _ _ (by simpa [D.refsIn] using hi) hb) hc hsz c e f h1 h2 h3
 | _,_,.nosl _ id sz,_=>.nosl _ _ sz
 | _,_,.cnd _ v b d hv hu,hi=>.cnd _ v b _ (fun hb=>Rd.renp hp (hv hb) (by simpa [D.refsIn] using hi)) hu
 | _,_,.yld _ id l hb,hi=>.yld _ _ l (hp id l (by simpa [D.refsIn] using hi) hb)
theorem RdL.renp {E:Env} {β β':cH} {ρ:Nat→Nat} {p:Nat→Bool} (hp:∀ id b,p id=true→β id=some b→β' (ρ id)=some b):∀ {vs:List Value} {ds:List D},RdL E β vs ds→D.refsInL p ds=true→RdL E β' vs (D.renL ρ ds)
 | _,_,.nil _,_=>.nil _
 | _,_,.cons (d:=d) (ds:=ds) hv t,hi =>
   have hi':d.refsIn p=true∧D.refsInL p ds=true:=by simpa [D.refsInL] using hi
   .cons (Rd.renp hp hv hi'.1) (RdL.renp hp t hi'.2)
end

def sig (k:Nat) (A:List Nat) (i:Nat):Nat:=if 1000≤i then A.getD (i-1000) 0 else k+i
def fF (A:List Nat) (i:Nat):Bool:=Nat.ble 1000 i&&Nat.blt i (1000+A.length)
def pN (k:Nat) (A:List Nat) (i:Nat):Bool:=Nat.blt (k+i) 1000||fF A i

theorem kQ {α:Type} {z:α} {i:Nat}:∀ {l:List (Nat×α)},i∈l.map (·.1)→∃ e,(i,e)∈l∧look z i l=e
 | (j,e)::l,h=>by
   rw [bB]
   by_cases hj:j=i
   · subst hj; exact ⟨e,by simp,by simp⟩
   · rw [if_neg hj]
     have:i∈l.map (·.1):=by simp only [List.map_cons,List.mem_cons] at h; rcases h with h | h; exact absurd h.symm hj; exact h
     obtain ⟨e',h1,h2⟩:=kQ (z:=z) this
     exact ⟨e',by simp [h1],h2⟩
theorem iV {α:Type} {z:α} {i:Nat}:∀ {l:List (Nat×α)},i ∉ l.map (·.1)→look z i l=z
 | [],_=>rfl
 | (j,e)::l,h=>by
   simp only [List.map_cons,List.mem_cons,not_or] at h
   rw [bB,if_neg (Ne.symm h.1)]; exact iV h.2

theorem yW {H:List (Nat×Ent)} {i:Nat} (h:(entL H i).held=true):(i,entL H i)∈H:=by
 by_cases hm:i∈H.map (·.1)
 · obtain ⟨e,h1,h2⟩:=kQ (z:=defE i) hm
   rw [show entL H i=e from h2]; exact h1
 · have:entL H i=defE i:=iV hm
   rw [this] at h; unfold defE at h; split at h <;> cases h

section
variable {P:Program} {O:cT} {N:Nat} {S S':St} {o:Oper} {t:Nat}

structure Hand (S:St) (k:Nat) (A:List Nat) (H0:List (Nat×Ent)):Prop where
 keys:(S.H.map (·.1)).all (fun i=>Nat.blt i k||Nat.ble 1000 i)=true
 kA:A.all (fun i=>Nat.blt i k||Nat.ble 1000 i)=true
 nd:A.Nodup
 cov:A.all (fun i=>(H0.map fun x=>sig k A x.1).contains i)=true
 ents:∀ x∈H0,fF A x.1=true∧x.2.held=true∧S.ent (sig k A x.1)=x.2.ren (sig k A)∧x.2.refsIn (fF A)=true

def zB (k:Nat) (A:List Nat) (H0 H1 H:List (Nat×Ent)):List (Nat×Ent) :=
 (H1.map fun x=>(sig k A x.1,x.2.ren (sig k A)))++((H0.map fun x=>(sig k A x.1,Ent.none))++H)

theorem sL {k i:Nat} {A:List Nat} (h:fF A i=true):sig k A i∈A:=by
 simp only [fF,Bool.and_eq_true,Nat.ble_eq,Nat.blt_eq] at h
 simp only [sig,if_pos h.1]
 rw [List.getD_eq_getElem?_getD,List.getElem?_eq_getElem (show i-1000<A.length by omega)]
 exact List.getElem_mem _
theorem aCR:∀ {A:List Nat},A.Nodup→∀ {j:Nat} (hj:j<A.length),A.idxOf A[j]=j
 | [],_,_,hj=>absurd hj (by simp)
 | a::A,_,0,_=>by simp [List.idxOf_cons]
 | a::A,hn,j+1,hj=>by
   rw [List.nodup_cons] at hn
   have hj':j<A.length:=by simpa using hj
   have hne:¬ a=A[j]:=fun h=>hn.1 (h ▸ List.getElem_mem hj')
   have:=aCR hn.2 hj'
   simp only [List.getElem_cons_succ,List.idxOf_cons]
   rw [this,show (a == A[j])=false from by simpa using hne]; rfl
theorem aFH {i:Nat}:∀ {A:List Nat} (h:A.idxOf i<A.length),A[A.idxOf i]=i
 | [],h=>absurd h (by simp)
 | a :: A,h=>by
   by_cases hai:a=i
   · subst hai; simp [List.idxOf_cons]
   · have e:(a::A).idxOf i=A.idxOf i+1:=by rw [List.idxOf_cons,show (a == i)=false from by simpa using hai]; rfl
     have h':A.idxOf i<A.length:=by rw [e] at h; simpa using h
     have:=aFH h'
     simp only [e,List.getElem_cons_succ]; exact this
theorem aBb {k i:Nat} {A:List Nat} (hn:A.Nodup) (h:fF A i=true):1000+A.idxOf (sig k A i)=i:=by
 simp only [fF,Bool.and_eq_true,Nat.ble_eq,Nat.blt_eq] at h
 simp only [sig,if_pos h.1]
 have hlt:i-1000<A.length:=by omega
 rw [List.getD_eq_getElem?_getD,List.getElem?_eq_getElem hlt,Option.getD_some,aCR hn hlt]
 omega
theorem aBa {k i j:Nat} {A:List Nat} (hn:A.Nodup) (hi:fF A i=true) (hj:fF A j=true) (h:sig k A i=sig k A j):i=j:=by
 rw [←aBb (k:=k) hn hi,←aBb (k:=k) hn hj,h]
theorem aAJ {k i:Nat} {A:List Nat} (h:i∈A):fF A (1000+A.idxOf i)=true∧sig k A (1000+A.idxOf i)=i:=by
 have hlt:=List.idxOf_lt_length_of_mem h
 constructor
 · simp only [fF,Bool.and_eq_true,Nat.ble_eq,Nat.blt_eq]; omega
 · simp only [sig,if_pos (Nat.le_add_right 1000 _)]
   rw [show 1000+A.idxOf i-1000=A.idxOf i by omega,List.getD_eq_getElem?_getD,List.getElem?_eq_getElem hlt,Option.getD_some]
   exact aFH hlt

theorem aBL {f:FuncId} {ds ds':List D} {r r':D} {H0 H1 H2:List (Nat×Ent)} (k:Nat) (A:List Nat) (hd:o.dst=some t) (ht:t<N)
 (h:∀ E β a,Rel O N S E β a→∃ vs:List Value,(execOp a.eval o).run P E.w = .ok (.enter f vs.toArray) E.w∧RdL E β vs ds') (hds:D.renL (sig k A) ds=ds') (hp:D.refsInL (fF A) ds=true)
 (hh:Hand S k A H0) (hf:FnH P f ds H0 r H1) (hrr:r.ren (sig k A)=r') (hrp:r.refsIn (pN k A)=true) (hH1:∀ x∈H1,pN k A x.1=true∧x.2.refsIn (pN k A)=true)
 (hH2:zB k A H0 H1 S.H=H2):IOp P O N o S (St.set ⟨S.sl,H2⟩ t r'):=by
 intro E β a hr next Q hn
 obtain ⟨vs,hrun,hv⟩:=h E β a hr
 unfold Oper.wp
 rw [hrun]
 simp only [Oper.upon,hd]
 subst hds hrr hH2
 let βc:cH:=fun i=>if fF A i=true then β (sig k A i) else none
 have hβc:∀ id,fF A id=true→βc id=β (sig k A id):=fun id hid=>by simp [βc,hid]
 have hvc:RdL E βc vs ds:=RdL.ren hβc ds hv hp
 have h0:∀ i,(entL H0 i).held=true→fF A i=true∧S.ent (sig k A i)=(entL H0 i).ren (sig k A)∧(entL H0 i).refsIn (fF A)=true:=fun i hi=>by
  have h1:=hh.ents _ (yW hi)
  exact ⟨h1.1,h1.2.2.1,h1.2.2.2⟩
 have hcall:HOk ⟨E.w,E.X,rP βc H0,βc,none,fun _=>[],fun _=>0,fun _=>[],fun _=>(#[],.skip,.skip)⟩ E βc (entL H0):={
  tab:=hr.h.good.tab,os:=rfl,tape:=rfl,output:=rfl,size:=Nat.le_refl _,block:=fun _ _ _=>rfl,xlt:=hr.h.xlt,xold:=fun _ _ _ _=>Iff.rfl,le:=Env.le.refl _
  gid:=fun i b hi=>by
   by_cases hg:fF A i=true
   · simp only [fF,Bool.and_eq_true,Nat.ble_eq] at hg; exact hg.1
   · simp [βc,hg] at hi
  given:=fun _ _ hi=>hi
  ent := fun i=>by
   cases hhe:(entL H0 i).held with
   | true =>
     obtain ⟨h1,h2,h3⟩:=h0 i hhe
     have he:=hr.h.ent (sig k A i)
     rw [h2] at he
     have hown:∀ b,βc i=some b→(⟨E.w,E.X,rP βc H0,βc,none,fun _=>[],fun _=>0,fun _=>[],fun _=>(#[],.skip,.skip)⟩:cT).own b:=fun b hb=>.inr ⟨i,hhe,hb⟩
     cases hE:entL H0 i with
     | none=>trivial
     | fresh=>rw [hE] at hhe; cases hhe
     | blk e es =>
       rw [hE] at he h3
       rcases he with ⟨g1,g2⟩ | ⟨b,ws,sp,g1,g2,g3,g4,g5⟩
       · exact .inl ⟨(hβc i h1).trans g1,aAS g2⟩
       · exact .inr ⟨b,ws,sp,(hβc i h1).trans g1,hown b ((hβc i h1).trans g1),g3,g4,RdL.ren hβc es g5 h3⟩
     | tail e sz n =>
       rw [hE] at he
       rcases he with ⟨g1,g2⟩ | ⟨b,c,g1,g2,g3,g4⟩
       · exact .inl ⟨(hβc i h1).trans g1,g2⟩
       · exact .inr ⟨b,c,(hβc i h1).trans g1,hown b ((hβc i h1).trans g1),g3,g4⟩
     | loop lk es st pe =>
       rw [hE] at h3; cases h3
     | kept n es=>rw [hE] at hhe; cases hhe
   | false =>
     cases hE:entL H0 i with
     | none=>trivial
     | fresh =>
       show βc i=none
       by_cases hm:i∈H0.map (·.1)
       · obtain ⟨e,h1,h2⟩:=kQ (z:=defE i) hm
         have h3:=hh.ents _ h1
         have:entL H0 i=e:=h2
         rw [hE] at this; rw [←this] at h3; exact absurd h3.2.1 (by simp [Ent.held])
       · have:entL H0 i=defE i:=iV hm
         rw [hE] at this
         unfold defE at this
         split at this
         · cases this
         · rename_i hlt
           have:¬ fF A i=true:=by simp only [fF,Bool.and_eq_true,Nat.ble_eq]; omega
           simp [βc,this]
     | blk=>rw [hE] at hhe; cases hhe
     | tail=>rw [hE] at hhe; cases hhe
     | loop=>rw [hE] at hhe; cases hhe
     | kept n es =>
       exfalso
       by_cases hm:i∈H0.map (·.1)
       · obtain ⟨e,h1,h2⟩:=kQ (z:=defE i) hm
         have h3:=hh.ents _ h1
         have:entL H0 i=e:=h2
         rw [hE] at this; rw [←this] at h3; exact absurd h3.2.1 (by simp [Ent.held])
       · have:entL H0 i=defE i:=iV hm
         rw [hE] at this
         unfold defE at this
         split at this <;> cases this
  inj:=fun i j b hi hj h1 h2=>by
   obtain ⟨a1,a2,_⟩:=h0 i hi
   obtain ⟨b1,b2,_⟩:=h0 j hj
   have h1:β (sig k A i)=some b:=(hβc i a1).symm.trans h1
   have h2:β (sig k A j)=some b:=(hβc j b1).symm.trans h2
   exact aBa hh.nd a1 b1 (hr.h.inj _ _ b (by rw [a2,Ent.held_ren]; exact hi) (by rw [b2,Ent.held_ren]; exact hj) h1 h2) }
 refine (hf E βc vs hr.h.good hcall.gid hcall hvc).mono ?_
 rintro e w' ⟨v,rfl,E',β',rfl,hok,hrd⟩
 -- old blocks that were not handed over
 have hfoot:∀ b,rP βc H0 b→∃ i,fF A i=true∧(S.ent (sig k A i)).held=true∧β (sig k A i)=some b:=fun b ⟨i,hi,hb⟩=>by
  obtain ⟨h1,h2,_⟩:=h0 i hi
  exact ⟨i,h1,by rw [h2,Ent.held_ren]; exact hi,by rw [←hβc i h1]; exact hb⟩
 have hfown:∀ b,rP βc H0 b→O.own b:=fun b hb=>by
  obtain ⟨i,_,h2,h3⟩:=hfoot b hb
  have he:=hr.h.ent (sig k A i)
  exact hr.h.own h2 h3
 have hcown:∀ b,(⟨E.w,E.X,rP βc H0,βc,none,fun _=>[],fun _=>0,fun _=>[],fun _=>(#[],.skip,.skip)⟩:cT).own b→O.own b:=fun b hb=>by
  rcases hb with hb | hb
  · exact .inl (Nat.le_trans hr.h.size hb)
  · exact hfown b hb
 have hfresh:∀ i,k≤i→i<1000→β i=none:=fun i h1 h2=>by
  have he:=hr.h.ent i
  have:S.ent i = .fresh:=by
   have hnm:i ∉ S.H.map (·.1):=fun hm=>by
    have:=List.all_eq_true.1 hh.keys i hm
    simp only [Bool.or_eq_true,Nat.blt_eq,Nat.ble_eq] at this; omega
   have h3:S.ent i=defE i:=iV hnm
   rw [h3,defE,if_neg (by omega)]
  rw [this] at he; exact he
 let βn:cH:=fun i=>if k≤i∧i<1000 then β' (i-k) else if i∈A then β' (1000+A.idxOf i) else β i
 have hAk:∀ i,i∈A→¬ (k≤i∧i<1000):=fun i hi=>by
  have:=List.all_eq_true.1 hh.kA _ hi
  simp only [Bool.or_eq_true,Nat.blt_eq,Nat.ble_eq] at this; omega
 have hnA:∀ i,i∈A→βn i=β' (1000+A.idxOf i):=fun i hi=>by simp [βn,hAk i hi,hi]
 have hnO:∀ i,i ∉ A→¬ (k≤i∧i<1000)→βn i=β i:=fun i h1 h2=>by simp [βn,h1,h2]
 have hβ1:β.le βn:=fun i b hi=>by
  by_cases hki:k≤i∧i<1000
  · rw [hfresh i hki.1 hki.2] at hi; cases hi
  · by_cases hA:i∈A
    · rw [hnA i hA]
      obtain ⟨h1,h2⟩:=aAJ (k:=k) hA
      exact hok.given _ _ (((hβc _ h1).trans (by rw [h2])).trans hi)
    · rw [hnO i hA hki]; exact hi
 have hβ2:∀ i,pN k A i=true→βn (sig k A i)=β' i:=fun i hi=>by
  by_cases hg:fF A i=true
  · rw [hnA _ (sL hg),aBb hh.nd hg]
  · simp only [pN,hg,Bool.or_false,Nat.blt_eq] at hi
    have h2:¬ 1000≤i:=by omega
    have h1:sig k A i=k+i:=by simp [sig,h2]
    rw [h1]
    simp [βn,hi]
 have hle:E.le E':=hok.le
 -- the entries behind the call
 have hkey1:∀ i,pN k A i=true→∀ j,pN k A j=true→sig k A i=sig k A j→i=j:=fun i hi j hj hij=>by
  by_cases hgi:fF A i=true
  · by_cases hgj:fF A j=true
    · exact aBa hh.nd hgi hgj hij
    · exfalso
      simp only [pN,hgj,Bool.or_false,Nat.blt_eq] at hj
      have h2:sig k A j=k+j:=by simp [sig,show ¬1000≤j by omega]
      exact hAk _ (sL (k:=k) hgi) (by rw [hij,h2]; omega)
  · by_cases hgj:fF A j=true
    · exfalso
      simp only [pN,hgi,Bool.or_false,Nat.blt_eq] at hi
      have h2:sig k A i=k+i:=by simp [sig,show ¬1000≤i by omega]
      exact hAk _ (sL (k:=k) hgj) (by rw [←hij,h2]; omega)
    · simp only [pN,hgi,hgj,Bool.or_false,Nat.blt_eq] at hi hj
      simp only [sig,show ¬1000≤i by omega,show ¬1000≤j by omega,if_false] at hij
      omega
 have hent:∀ i,(St.set ⟨S.sl,zB k A H0 H1 S.H⟩ t (r.ren (sig k A))).ent i =
  if i∈H1.map (fun x=>sig k A x.1) then (look (defE i) i (H1.map fun x=>(sig k A x.1,x.2.ren (sig k A)))) else if i∈H0.map (fun x=>sig k A x.1) then .none else S.ent i:=fun i=>by
  simp only [St.ent,entL,St.set,zB,rM,List.map_map]
  have e1:(Prod.fst ∘ fun x:Nat×Ent=>(sig k A x.1,x.2.ren (sig k A)))=fun x=>sig k A x.1:=rfl
  have e2:(Prod.fst ∘ fun x:Nat×Ent=>(sig k A x.1,Ent.none))=fun x=>sig k A x.1:=rfl
  rw [e1,e2]
  split
  · rfl
  · split
    · rename_i h1 h2
      obtain ⟨e,h3,h4⟩:=kQ (z:=defE i) (l:=H0.map fun x=>(sig k A x.1,Ent.none)) (by rw [List.map_map,e2]; exact h2)
      rw [h4]
      obtain ⟨x,_,hx⟩:=List.mem_map.1 h3
      cases hx; rfl
    · rfl
 have hlook1:∀ j,pN k A j=true→j∈H1.map (·.1)→look (defE (sig k A j)) (sig k A j) (H1.map fun x=>(sig k A x.1,x.2.ren (sig k A)))=(entL H1 j).ren (sig k A):=by
  intro j hj
  unfold entL
  have aux:∀ (z z':Ent) (l:List (Nat×Ent)),(∀ x∈l,pN k A x.1=true)→j∈l.map (·.1)→look z (sig k A j) (l.map fun x=>(sig k A x.1,x.2.ren (sig k A)))=(look z' j l).ren (sig k A):=by
   intro z z' l
   induction l with
   | nil=>intro _ h; simp at h
   | cons x l ih =>
     obtain ⟨i,e⟩:=x
     intro hl hm
     simp only [List.map_cons,bB]
     by_cases hij:i=j
     · subst hij; rw [if_pos rfl,if_pos rfl]
     · rw [if_neg (fun h=>hij (hkey1 i (hl (i,e) List.mem_cons_self) j hj h)),if_neg hij]
       refine ih (fun x hx=>hl x (List.mem_cons_of_mem _ hx)) ?_
       simp only [List.map_cons,List.mem_cons] at hm
       rcases hm with h | h
       · exact absurd h.symm hij
       · exact h
  exact aux _ _ H1 (fun x hx=>(hH1 x hx).1)
 have hH1r:∀ j,j∈H1.map (·.1)→pN k A j=true∧(entL H1 j).refsIn (pN k A)=true:=fun j hj=>by
  obtain ⟨e,h1,h2⟩:=kQ (z:=defE j) hj
  have h3:=hH1 _ h1
  exact ⟨h3.1,by rw [show entL H1 j=e from h2]; exact h3.2⟩
 have cases1:∀ i,i∈H1.map (fun x=>sig k A x.1)→∃ j,j∈H1.map (·.1)∧pN k A j=true∧i=sig k A j:=fun i hi=>by
  obtain ⟨x,hx,rfl⟩:=List.mem_map.1 hi
  exact ⟨x.1,List.mem_map.2 ⟨x,hx,rfl⟩,(hH1 x hx).1,rfl⟩
 -- an entry that was not handed over
 have hold:∀ i,i ∉ H1.map (fun x=>sig k A x.1)→i ∉ H0.map (fun x=>sig k A x.1)→(S.ent i).held=true→∀ b,β i=some b→βn i=some b∧b<E.w.heap.size∧¬ rP βc H0 b:=fun i h1 h2 h3 b hb=>by
  refine ⟨hβ1 i b hb,?_,?_⟩
  · exact hr.h.lt h3 hb
  · rintro ⟨j,hj,hbj⟩
    obtain ⟨g1,g2,_⟩:=h0 j hj
    have:i=sig k A j:=hr.h.inj i (sig k A j) b h3 (by rw [g2,Ent.held_ren]; exact hj) hb (by rw [←hβc j g1]; exact hbj)
    exact h2 (List.mem_map.2 ⟨_,yW hj,this.symm⟩)
 have hcov:∀ i,i∈A→i∈H0.map (fun x=>sig k A x.1):=fun i hi=>by
  have:=List.all_eq_true.1 hh.cov i hi
  simpa using this
 have hold':∀ i,i ∉ H0.map (fun x=>sig k A x.1)→S.ent i ≠ .fresh→βn i=β i:=fun i h0 hf=>by
  refine hnO i (fun hA=>h0 (hcov i hA)) (fun hki=>hf ?_)
  have hnm:i ∉ S.H.map (·.1):=fun hm=>by
   have:=List.all_eq_true.1 hh.keys i hm
   simp only [Bool.or_eq_true,Nat.blt_eq,Nat.ble_eq] at this; omega
  have h3:S.ent i=defE i:=iV hnm
  rw [h3,defE,if_neg (by omega)]
 refine hn E' βn _ ⟨by simp [Act.put,hr.n],hr.nd.mono (fun b hx=>(hok.block b (dQ hx) (fun hf=>by obtain ⟨i,_,h2,h3⟩:=hfoot b hf; exact hr.h.nodef h2 h3 _ hx)).trans hx),?_,?_⟩
 · exact {
    tab:=hr.h.tab,os:=hok.os.trans hr.h.os,tape:=hok.tape.trans hr.h.tape,output:=hok.output.trans hr.h.output,size:=Nat.le_trans hr.h.size hok.size
    block:=fun j hj hf=>by
     have hnf:¬ rP βc H0 j:=fun h=>by
      rcases hfown j h with h1 | h1
      · omega
      · exact hf h1
     exact (hok.block j (Nat.lt_of_lt_of_le hj hr.h.size) hnf).trans (hr.h.block j hj hf)
    xlt:=hok.xlt
    xold:=fun b o hb hf=>by
     have hnf:¬ rP βc H0 b:=fun h=>by
      rcases hfown b h with h1 | h1
      · omega
      · exact hf h1
     exact (hok.xold b o (Nat.lt_of_lt_of_le hb hr.h.size) hnf).trans (hr.h.xold b o hb hf)
    le:=hr.h.le.trans hle
    gid:=hr.h.gid
    given:=fun i b hi=>hβ1 i b (hr.h.given i b hi)
    ent := fun i=>by
     rw [hent i]
     by_cases hi1:i∈H1.map (fun x=>sig k A x.1)
     · rw [if_pos hi1]
       obtain ⟨j,hj,hbj,rfl⟩:=cases1 i hi1
       rw [hlook1 j hbj hj]
       have he:=hok.ent j
       have hrf:=(hH1r j hj).2
       have hb2:=hβ2 j hbj
       cases hE:entL H1 j with
       | none=>trivial
       | fresh=>rw [hE] at he; exact hb2.trans he
       | blk e es =>
         rw [hE] at he hrf
         rcases he with ⟨g1,g2⟩ | ⟨b,ws,sp,g1,g2,g3,g4,g5⟩
         · exact .inl ⟨hb2.trans g1,by rw [g2]; rfl⟩
         · exact .inr ⟨b,ws,sp,hb2.trans g1,hcown b g2,g3,g4,RdL.renp (fun id b hid hb=>(hβ2 id hid).trans hb) g5 hrf⟩
       | tail e sz n =>
         rw [hE] at he
         rcases he with ⟨g1,g2⟩ | ⟨b,c,g1,g2,g3,g4⟩
         · exact .inl ⟨hb2.trans g1,g2⟩
         · exact .inr ⟨b,c,hb2.trans g1,hcown b g2,g3,g4⟩
       | loop lk es st pe =>
         rw [hE] at hrf; cases hrf
       | kept n es=>rw [hE] at hrf; cases hrf
     · rw [if_neg hi1]
       by_cases hi0:i∈H0.map (fun x=>sig k A x.1)
       · rw [if_pos hi0]; trivial
       · rw [if_neg hi0]
         have he:=hr.h.ent i
         have hnb:∀ b,(S.ent i).held=true→β i=some b→βn i=some b∧E'.w.heap[b]? = E.w.heap[b]? ∧ ∀ o,(E'.X b o↔E.X b o):=fun b hhe hb=>by
          obtain ⟨g1,g2,g3⟩:=hold i hi1 hi0 hhe b hb
          exact ⟨g1,hok.block b g2 g3,fun o=>hok.xold b o g2 g3⟩
         cases hE:S.ent i with
         | none=>trivial
         | fresh =>
           rw [hE] at he
           show βn i=none
           by_cases hki:k≤i∧i<1000
           · -- a fresh name of the callee's that is told by nothing
             have hbi:i-k ∉ H1.map (·.1):=fun hm=>by
              have hbb:=(hH1r _ hm).1
              refine hi1 ?_
              obtain ⟨x,hx,hxe⟩:=List.mem_map.1 hm
              refine List.mem_map.2 ⟨x,hx,?_⟩
              have hx':x.1=i-k:=hxe
              rw [hx']
              simp only [sig,show ¬1000≤i-k by omega,if_false]
              omega
             have h3:=hok.ent (i-k)
             have h4:entL H1 (i-k)=defE (i-k):=iV hbi
             rw [h4,defE,if_neg (by omega)] at h3
             simp only [βn,hki,and_self,if_true]
             exact h3
           · rw [hnO i (fun hA=>hi0 (hcov i hA)) hki]; exact he
         | blk e es =>
           rw [hE] at he
           rcases he with ⟨g1,g2⟩ | ⟨b,ws,sp,g1,g2,g3,g4,g5⟩
           · exact .inl ⟨(hold' i hi0 (by rw [hE]; exact fun h=>by cases h)).trans g1,g2⟩
           · obtain ⟨f1,f2,f3⟩:=hnb b (by rw [hE]; rfl) g1
             exact .inr ⟨b,ws,sp,f1,g2,f2.trans g3,fun o=>(f3 o).2 (g4 o),RdL.mono hle hβ1 g5⟩
         | tail e sz n =>
           rw [hE] at he
           rcases he with ⟨g1,g2⟩ | ⟨b,c,g1,g2,g3,g4⟩
           · exact .inl ⟨(hold' i hi0 (by rw [hE]; exact fun h=>by cases h)).trans g1,g2⟩
           · obtain ⟨f1,f2,f3⟩:=hnb b (by rw [hE]; rfl) g1
             exact .inr ⟨b,c,f1,g2,f2.trans g3,fun o ho=>(f3 o).2 (g4 o ho)⟩
         | loop lk es st pe =>
           rw [hE] at he
           obtain ⟨b,q,g1,g2,g3,g4,g5,g6,g7,g8,g9,g10⟩:=he
           obtain ⟨f1,f2,f3⟩:=hnb b (by rw [hE]; rfl) g1
           exact ⟨b,q,f1,g2,f2.trans g3,fun o=>(f3 o).2 (g4 o),g5,g6,g7,g8,g9,g10.1,RdL.mono hle hβ1 g10.2⟩
         | kept n es =>
           rw [hE] at he
           exact ⟨RdL.mono hle hβ1 he.1,fun c hc=>(hok.block c (dQ (he.2 c hc)) (fun hf=>by obtain ⟨i,_,h2,h3⟩:=hfoot c hf; exact hr.h.nodef h2 h3 _ (he.2 c hc))).trans (he.2 c hc)⟩
    inj := fun i j b hi hj hbi hbj=>by
     rw [hent i] at hi
     rw [hent j] at hj
     have hone:∀ i,i∈H1.map (fun x=>sig k A x.1)→(look (defE i) i (H1.map fun x=>(sig k A x.1,x.2.ren (sig k A)))).held=true→βn i=some b→∃ a,(entL H1 a).held=true∧β' a=some b∧i=sig k A a∧pN k A a=true:=fun i hm hh hb=>by
      obtain ⟨a,ha,hba,rfl⟩:=cases1 i hm
      rw [hlook1 a hba ha,Ent.held_ren] at hh
      exact ⟨a,hh,(hβ2 a hba).symm.trans hb,rfl,hba⟩
     have hown1:∀ a,(entL H1 a).held=true→β' a=some b→E.w.heap.size≤b∨rP βc H0 b:=fun a hh hb=>by
      exact hok.own hh hb
     have hto:∀ i,i ∉ H0.map (fun x=>sig k A x.1)→(S.ent i).held=true→βn i=some b→β i=some b:=fun i h0 hh hb=>by
      rw [←hold' i h0 (fun h=>by rw [h] at hh; cases hh)]; exact hb
     have hmix:∀ i j,i∈H1.map (fun x=>sig k A x.1)→(look (defE i) i (H1.map fun x=>(sig k A x.1,x.2.ren (sig k A)))).held=true→βn i=some b→j ∉ H1.map (fun x=>sig k A x.1)→j ∉ H0.map (fun x=>sig k A x.1)→(S.ent j).held=true→βn j=some b→False:=fun i j h1 h2 h3 h4 h5 h6 h7=>by
      obtain ⟨a,ha,hb,_⟩:=hone i h1 h2 h3
      obtain ⟨_,f2,f3⟩:=hold j h4 h5 h6 b (hto j h5 h6 h7)
      rcases hown1 a ha hb with h | h
      · omega
      · exact f3 h
     by_cases hi1:i∈H1.map (fun x=>sig k A x.1)
     · rw [if_pos hi1] at hi
       by_cases hj1:j∈H1.map (fun x=>sig k A x.1)
       · rw [if_pos hj1] at hj
         obtain ⟨a,ha,hab,rfl,_⟩:=hone i hi1 hi hbi
         obtain ⟨c,hc,hcb,rfl,_⟩:=hone j hj1 hj hbj
         rw [hok.inj a c b ha hc hab hcb]
       · rw [if_neg hj1] at hj
         by_cases hj0:j∈H0.map (fun x=>sig k A x.1)
         · rw [if_pos hj0] at hj; cases hj
         · rw [if_neg hj0] at hj
           exact (hmix i j hi1 hi hbi hj1 hj0 hj hbj).elim
     · rw [if_neg hi1] at hi
       by_cases hi0:i∈H0.map (fun x=>sig k A x.1)
       · rw [if_pos hi0] at hi; cases hi
       · rw [if_neg hi0] at hi
         by_cases hj1:j∈H1.map (fun x=>sig k A x.1)
         · rw [if_pos hj1] at hj
           exact (hmix j i hj1 hj hbj hi1 hi0 hi hbi).elim
         · rw [if_neg hj1] at hj
           by_cases hj0:j∈H0.map (fun x=>sig k A x.1)
           · rw [if_pos hj0] at hj; cases hj
           · rw [if_neg hj0] at hj
             exact hr.h.inj i j b hi hj (hto i hi0 hi hbi) (hto j hj0 hj hbj) }
 · intro s
   have hts:t<a.tmps.size:=hr.n ▸ ht
   by_cases hst:t=s
   · subst hst
     have h1:=Rd.renp (p:=pN k A) (fun id b hid hb=>(hβ2 id hid).trans hb) hrd hrp
     simpa [Act.put,St.get,St.set,bB,hts] using h1
   · have:=Rd.mono hle hβ1 (hr.sl s)
     simpa [Act.put,St.get,St.set,bB,hst,Array.getElem?_setIfInBounds_ne] using this

theorem aFA {f:FuncId} {xs:List Operand} {ts:Array TypeId} {ds ds':List D} {r r':D} {H0 H1 H2:List (Nat×Ent)} (k:Nat) (A:List Nat) (ho:o.op = .call { callee:=.value (.func f),args:=xs.toArray,argTypes:=ts }) (hd:o.dst=some t) (ht:t<N)
 (hc:aU P f) (hx:SVs S xs ds') (hds:D.renL (sig k A) ds=ds') (hp:D.refsInL (fF A) ds=true)
 (hh:Hand S k A H0) (hf:FnH P f ds H0 r H1) (hrr:r.ren (sig k A)=r') (hrp:r.refsIn (pN k A)=true) (hH1:∀ x∈H1,pN k A x.1=true∧x.2.refsIn (pN k A)=true)
 (hH2:zB k A H0 H1 S.H=H2):IOp P O N o S (St.set ⟨S.sl,H2⟩ t r') :=
 aBL k A hd ht (fun E β a hr=>⟨xs.map a.eval,by
  simp [execOp,ho,resolve,Deferred.ofValue,Act.eval,invoke,jZ hc],hx.rd hr⟩) hds hp hh hf hrr hrp hH1 hH2

theorem aEK {x:Operand} {f:FuncId} {caps:List D} {xs:List Operand} {ts:Array TypeId} {ds ds':List D} {r r':D} {H0 H1 H2:List (Nat×Ent)} (k:Nat) (A:List Nat) (ho:o.op = .call { callee:=.value x,args:=xs.toArray,argTypes:=ts }) (hd:o.dst=some t) (ht:t<N)
 (hc:aU P f) (hfx:SV S x (.fn f caps)) (hx:SVs S xs ds') (hds:D.renL (sig k A) ds=ds'++caps) (hp:D.refsInL (fF A) ds=true)
 (hh:Hand S k A H0) (hf:FnH P f ds H0 r H1) (hrr:r.ren (sig k A)=r') (hrp:r.refsIn (pN k A)=true) (hH1:∀ x∈H1,pN k A x.1=true∧x.2.refsIn (pN k A)=true)
 (hH2:zB k A H0 H1 S.H=H2):IOp P O N o S (St.set ⟨S.sl,H2⟩ t r') :=
 aBL k A hd ht (fun E β a hr=>by
  obtain ⟨vs,hev,hl⟩:=aFs (hfx.rd hr)
  exact ⟨xs.map a.eval++vs,by simp [execOp,ho,resolve,Deferred.ofValue,hev,invoke,jZ hc],(hx.rd hr).append hl⟩) hds hp hh hf hrr hrp hH1 hH2

theorem gE {f:FuncId} {fn:Func} {c:Code} {ds rs:List D} {H0 H1:List (Nat×Ent)} (hf:P.funcs[f]? = some fn) (hb:fn.body=some c) (hN:fn.ntmps=N) (hlen:ds.length≤N)
 (h:∀ O:cT,O.Plain→IWP P O N c ⟨(List.range ds.length).zip ds,H0⟩ (fun e S=>(e = .normal∨e = .ret)∧∃ ρ,Weak S ⟨[],H1⟩ ρ∧aB4 P S fn.results.toList (D.renL ρ rs)∧D.refsInL (St.okn ⟨[],H1⟩) rs=true)):FnH P f ds H0 (retD rs) H1:=by
 intro E β vs hX hβ hok0 hvs
 let O:cT:=⟨E.w,E.X,rP β H0,β,none,fun _=>[],fun _=>0,fun _=>[],fun _=>(#[],.skip,.skip)⟩
 have hl:=hvs.length
 have hrel : Rel O N ⟨(List.range ds.length).zip ds,H0⟩ E β { tmps:=vs.toArray++Array.replicate (fn.ntmps-vs.toArray.size) undef,defers:=[] }:=by
  refine ⟨by simp; omega,tJ.nil,hok0,?_⟩
  intro s
  have key : ∀ (ds:List D) (vs:List Value) (k:Nat),RdL E β vs ds→Rd E β (if s<k then undef else vs.getD (s-k) undef) (look .dead s ((List.range' k ds.length).zip ds)):=by
   intro ds
   induction ds with
   | nil=>intro vs k _; simp [look]; exact .dead _ _
   | cons d ds ih =>
     intro vs k hv
     cases hv with
     | cons h1 h2 =>
       simp only [List.length_cons,List.range'_succ,List.zip_cons_cons,bB]
       by_cases hks:k=s
       · subst hks; simpa using h1
       · rw [if_neg hks]
         have:=ih _ (k+1) h2
         by_cases hlt:s<k
         · simpa [hlt,show s<k+1 by omega] using this
         · have h3:¬ s<k+1:=by omega
           rw [if_neg hlt]; rw [if_neg h3] at this
           rw [show s-k=(s-(k+1))+1 by omega]
           simpa using this
  have:=key ds vs 0 hvs
  rw [List.range_eq_range']
  simp only [Nat.not_lt_zero,if_false,Nat.sub_zero] at this
  have hg:(vs.toArray++Array.replicate (fn.ntmps-vs.toArray.size) undef).getD s undef=vs.getD s undef:=by
   by_cases hs:s<vs.length
   · simp [hs,Array.getElem?_append]
   · simp [Array.getElem?_append,hs,List.getElem?_eq_none (Nat.le_of_not_lt hs)]
     simp [Array.getElem?_replicate]
     split <;> rfl
  show Rd E β (Array.getD _ s undef) _
  rw [hg]
  exact this
 refine qM hf hb rfl (fun b hb hf=>by obtain ⟨i,hi,hbi⟩:=hf; exact absurd (hok0.lt hi hbi) (Nat.not_lt.2 hb)) hrel (O:=O) (h O ⟨rfl,fun b hb hf=>by obtain ⟨i,hi,hbi⟩:=hf; exact absurd (hok0.lt hi hbi) (Nat.not_lt.2 hb),fun _=>rfl⟩) ?_
 rintro e S' E' β' a' hr' ⟨he,ρ,hw,hres,hin⟩
 refine ⟨he,?_⟩
 obtain ⟨vs',h1,h2⟩:=rG (P:=P) hr' hres
 obtain ⟨β3,hr3,hβ3⟩:=hr'.weak' hw
 have h3:RdL E' β3 vs' rs:=RdL.ren hβ3 rs h2 hin
 have hrun:(results fn a'.tmps).run P E'.w = .ok (if h:vs'.toArray.size=1 then vs'.toArray[0] else .tuple vs'.toArray) E'.w:=by
  have hF:results fn a'.tmps=(fn.results.mapM (resF a'.tmps)) >>= fun vs=>pure (if h:vs.size=1 then vs[0] else .tuple vs):=by
   unfold results
   congr 2
  rw [hF,←Array.toArray_toList (xs:=fn.results),List.mapM_toArray]
  simp only [Sem.run_bind,Sem.run_map,h1,Result.andThen_ok,Sem.run_pure]
 have hfin:∃ v,(results fn a'.tmps).run P E'.w = .ok v E'.w∧Rd E' β3 v (retD rs):=by
  refine ⟨_,hrun,?_⟩
  cases h3 with
  | nil=>simpa [retD] using Rd.tuple (E:=E') β3 [] [] (.nil _)
  | cons h5 h6 =>
    cases h6 with
    | nil=>simpa [retD] using h5
    | cons h7 h8 =>
      simp only [retD,List.size_toArray,List.length_cons]
      rw [dif_neg (by omega)]
      exact .tuple _ _ _ (.cons h5 (.cons h7 h8))
 obtain ⟨v,h5,h6⟩:=hfin
 exact ⟨v,h5,v,rfl,E',β3,rfl,hr3.h,h6⟩

theorem FnH.pure {f:FuncId} {ds:List D} {r:D} (h:FnH P f ds [] r []) (hp:r.refsIn noRef=true):bJ P f ds r:=by
 intro E vs hX hv
 have e:rP β0 []=fun _=>False:=by
  funext b; apply propext; constructor
  · rintro ⟨i,_,hi⟩; cases hi
  · exact fun h=>h.elim
 refine (h E β0 vs hX (fun i b hi=>by cases hi) (by rw [e]; exact aBw hX) hv).mono ?_
 rintro e w' ⟨v,rfl,E',β',rfl,hok,hrd⟩
 refine ⟨v,rfl,⟨hok.os,hok.tape,hok.output,hok.size,fun k hk=>hok.block k hk (by rintro ⟨i,_,hi⟩; cases hi)⟩,?_⟩
 have hxx:E'.le ⟨E'.w,E.X⟩:=by
  constructor
  · intro b o v hc hx
    exact ⟨hc,fun hX'=>hx ((hok.xold b o (hX.xlt b o hX') (by rintro ⟨i,_,hi⟩; cases hi)).2 hX')⟩
  · intro b c e f hc; exact ⟨c,f,hc,rfl⟩
 exact Rd.mono hxx (cH.le.refl _) (hrd.bare hp)

theorem aAw {ops:Array Oper} {l:List Oper} {xt yt e:TypeId} {x y:Operand} {f:Bool} {s:List D} {Q:Exit→St→Prop} (hg:o.guard=none) (ho:o.op = .binOp .eql xt x y yt) (hd:o.dst=some t) (ht:t<N) (hu:P.underlying xt=some (.slice e))
 (hx:SV S x (.slice f s)) (hy:S.op y = .nils) (k:∀ b,(b=true→s=[])→ILS P O N ops l (S.set t (.bool b)) Q):ILS P O N ops (o::l) S Q:=by
 intro E β a hr
 refine wpListIn_plain hg fun K hK=>aD1 _ (by rw [ho]; rfl) ?_
 have hyv:a.eval y = .slice none 0 0:=by
  have:=hr.op y
  rw [hy] at this
  generalize a.eval y=v at this
  cases this; rfl
 have key:∃ b:Bool,(b=true→s=[])∧(execOp a.eval o).run P E.w = .ok (.value (.bool b)) E.w:=by
  rcases rR (hx.rd hr) with ⟨hev,hs⟩ | ⟨b,off,cap,sz,vs,hev,_⟩ | ⟨ad,cap,hev,hs⟩
  · refine ⟨true,fun _=>hs,?_⟩
    have h1:=Lib.run_eql_slice_nil (P:=P) E.w xt e none 0 0 0 0 hu
    simp [execOp,ho,hev,hyv,eqGuard,h1]
  · refine ⟨false,(fun h=>by cases h),?_⟩
    have h1:=Lib.run_eql_slice_nil (P:=P) E.w xt e (some ⟨b,off,none⟩) s.length cap 0 0 hu
    simp [execOp,ho,hev,hyv,eqGuard,h1]
  · refine ⟨false,(fun h=>by cases h),?_⟩
    have h1:=Lib.run_eql_slice_nil (P:=P) E.w xt e (some ad) 0 cap 0 0 hu
    simp [execOp,ho,hev,hyv,eqGuard,h1]
 obtain ⟨b,hb,hrun⟩:=key
 unfold Oper.wp
 rw [hrun]
 simp only [Oper.upon,hd]
 exact hK _ _ (k b hb E β _ (hr.set ht (.bool _ _)))


end
end Go.IL
namespace Go.IL
section
variable {P:Program} {O:cT} {N:Nat} {S S':St} {o:Oper} {t:Nat} {Q:Exit→St→Prop}

theorem drop_at {ds:List D} {off:Nat} {d:D} (h:ds[off]? = some d):ds.drop off=d::ds.drop (off+1):=by
 have hlt:=(List.getElem?_eq_some_iff.1 h).1
 rw [List.drop_eq_getElem_cons hlt,(List.getElem?_eq_some_iff.1 h).2]

end
end Go.IL
