/-
  A part of the proof: rules and plain facts. No condition.
-/
import Derived.WalkKit
import Derived.Laws.AppendOwn
import Derived.Orders
set_option linter.all false
namespace Go.IL

/-- What a value reads as: plain data; what the call itself owns is met by a name. -/
inductive D where
  | dead
  | bool (b : Bool)
  | int (k : IntKind) (n : Int)
  | float (k : FloatKind) (n : Nat)
  | str (l : List UInt8)
  | slice (full : Bool) (l : List D)
  | nils
  | agg (cs : List D)
  | tuple (cs : List D)
  | fptr (cs : List D)
  | nilp | nilf | nili
  | fn (f : FuncId) (caps : List D)
  | ref (id off : Nat)
  | rsl (id sz off len cap : Nat)
  | gsl (id sz : Nat) (l : List D)
  | osl (id sz len : Nat)
  | cnd (b : Bool) (d : D)
  | yld (id : Nat)
  deriving Inhabited

/-- All that are no numbers read as one. -/
def fnan : FloatKind → Nat
  | .f64 => 9221120237041090561
  | .f32 => 2143289344
def fcan (k : FloatKind) (m : Nat) : Nat := if (k.decode m).isNaN then fnan k else m

def D.cells : D → List D
  | .agg cs => cs
  | d => [d]
def D.flat (l : List D) : List D := l.flatMap D.cells

def bs (l : List UInt8) : ByteArray := ⟨l.toArray⟩

structure Env where
  w : World
  X : Nat → Nat → Prop

abbrev Names := Nat → Option Nat
def β0 : Names := fun _ => none

/-- A row of cells that may be looked at, and will not turn. -/
def Env.row (E : Env) (b off : Nat) (vs : List Value) : Prop :=
  ∀ (k : Nat) (v : Value), vs[k]? = some v → E.w.cell? ⟨b, off + k, none⟩ = some v ∧ ¬ E.X b (off + k)

mutual
inductive Rd (E : Env) : Names → Value → D → Prop
  | dead (β v) : Rd E β v .dead
  | bool (β b) : Rd E β (.bool b) (.bool b)
  | int (β k n) : Rd E β (.int k n) (.int k n)
  | float (β k m n) (h : fcan k m = n) : Rd E β (.float k m) (.float k n)
  | str (β l) : Rd E β (.string (bs l)) (.str l)
  | slice (β) (b off len cap sz : Nat) (full : Bool) (vs : List Value) (l : List D) (hl : l.length = len) (hc : len ≤ cap)
      (hf : full = true → cap = len) (hz : ∀ d ∈ l, d.cells.length = sz) (hsz : 0 < sz) (hr : E.row b off vs) (hv : RdL E β0 vs (D.flat l)) :
      Rd E β (.slice (some ⟨b, off, none⟩) len cap) (.slice full l)
  | nslice (β full) : Rd E β (.slice none 0 0) (.slice full [])
  | eslice (β) (a : Addr) (cap : Nat) : Rd E β (.slice (some a) 0 cap) (.slice false [])
  | nils (β) : Rd E β (.slice none 0 0) .nils
  | agg (β vs cs) (h : RdL E β vs cs) : Rd E β (.agg vs.toArray) (.agg cs)
  | tuple (β vs cs) (h : RdL E β vs cs) : Rd E β (.tuple vs.toArray) (.tuple cs)
  | fptr (β) (b off : Nat) (vs cs) (hr : E.row b off vs) (hv : RdL E β0 vs cs) : Rd E β (.pointer (some ⟨b, off, none⟩)) (.fptr cs)
  | nilp (β) : Rd E β (.pointer none) .nilp
  | nilf (β) : Rd E β .nilFunc .nilf
  | nili (β) : Rd E β .nilIface .nili
  | fn (β f vs caps) (h : RdL E β vs caps) : Rd E β (.func (.func f) #[] vs.toArray) (.fn f caps)
  | ref (β id off b) (h : β id = some b) : Rd E β (.pointer (some ⟨b, off, none⟩)) (.ref id off)
  | rsl (β id sz off len cap b o) (h : β id = some b) (hc : len ≤ cap) (hsz : 0 < sz) (ho : (0 < cap → o = off) ∧ o ≤ off) (c : Array Value) (e : TypeId) (f : Nat × Nat) (hcap : E.w.heap[b]? = some (Obj.cells c e f)) (hcs : off + cap * sz ≤ c.size) (hcm : cap ≤ maxLen) :
      Rd E β (.slice (some ⟨b, o, none⟩) len cap) (.rsl id sz off len cap)
  | gsl (β id b) (len cap sz : Nat) (vs : List Value) (l : List D) (h : β id = some b) (hl : l.length = len) (hc : len ≤ cap)
      (hz : ∀ d ∈ l, d.cells.length = sz) (hsz : 0 < sz) (hr : E.row b 0 vs) (hv : RdL E β0 vs (D.flat l)) (c : Array Value) (e : TypeId) (f : Nat × Nat) (hcap : E.w.heap[b]? = some (Obj.cells c e f)) (hcs : c.size = cap * sz) (hcm : cap ≤ maxLen) :
      Rd E β (.slice (some ⟨b, 0, none⟩) len cap) (.gsl id sz l)
  | ngsl (β id sz) : Rd E β (.slice none 0 0) (.gsl id sz [])
  | osl (β id b) (len cap sz : Nat) (h : β id = some b) (hc : len ≤ cap) (hsz : 0 < sz) (c : Array Value) (e : TypeId) (f : Nat × Nat) (hcap : E.w.heap[b]? = some (Obj.cells c e f)) (hcs : cap * sz ≤ c.size) (hcm : cap ≤ maxLen) :
      Rd E β (.slice (some ⟨b, 0, none⟩) len cap) (.osl id sz len)
  | nosl (β id sz) : Rd E β (.slice none 0 0) (.osl id sz 0)
  | cnd (β v b d) (h : b = true → Rd E β v d) (h' : b = false → v = undef) : Rd E β v (.cnd b d)
  | yld (β id l) (h : β id = some l) : Rd E β (.func (.yield l) #[] #[]) (.yld id)
inductive RdL (E : Env) : Names → List Value → List D → Prop
  | nil (β) : RdL E β [] []
  | cons {β v d vs ds} (h : Rd E β v d) (t : RdL E β vs ds) : RdL E β (v :: vs) (d :: ds)
end

/-- What may be looked at stays. -/
structure Env.le (E E' : Env) : Prop where
  cell : ∀ b o v, E.w.cell? ⟨b, o, none⟩ = some v → ¬ E.X b o → E'.w.cell? ⟨b, o, none⟩ = some v ∧ ¬ E'.X b o
  size : ∀ (b : Nat) (c : Array Value) (e : TypeId) (f : Nat × Nat), E.w.heap[b]? = some (Obj.cells c e f) → ∃ (c' : Array Value) (f' : Nat × Nat), E'.w.heap[b]? = some (Obj.cells c' e f') ∧ c'.size = c.size

theorem Env.le.row {E E' : Env} (h : E.le E') {b off : Nat} {vs : List Value} (r : E.row b off vs) : E'.row b off vs :=
  fun k v hk => h.cell _ _ _ (r k v hk).1 (r k v hk).2

def Names.le (β β' : Names) : Prop := ∀ id b, β id = some b → β' id = some b
theorem Names.le.refl (β : Names) : β.le β := fun _ _ h => h

mutual
theorem Rd.mono {E E' : Env} (h : E.le E') {β β' : Names} (hβ : β.le β') : ∀ {v : Value} {d : D}, Rd E β v d → Rd E' β' v d
  | _, _, .dead _ v => .dead _ v
  | _, _, .bool _ b => .bool _ b
  | _, _, .int _ k n => .int _ k n
  | _, _, .float _ k m n h => .float _ k m n h
  | _, _, .str _ l => .str _ l
  | _, _, .slice _ b off len cap sz full vs l hl hc hf hz hsz hr hv => .slice _ b off len cap sz full vs l hl hc hf hz hsz (h.row hr) (RdL.mono h (Names.le.refl _) hv)
  | _, _, .nslice _ f => .nslice _ f
  | _, _, .eslice _ a c => .eslice _ a c
  | _, _, .nils _ => .nils _
  | _, _, .agg _ vs cs hv => .agg _ vs cs (RdL.mono h hβ hv)
  | _, _, .tuple _ vs cs hv => .tuple _ vs cs (RdL.mono h hβ hv)
  | _, _, .fptr _ b off vs cs hr hv => .fptr _ b off vs cs (h.row hr) (RdL.mono h (Names.le.refl _) hv)
  | _, _, .nilp _ => .nilp _
  | _, _, .nilf _ => .nilf _
  | _, _, .nili _ => .nili _
  | _, _, .fn _ f vs caps hv => .fn _ f vs caps (RdL.mono h hβ hv)
  | _, _, .ref _ id off b hb => .ref _ id off b (hβ _ _ hb)
  | _, _, .rsl _ id sz off len cap b o hb hc hsz ho c e f h1 h2 h3 =>
    let ⟨c', f', h4, h5⟩ := h.size _ _ _ _ h1
    .rsl _ id sz off len cap b o (hβ _ _ hb) hc hsz ho c' e f' h4 (h5 ▸ h2) h3
  | _, _, .gsl _ id b len cap sz vs l hb hl hc hz hsz hr hv c e f h1 h2 h3 =>
    let ⟨c', f', h4, h5⟩ := h.size _ _ _ _ h1
    .gsl _ id b len cap sz vs l (hβ _ _ hb) hl hc hz hsz (h.row hr) (RdL.mono h (Names.le.refl _) hv) c' e f' h4 (h5.trans h2) h3
  | _, _, .ngsl _ id sz => .ngsl _ id sz
  | _, _, .osl _ id b len cap sz hb hc hsz c e f h1 h2 h3 =>
    let ⟨c', f', h4, h5⟩ := h.size _ _ _ _ h1
    .osl _ id b len cap sz (hβ _ _ hb) hc hsz c' e f' h4 (h5 ▸ h2) h3
  | _, _, .nosl _ id sz => .nosl _ id sz
  | _, _, .cnd _ v b d hv hu => .cnd _ v b d (fun hb => Rd.mono h hβ (hv hb)) hu
  | _, _, .yld _ id l hb => .yld _ id l (hβ _ _ hb)
theorem RdL.mono {E E' : Env} (h : E.le E') {β β' : Names} (hβ : β.le β') : ∀ {vs : List Value} {ds : List D}, RdL E β vs ds → RdL E' β' vs ds
  | _, _, .nil _ => .nil _
  | _, _, .cons hv t => .cons (Rd.mono h hβ hv) (RdL.mono h hβ t)
end

theorem Env.le.refl (E : Env) : E.le E := ⟨fun _ _ _ h k => ⟨h, k⟩, fun _ c _ f h => ⟨c, f, h, rfl⟩⟩
theorem Env.le.trans {E F G : Env} (h : E.le F) (k : F.le G) : E.le G :=
  ⟨fun b o v a c => let r := h.cell b o v a c; k.cell b o v r.1 r.2,
   fun b c e f a => let ⟨c', f', h1, h2⟩ := h.size b c e f a; let ⟨c'', f'', h3, h4⟩ := k.size b c' e f' h1; ⟨c'', f'', h3, h4.trans h2⟩⟩


mutual
def D.refsIn (p : Nat → Bool) : D → Bool
  | .ref id _ => p id
  | .rsl id _ _ _ _ => p id
  | .gsl id _ _ => p id
  | .osl id _ _ => p id
  | .yld id => p id
  | .agg cs => D.refsInL p cs
  | .tuple cs => D.refsInL p cs
  | .fn _ cs => D.refsInL p cs
  | .cnd _ d => d.refsIn p
  | _ => true
def D.refsInL (p : Nat → Bool) : List D → Bool
  | [] => true
  | d :: ds => d.refsIn p && D.refsInL p ds
end
mutual
def D.ren (ρ : Nat → Nat) : D → D
  | .ref id off => .ref (ρ id) off
  | .rsl id sz off len cap => .rsl (ρ id) sz off len cap
  | .gsl id sz l => .gsl (ρ id) sz l
  | .osl id sz len => .osl (ρ id) sz len
  | .yld id => .yld (ρ id)
  | .agg cs => .agg (D.renL ρ cs)
  | .tuple cs => .tuple (D.renL ρ cs)
  | .fn f cs => .fn f (D.renL ρ cs)
  | .cnd b d => .cnd b (d.ren ρ)
  | d => d
def D.renL (ρ : Nat → Nat) : List D → List D
  | [] => []
  | d :: ds => d.ren ρ :: D.renL ρ ds
end

mutual
theorem Rd.ren {E : Env} {β β' : Names} {ρ : Nat → Nat} {p : Nat → Bool} (hp : ∀ id, p id = true → β' id = β (ρ id)) :
    ∀ (d : D) {v : Value}, Rd E β v (d.ren ρ) → d.refsIn p = true → Rd E β' v d
  | .dead, _, _, _ => .dead _ _
  | .bool b, _, .bool _ _, _ => .bool _ b
  | .int k n, _, .int _ _ _, _ => .int _ k n
  | .float k n, _, .float _ _ m _ h, _ => .float _ k m n h
  | .str l, _, .str _ _, _ => .str _ l
  | .slice f l, _, .slice _ b off len cap sz _ vs _ hl hc hf hz hsz hr hv, _ => .slice _ b off len cap sz f vs l hl hc hf hz hsz hr hv
  | .slice f _, _, .nslice _ _, _ => .nslice _ f
  | .slice _ _, _, .eslice _ a c, _ => .eslice _ a c
  | .nils, _, .nils _, _ => .nils _
  | .agg cs, _, .agg _ vs _ h, hr => .agg _ vs cs (RdL.ren hp cs h (by simpa [D.refsIn] using hr))
  | .tuple cs, _, .tuple _ vs _ h, hr => .tuple _ vs cs (RdL.ren hp cs h (by simpa [D.refsIn] using hr))
  | .fptr cs, _, .fptr _ b off vs _ hr hv, _ => .fptr _ b off vs cs hr hv
  | .nilp, _, .nilp _, _ => .nilp _
  | .nilf, _, .nilf _, _ => .nilf _
  | .nili, _, .nili _, _ => .nili _
  | .fn f cs, _, .fn _ _ vs _ h, hr => .fn _ f vs cs (RdL.ren hp cs h (by simpa [D.refsIn] using hr))
  | .ref id off, _, .ref _ _ _ b h, hr => .ref _ id off b ((hp id (by simpa [D.refsIn] using hr)).trans h)
  | .rsl id sz off len cap, _, .rsl _ _ _ _ _ _ b o h hc hsz ho c e f h1 h2 h3, hr => .rsl _ id sz off len cap b o ((hp id (by simpa [D.refsIn] using hr)).trans h) hc hsz ho c e f h1 h2 h3
  | .gsl id sz l, _, .gsl _ _ b len cap _ vs _ h hl hc hz hsz hr' hv c e f h1 h2 h3, hr =>
    .gsl _ id b len cap sz vs l ((hp id (by simpa [D.refsIn] using hr)).trans h) hl hc hz hsz hr' hv c e f h1 h2 h3
  | .gsl id sz _, _, .ngsl _ _ _, _ => .ngsl _ id sz
  | .osl id sz len, _, .osl _ _ b _ cap _ h hc hsz c e f h1 h2 h3, hr => .osl _ id b len cap sz ((hp id (by simpa [D.refsIn] using hr)).trans h) hc hsz c e f h1 h2 h3
  | .osl id sz _, _, .nosl _ _ _, _ => .nosl _ id sz
  | .cnd b d, _, .cnd _ v _ _ h hu, hr => .cnd _ v b d (fun hb => Rd.ren hp d (h hb) (by simpa [D.refsIn] using hr)) hu
  | .yld id, _, .yld _ _ l h, hr => .yld _ id l ((hp id (by simpa [D.refsIn] using hr)).trans h)
theorem RdL.ren {E : Env} {β β' : Names} {ρ : Nat → Nat} {p : Nat → Bool} (hp : ∀ id, p id = true → β' id = β (ρ id)) :
    ∀ (ds : List D) {vs : List Value}, RdL E β vs (D.renL ρ ds) → D.refsInL p ds = true → RdL E β' vs ds
  | [], _, .nil _, _ => .nil _
  | d :: ds, _, .cons h t, hr =>
    have hr' : d.refsIn p = true ∧ D.refsInL p ds = true := by simpa [D.refsInL] using hr
    .cons (Rd.ren hp d h hr'.1) (RdL.ren hp ds t hr'.2)
end

end Go.IL
