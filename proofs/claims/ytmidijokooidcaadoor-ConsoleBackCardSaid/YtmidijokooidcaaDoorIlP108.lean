/-
  A part of the proof: rules and plain facts. No condition.
-/
import Derived.Test.YtmidijokooidcaaDoorIlY
import Derived.RangeFuncIn
import Derived.Laws.FloatArith
import Derived.Laws.Cover2
import Derived.Laws.Externs
import Derived.Lib.AppendZerosOnto
import Derived.Laws.CopyRow
import Derived.Lib.Overlaps
import Derived.KernelRfl
import Derived.Lib.Bytealg
import Derived.Lib.ItoaNum
import Derived.Lib.Join
set_option linter.all false
namespace Go.IL

/-! Numbers of bits, and of bytes. -/
theorem wrap_u8 (n : Int) : IntKind.u8.wrap n = n % 256 := by simp [IntKind.wrap, IntKind.signed, IntKind.bits]
theorem wrap_i64 {n : Int} (h0 : -9223372036854775808 ≤ n) (h : n ≤ 9223372036854775807) : IntKind.i64.wrap n = n := by
  simp [IntKind.wrap, IntKind.signed, IntKind.bits]; omega

def vbad (n : Int) : Prop := n < 0 ∨ 4611686018427387903 < n
instance (n : Int) : Decidable (vbad n) := by unfold vbad; exact inferInstance
/-! No references in a list of data. -/
def NR (ds : List D) : Prop := D.refsInL noRef ds = true
theorem NR.nil : NR [] := rfl
theorem NR.cons {d : D} {ds : List D} (h : d.refsIn noRef = true) (k : NR ds) : NR (d :: ds) := by unfold NR; rw [D.refsInL, h]; exact k
theorem NR.append {ds es : List D} (h : NR ds) (k : NR es) : NR (ds ++ es) := by
  induction ds with
  | nil => exact k
  | cons d ds ih =>
    have h' : d.refsIn noRef = true ∧ D.refsInL noRef ds = true := by simpa [NR, D.refsInL] using h
    exact NR.cons h'.1 (ih h'.2)
theorem NR.map {α : Type} {f : α → D} (h : ∀ x, (f x).refsIn noRef = true) (l : List α) : NR (l.map f) := by
  induction l with
  | nil => rfl
  | cons a l ih => exact NR.cons (h a) ih
theorem NR.replicate {d : D} (h : d.refsIn noRef = true) (n : Nat) : NR (List.replicate n d) := by
  induction n with
  | zero => rfl
  | succ n ih => exact NR.cons h ih
mutual
theorem D.ren_bare {ρ : Nat → Nat} : ∀ (d : D), d.refsIn noRef = true → d.ren ρ = d
  | .dead, _ | .bool _, _ | .int _ _, _ | .float _ _, _ | .str _, _ | .slice _ _, _ | .nils, _ | .fptr _, _ | .nilp, _ | .nilf, _ | .nili, _ => rfl
  | .ref _ _, h | .rsl _ _ _ _ _, h | .gsl _ _ _, h | .osl _ _ _, h | .yld _, h => by cases h
  | .agg cs, h => by rw [D.ren, D.renL_bare cs (by simpa [D.refsIn] using h)]
  | .tuple cs, h => by rw [D.ren, D.renL_bare cs (by simpa [D.refsIn] using h)]
  | .fn f cs, h => by rw [D.ren, D.renL_bare cs (by simpa [D.refsIn] using h)]
  | .mv f cs, h => by rw [D.ren, D.renL_bare cs (by simpa [D.refsIn] using h)]
  | .cnd b d, h => by rw [D.ren, D.ren_bare d (by simpa [D.refsIn] using h)]
theorem D.renL_bare {ρ : Nat → Nat} : ∀ (ds : List D), D.refsInL noRef ds = true → D.renL ρ ds = ds
  | [], _ => rfl
  | d :: ds, h => by
    have h' : d.refsIn noRef = true ∧ D.refsInL noRef ds = true := by simpa [D.refsInL] using h
    rw [D.renL, D.ren_bare d h'.1, D.renL_bare ds h'.2]
end
mutual
theorem D.refsIn_mono {p : Nat → Bool} : ∀ (d : D), d.refsIn noRef = true → d.refsIn p = true
  | .dead, _ | .bool _, _ | .int _ _, _ | .float _ _, _ | .str _, _ | .slice _ _, _ | .nils, _ | .fptr _, _ | .nilp, _ | .nilf, _ | .nili, _ => rfl
  | .ref _ _, h | .rsl _ _ _ _ _, h | .gsl _ _ _, h | .osl _ _ _, h | .yld _, h => by cases h
  | .agg cs, h => by simp only [D.refsIn] at h ⊢; exact D.refsInL_mono cs h
  | .tuple cs, h => by simp only [D.refsIn] at h ⊢; exact D.refsInL_mono cs h
  | .fn f cs, h => by simp only [D.refsIn] at h ⊢; exact D.refsInL_mono cs h
  | .mv f cs, h => by simp only [D.refsIn] at h ⊢; exact D.refsInL_mono cs h
  | .cnd b d, h => by simp only [D.refsIn] at h ⊢; exact D.refsIn_mono d h
theorem D.refsInL_mono {p : Nat → Bool} : ∀ (ds : List D), D.refsInL noRef ds = true → D.refsInL p ds = true
  | [], _ => rfl
  | d :: ds, h => by
    have h' : d.refsIn noRef = true ∧ D.refsInL noRef ds = true := by simpa [D.refsInL] using h
    rw [D.refsInL, D.refsIn_mono d h'.1, D.refsInL_mono ds h'.2]; rfl
end
/-- An entry's data without references. -/
theorem EntW.plain {S S' : St} {ρ : Nat → Nat} {id : Nat} {e : TypeId} {ds ds' : List D} (h : S.ent (ρ id) = .blk e ds') (hd : ds' = ds) (hr : NR ds) : EntW S S' ρ id (.blk e ds) :=
  .blk h (by rw [hd, D.renL_bare ds hr]) (D.refsInL_mono ds hr)

/-! Varints. -/
end Go.IL
namespace Go.IL
end Go.IL
namespace Go.IL
end Go.IL
namespace Go.IL
end Go.IL
namespace Go.IL
end Go.IL
namespace Go.IL
end Go.IL
namespace Go.IL
end Go.IL
namespace Go.IL
end Go.IL
namespace Go.IL

/-! The words of the printed functions: what may fail is an Option. -/
def bnd {α β : Type} (e : α) (f : α → Option β) : Option β := f e
def bno {α β : Type} (e : Option α) (f : α → Option β) : Option β := match e with | some x => f x | none => none
def chk {β : Type} (p : Prop) [Decidable p] (o : Option β) : Option β := if p then o else none
def gd {α : Type} (g : Bool) (o : Option α) (d : α) : Option α := bif g then o else some d

theorem bnd_e {α β : Type} {e : α} {f : α → Option β} {r : β} (h : bnd e f = some r) : ∃ x, e = x ∧ f x = some r := ⟨e, rfl, h⟩
theorem bno_e {α β : Type} {e : Option α} {f : α → Option β} {r : β} (h : bno e f = some r) : ∃ x, e = some x ∧ f x = some r := by
  cases e with
  | none => cases h
  | some x => exact ⟨x, rfl, h⟩
theorem chk_e {β : Type} {p : Prop} [Decidable p] {o : Option β} {r : β} (h : chk p o = some r) : p ∧ o = some r := by
  unfold chk at h; split at h
  · exact ⟨‹_›, h⟩
  · cases h
theorem bif_t {α : Type} {b : Bool} {x y r : α} (h : (bif b then x else y) = r) (hb : b = true) : x = r := by subst hb; exact h
theorem bif_f {α : Type} {b : Bool} {x y r : α} (h : (bif b then x else y) = r) (hb : b = false) : y = r := by subst hb; exact h
theorem gd_t {α : Type} {g : Bool} {o : Option α} {d x : α} (h : gd g o d = some x) (hb : g = true) : o = some x := by subst hb; exact h

def quoI (k : IntKind) (a b : Int) : Option Int := if b = 0 then none else some (k.wrap (a.tdiv b))
def remI (a b : Int) : Option Int := if b = 0 then none else some (a.tmod b)
def shlI (k : IntKind) (a b : Int) : Option Int := if b < 0 then none else some (k.wrap (a * 2 ^ (min b.toNat k.bits)))
def shrI (k : IntKind) (a b : Int) : Option Int := if b < 0 then none else some (a.fdiv (2 ^ (min b.toNat k.bits)))
def andI (k : IntKind) (a b : Int) : Int := k.wrap ((BitVec.ofInt k.bits a) &&& (BitVec.ofInt k.bits b)).toNat
def orI (k : IntKind) (a b : Int) : Int := k.wrap ((BitVec.ofInt k.bits a) ||| (BitVec.ofInt k.bits b)).toNat
def gix {α : Type} (l : List α) (i : Int) : Option α := if 0 ≤ i then l[i.toNat]? else none
def cut {α : Type} (l : List α) (lo hi : Int) : Option (List α) := if 0 ≤ lo ∧ lo ≤ hi ∧ hi ≤ (l.length : Int) then some ((l.take hi.toNat).drop lo.toNat) else none
def app {α : Type} (b : Nat) (l m : List α) : Option (List α) := if l.length + m.length ≤ 9223372036854775807 ∧ (l.length + m.length) * b ≤ 140737488355328 then some (l ++ m) else none
def cat (a b : List UInt8) : Option (List UInt8) := if a.length + b.length ≤ 9223372036854775807 then some (a ++ b) else none
def toU8 (n : Int) : Option UInt8 := if 0 ≤ n ∧ n < 256 then some (UInt8.ofNat n.toNat) else none
def made {α : Type} (b : Nat) (n : Int) (z : α) : Option (List α) := if 0 ≤ n ∧ (b : Int) * n ≤ 281474976710656 ∧ n ≤ 9223372036854775807 then some (List.replicate n.toNat z) else none
/-- how often a loop may go round -/
def fuel : Nat := 2 ^ 64

theorem toU8_e {n : Int} {u : UInt8} (h : toU8 n = some u) : (u.toNat : Int) = n := by
  unfold toU8 at h; split at h
  · rename_i hn; cases h
    have : n.toNat < 256 := by omega
    simp only [UInt8.toNat_ofNat']
    rw [Nat.mod_eq_of_lt this]; omega
  · cases h
theorem gix_e {α : Type} {l : List α} {i : Int} {x : α} (h : gix l i = some x) : 0 ≤ i ∧ l[i.toNat]? = some x := by
  unfold gix at h; split at h
  · exact ⟨‹_›, h⟩
  · cases h
theorem cut_e {α : Type} {l m : List α} {lo hi : Int} (h : cut l lo hi = some m) : (0 ≤ lo ∧ lo ≤ hi ∧ hi ≤ (l.length : Int)) ∧ (l.take hi.toNat).drop lo.toNat = m := by
  unfold cut at h; split at h
  · exact ⟨‹_›, Option.some.inj h⟩
  · cases h
theorem app_e {α : Type} {b : Nat} {l m r : List α} (h : app b l m = some r) : (l.length + m.length ≤ maxLen ∧ (l.length + m.length) * b ≤ 140737488355328) ∧ l ++ m = r := by
  unfold app at h; split at h
  · rename_i hh; exact ⟨⟨by unfold maxLen; omega, hh.2⟩, Option.some.inj h⟩
  · cases h
theorem cat_e {a b c : List UInt8} (h : cat a b = some c) : a ++ b = c ∧ c.length ≤ 9223372036854775807 := by
  unfold cat at h; split at h
  · cases h; exact ⟨rfl, by simpa using ‹_›⟩
  · cases h
theorem made_e {α : Type} {b : Nat} {n : Int} {z : α} {r : List α} (h : made b n z = some r) : (0 ≤ n ∧ (b : Int) * n ≤ 281474976710656 ∧ n ≤ 9223372036854775807) ∧ List.replicate n.toNat z = r := by
  unfold made at h; split at h
  · exact ⟨‹_›, Option.some.inj h⟩
  · cases h

/-- How a type's values are read as data: so many cells each. -/
structure Enc0 (α : Type) where
  d : α → D
  sz : Nat
  pos : 0 < sz
  fl : ∀ x, (d x).cells.length = sz ∧ (d x).cells.all D.one = true
structure Enc (α : Type) extends Enc0 α where
  nr : ∀ x, D.refsInL noRef (d x).cells = true

theorem Enc0.flat {α : Type} (f : Enc0 α) (l : List α) : Flat f.sz (l.map f.d) := Flat.map f.fl l
theorem Enc0.len {α : Type} (f : Enc0 α) (l : List α) : ∀ d ∈ l.map f.d, d.cells.length = f.sz := (f.flat l).len
theorem refsInL_append {p : Nat → Bool} : ∀ {l m : List D}, D.refsInL p l = true → D.refsInL p m = true → D.refsInL p (l ++ m) = true
  | [], _, _, h => h
  | d :: l, m, h, k => by
    simp only [List.cons_append, D.refsInL, Bool.and_eq_true] at h ⊢
    exact ⟨h.1, refsInL_append h.2 k⟩
theorem Enc.noRef {α : Type} (f : Enc α) : ∀ (l : List α), D.refsInL noRef (D.flat (l.map f.d)) = true
  | [] => rfl
  | x :: l => by
    simp only [D.flat, List.map_cons, List.flatMap_cons]
    exact refsInL_append (f.nr x) (f.noRef l)
theorem Enc0.flat_len {α : Type} (f : Enc0 α) (l : List α) : (D.flat (l.map f.d)).length = l.length * f.sz := by
  rw [flat_length (f.len l), List.length_map]
theorem Enc0.flat_append {α : Type} (f : Enc0 α) (l m : List α) : D.flat (l.map f.d) ++ D.flat (m.map f.d) = D.flat ((l ++ m).map f.d) := by
  simp [D.flat]
theorem Enc0.one {α : Type} (f : Enc0 α) (l : List α) : (D.flat (l.map f.d)).all D.one = true := (f.flat l).all

section
variable {P : Program} {O : Origin} {N : Nat} {S S' : St} {o : Oper} {t : Nat} {Q : Exit → St → Prop}

theorem IOp.to {S1 S2 : St} (h : IOp P O N o S S1) (k : ∀ E β a, Rel O N S1 E β a → Rel O N S2 E β a) : IOp P O N o S S2 :=
  fun E β a hr next Q hn => h E β a hr next Q fun E' β' a' hr' => hn _ _ _ (k _ _ _ hr')
theorem iop_andx {c x y : Operand} {b z r : Bool} (ho : o.op = .pick c x y) (hd : o.dst = some t) (ht : t < N) (hc : SV S c (.bool b)) (hx : S.op x = .cnd (b == true) (.bool z)) (hy : S.op y = .bool false) (hr : (b && z) = r) : IOp P O N o S (S.set t (.bool r)) :=
  hr ▸ iop_and ho hd ht hc hx hy
theorem iop_orx {c x y : Operand} {b z r : Bool} (ho : o.op = .pick c x y) (hd : o.dst = some t) (ht : t < N) (hc : SV S c (.bool b)) (hx : S.op x = .bool true) (hy : S.op y = .cnd (b == false) (.bool z)) (hr : (b || z) = r) : IOp P O N o S (S.set t (.bool r)) :=
  hr ▸ iop_or ho hd ht hc hx hy
theorem iop_and2x {c x y : Operand} {b z g r : Bool} (ho : o.op = .pick c x y) (hd : o.dst = some t) (ht : t < N) (hg : g = true) (hc : SV S c (.bool b)) (hx : S.op x = .cnd (g && (b == true)) (.bool z)) (hy : S.op y = .bool false) (hr : (b && z) = r) : IOp P O N o S (S.set t (.bool r)) :=
  hr ▸ iop_and2 ho hd ht hg hc hx hy
theorem iop_or2x {c x y : Operand} {b z g r : Bool} (ho : o.op = .pick c x y) (hd : o.dst = some t) (ht : t < N) (hg : g = true) (hc : SV S c (.bool b)) (hx : S.op x = .bool true) (hy : S.op y = .cnd (g && (b == false)) (.bool z)) (hr : (b || z) = r) : IOp P O N o S (S.set t (.bool r)) :=
  hr ▸ iop_or2 ho hd ht hg hc hx hy
/-- 'c && k' with a constant behind. -/
theorem iop_pickc {c x y : Operand} {b u v r : Bool} (ho : o.op = .pick c x y) (hd : o.dst = some t) (ht : t < N) (hc : SV S c (.bool b)) (hx : S.op x = .bool u) (hy : S.op y = .bool v) (hr : (bif b then u else v) = r) : IOp P O N o S (S.set t (.bool r)) :=
  iop_pick ho hd ht hc (fun h => sv (by rw [hx, ← hr, h]; rfl)) (fun h => sv (by rw [hy, ← hr, h]; rfl))

theorem iop_intx {op : BinOp} {xt yt : TypeId} {x y : Operand} {k : IntKind} {a b c c' : Int} (ho : o.op = .binOp op xt x y yt) (hd : o.dst = some t) (ht : t < N)
    (hx : SV S x (.int k a)) (hy : SV S y (.int k b)) (hr : int2 op k a b = some (.int k c)) (hc : c = c') : IOp P O N o S (S.set t (.int k c')) := iop_int2 ho hd ht hx hy (hc ▸ hr)
theorem iop_cmpx {op : BinOp} {xt yt : TypeId} {x y : Operand} {k : IntKind} {a b : Int} {c c' : Bool} (ho : o.op = .binOp op xt x y yt) (hd : o.dst = some t) (ht : t < N)
    (hx : SV S x (.int k a)) (hy : SV S y (.int k b)) (hr : int2 op k a b = some (.bool c)) (hc : c = c') : IOp P O N o S (S.set t (.bool c')) := iop_int2 ho hd ht hx hy (hc ▸ hr)
theorem iop_quox {xt yt : TypeId} {x y : Operand} {k : IntKind} {a b c : Int} (ho : o.op = .binOp .quo xt x y yt) (hd : o.dst = some t) (ht : t < N)
    (hx : SV S x (.int k a)) (hy : SV S y (.int k b)) (hc : quoI k a b = some c) : IOp P O N o S (S.set t (.int k c)) := iop_int2 ho hd ht hx hy (by
  unfold quoI at hc; split at hc
  · cases hc
  · rename_i h; cases hc; simp only [int2, if_neg h])
theorem iop_remx {xt yt : TypeId} {x y : Operand} {k : IntKind} {a b c : Int} (ho : o.op = .binOp .rem xt x y yt) (hd : o.dst = some t) (ht : t < N)
    (hx : SV S x (.int k a)) (hy : SV S y (.int k b)) (hc : remI a b = some c) : IOp P O N o S (S.set t (.int k c)) := iop_int2 ho hd ht hx hy (by
  unfold remI at hc; split at hc
  · cases hc
  · rename_i h; cases hc; simp only [int2, if_neg h])
theorem iop_shlx {xt yt : TypeId} {x y : Operand} {k k' : IntKind} {a b c : Int} (ho : o.op = .binOp .shl xt x y yt) (hd : o.dst = some t) (ht : t < N)
    (hx : SV S x (.int k a)) (hy : SV S y (.int k' b)) (hc : shlI k a b = some c) : IOp P O N o S (S.set t (.int k c)) := iop_shift ho hd ht hx hy (by
  unfold shlI at hc; split at hc
  · cases hc
  · rename_i h; cases hc; simp only [shift2, if_neg h])
theorem iop_shrx {xt yt : TypeId} {x y : Operand} {k k' : IntKind} {a b c : Int} (ho : o.op = .binOp .shr xt x y yt) (hd : o.dst = some t) (ht : t < N)
    (hx : SV S x (.int k a)) (hy : SV S y (.int k' b)) (hc : shrI k a b = some c) : IOp P O N o S (S.set t (.int k c)) := iop_shift ho hd ht hx hy (by
  unfold shrI at hc; split at hc
  · cases hc
  · rename_i h; cases hc; simp only [shift2, if_neg h])
theorem iop_strx {op : BinOp} {xt yt : TypeId} {x y : Operand} {a b : List UInt8} {c c' : Bool} (ho : o.op = .binOp op xt x y yt) (hd : o.dst = some t) (ht : t < N)
    (hx : SV S x (.str a)) (hy : SV S y (.str b)) (hr : str2 op a b = some (.bool c)) (hc : c = c') : IOp P O N o S (S.set t (.bool c')) := iop_str2 ho hd ht hx hy (hc ▸ hr)
theorem iop_catx {xt yt : TypeId} {x y : Operand} {a b c : List UInt8} (ho : o.op = .binOp .add xt x y yt) (hd : o.dst = some t) (ht : t < N)
    (hx : SV S x (.str a)) (hy : SV S y (.str b)) (hc : cat a b = some c) : IOp P O N o S (S.set t (.str c)) := iop_cat ho hd ht hx hy (cat_e hc).1 (cat_e hc).2
theorem iop_str_at {T : TypeId} {x y : Operand} {k : IntKind} {n : Int} {l : List UInt8} {c : UInt8} (ho : o.op = .index T x y) (hd : o.dst = some t) (ht : t < N)
    (hu : P.underlying T = some .string) (hx : SV S x (.str l)) (hy : SV S y (.int k n)) (hc : gix l n = some c) : IOp P O N o S (S.set t (.int .u8 (c.toNat : Int))) :=
  iop_index_str ho hd ht hu hx hy (gix_e hc).1 (gix_e hc).2 rfl
theorem iop_lenT {α : Type} (f : Enc α) {T e : TypeId} {x : Operand} {b : Bool} {l : List α} (ho : o.op = .call { callee := .builtin .len, args := #[x], argTypes := #[T] }) (hd : o.dst = some t) (ht : t < N) (hu : P.underlying T = some (.slice e))
    (hx : SV S x (.slice b (l.map f.d))) : IOp P O N o S (S.set t (.int .i64 (l.length : Int))) := iop_len_slice ho hd ht hu hx (by rw [List.length_map])
theorem iop_idxT {α : Type} (f : Enc α) {T e : TypeId} {x y : Operand} {b : Bool} {l : List α} {k : IntKind} {n : Int} {z : Option Value} {size bytes : Nat} {a : α} {cs : List D} (ho : o.op = .indexAddr T x y) (hd : o.dst = some t) (ht : t < N)
    (hu : P.underlying T = some (.slice e)) (hi : TI P e z size bytes) (hx : SV S x (.slice b (l.map f.d))) (hy : SV S y (.int k n)) (hn : gix l n = some a) (hcs : (f.d a).cells = cs) (hsz : cs.length = size) :
    IOp P O N o S (S.set t (.fptr cs)) :=
  iop_index_slice ho hd ht hu hi hx hy (gix_e hn).1 (by rw [List.getElem?_map, (gix_e hn).2]; rfl) hcs hsz
theorem iop_cutS {T : TypeId} {x : Operand} {lo hi : Option Operand} {s r : List UInt8} {l h : Int} (ho : o.op = .slice T x lo hi none) (hd : o.dst = some t) (ht : t < N) (hu : P.underlying T = some .string)
    (hx : SV S x (.str s)) (hlo : Bound S 0 lo l) (hhi : Bound S (s.length : Int) hi h) (hc : cut s l h = some r) : IOp P O N o S (S.set t (.str r)) := by
  obtain ⟨⟨h0, h1, h2⟩, hr⟩ := cut_e hc
  exact iop_slice_str ho hd ht hu hx hlo hhi h0 h1 h2 hr

theorem iop_appT {α : Type} (f : Enc α) {T e : TypeId} {x y : Operand} {z : Value} {bytes : Nat} {xs ys zs : List α} {b : Bool} {id : Nat} (id' : Nat)
    (ho : o.op = .call { callee := .builtin .append, args := #[x, y], argTypes := #[T, T] }) (hd : o.dst = some t) (ht : t < N)
    (hu : P.underlying T = some (.slice e)) (hi : TI P e (some z) f.sz bytes) (hz : z.cells.size = f.sz)
    (hx : S.op x = .gsl id f.sz (xs.map f.d)) (he : S.ent id = .tail e f.sz xs.length) (hfr : S.ent id' = .fresh)
    (hy : SV S y (.slice b (ys.map f.d))) (ha : app bytes xs ys = some zs) :
    IOp P O N o S (((S.setE id .none).setE id' (.tail e f.sz zs.length)).set t (.gsl id' f.sz (zs.map f.d))) := by
  obtain ⟨⟨h1, h2⟩, rfl⟩ := app_e ha
  have := iop_append (O := O) id' ho hd ht hu hi hz f.pos hx (by rw [List.length_map]; exact he) hfr (f.len xs) hy (f.flat ys) (by simpa using h1) (by simpa using h2)
  simpa using this
theorem iop_bsT {α : Type} (f : Enc α) (xs : List α) {T e : TypeId} {len eb : Nat} {ez : Value} {ps : List (Nat × Operand)} {dps : List (Nat × D)} (id : Nat) (ho : o.op = .buildSlice T len ps.toArray) (hd : o.dst = some t) (ht : t < N)
    (hu : P.underlying T = some (.slice e)) (he : TI P e (some ez) f.sz eb) (hf : S.ent id = .fresh) (hx : PVs S ps dps)
    (hfill : fillD (fun i => some (i * f.sz, f.sz)) (List.replicate (len * f.sz) .dead) dps = some (D.flat (xs.map f.d))) (hl : xs.length = len) (hb : len * f.sz ≤ 2 ^ 24) :
    IOp P O N o S ((S.setE id (.tail e f.sz xs.length)).set t (.gsl id f.sz (xs.map f.d))) := by
  have := iop_buildSlice (O := O) id ho hd ht hu he f.pos hf hx hfill (by rw [List.length_map]; exact hl) (f.len xs) (f.noRef xs) hb
  rw [hl]; exact this

/-! Slices that the call owns whole: a block that reads as a list. -/
theorem iop_lenO {T e : TypeId} {x : Operand} {id sz len : Nat} (ho : o.op = .call { callee := .builtin .len, args := #[x], argTypes := #[T] }) (hd : o.dst = some t) (ht : t < N) (hu : P.underlying T = some (.slice e))
    (hx : SV S x (.osl id sz len)) : IOp P O N o S (S.set t (.int .i64 (len : Int))) := iop_len_osl ho hd ht hu hx rfl
theorem iop_idxO {α : Type} (f : Enc0 α) {T e : TypeId} {x y : Operand} {xs : List α} {a : α} {k : IntKind} {n : Int} {z : Option Value} {bytes m : Nat} {id : Nat} (ho : o.op = .indexAddr T x y) (hd : o.dst = some t) (ht : t < N)
    (hu : P.underlying T = some (.slice e)) (hi : TI P e z f.sz bytes) (hx : SV S x (.osl id f.sz m)) (hl : xs.length = m) (hy : SV S y (.int k n)) (hn : gix xs n = some a) :
    IOp P O N o S (S.set t (.ref id (n.toNat * f.sz + 0))) :=
  iop_index_osl ho hd ht hu hi hx hy (gix_e hn).1 (hl ▸ (List.getElem?_eq_some_iff.1 (gix_e hn).2).1) rfl

theorem Enc0.drop_at {α : Type} (f : Enc0 α) {xs : List α} {i : Nat} {a : α} (h : xs[i]? = some a) (k : Nat) (hk : k ≤ f.sz) : ∃ r, (D.flat (xs.map f.d)).drop (i * f.sz + k) = (f.d a).cells.drop k ++ r := by
  have h1 := flat_at (f.len xs) i (f.d a) (by rw [List.getElem?_map, h]; rfl)
  refine ⟨(D.flat (xs.map f.d)).drop (i * f.sz + f.sz), ?_⟩
  have hc := (f.fl a).1
  rw [← h1, ← List.drop_drop, List.drop_take]
  have h2 : List.drop (i * f.sz + f.sz) (D.flat (xs.map f.d)) = List.drop (f.sz - k) (List.drop k (List.drop (i * f.sz) (D.flat (xs.map f.d)))) := by
    rw [List.drop_drop, List.drop_drop]; congr 1; omega
  rw [h2, List.take_append_drop]
theorem iop_loadEs {α : Type} (f : Enc0 α) {T : TypeId} {x : Operand} {u : TypeDesc} {z : Option Value} {size bytes : Nat} {id i k : Nat} {e : TypeId} {xs : List α} {a : α} {d : D} {r : List D} (ho : o.op = .load T x) (hd : o.dst = some t) (ht : t < N)
    (hu : P.underlying T = some u) (hg : aggOf P T = false) (hi : TI P T z size bytes) (h1 : 0 < size) (hx : SV S x (.ref id (i * f.sz + k))) (he : S.ent id = .blk e (D.flat (xs.map f.d))) (ha : xs[i]? = some a) (hn : k + size ≤ f.sz)
    (hdd : (f.d a).cells.drop k = d :: r) : IOp P O N o S (S.set t d) := by
  obtain ⟨q, hq⟩ := f.drop_at ha k (by omega)
  refine iop_load_rs ho hd ht hu hg hi h1 hx he ?_ (r := r ++ q) (by rw [hq, hdd]; rfl)
  have := (List.getElem?_eq_some_iff.1 ha).1
  have : (i + 1) * f.sz ≤ xs.length * f.sz := Nat.mul_le_mul_right _ (by omega)
  rw [f.flat_len]; rw [Nat.add_mul, Nat.one_mul] at this; omega
theorem flat_cons (d : D) (l : List D) : D.flat (d :: l) = d.cells ++ D.flat l := rfl
theorem Enc0.flat_set {α : Type} (f : Enc0 α) {k : Nat} {new : List D} (hk : k + new.length ≤ f.sz) {a' : α} : ∀ {xs : List α} {i : Nat} {a : α}, xs[i]? = some a → splice (f.d a).cells k new = (f.d a').cells →
    splice (D.flat (xs.map f.d)) (i * f.sz + k) new = D.flat ((xs.set i a').map f.d)
  | [], i, a, h, _ => by simp at h
  | x :: xs, 0, a, h, he => by
    simp only [List.getElem?_cons_zero, Option.some.injEq] at h; subst h
    have hc := (f.fl x).1
    simp only [Nat.zero_mul, Nat.zero_add, List.map_cons, List.set_cons_zero, flat_cons]
    rw [← he]
    simp only [splice]
    rw [List.take_append_of_le_length (by omega), List.drop_append_of_le_length (by omega)]
    simp
  | x :: xs, i + 1, a, h, he => by
    simp only [List.getElem?_cons_succ] at h
    have ih := f.flat_set hk (xs := xs) h he
    have hc := (f.fl x).1
    simp only [List.map_cons, List.set_cons_succ, flat_cons]
    rw [← ih]
    simp only [splice]
    have e1 : (i + 1) * f.sz + k = f.sz + (i * f.sz + k) := by rw [Nat.add_mul, Nat.one_mul]; omega
    rw [e1, ← hc, List.take_append, List.drop_append]
    rw [List.take_of_length_le (by omega), List.drop_of_length_le (by omega : (f.d x).cells.length ≤ _)]
    simp only [Nat.add_sub_cancel_left, List.append_assoc, List.nil_append]
    congr 4
    omega
theorem iop_storeE {α : Type} (f : Enc0 α) {T : TypeId} {x y : Operand} {z : Option Value} {size bytes : Nat} {id i k : Nat} {e : TypeId} {xs zs : List α} {a a' : α} {d : D} (ho : o.op = .store T x y) (hd : o.dst = none)
    (hi : TI P T z size bytes) (hx : SV S x (.ref id (i * f.sz + k))) (he : S.ent id = .blk e (D.flat (xs.map f.d))) (hy : SV S y d) (hb : d.boxable = true) (hsz : d.cells.length = size) (h1 : d.cells.all D.one = true)
    (ha : xs[i]? = some a) (hn : k + size ≤ f.sz) (hs : splice (f.d a).cells k d.cells = (f.d a').cells) (hz : xs.set i a' = zs) : IOp P O N o S (S.setE id (.blk e (D.flat (zs.map f.d)))) := by
  subst hz
  refine iop_store ho hd hi hx he hy hb hsz h1 ?_ (f.flat_set (by omega) ha hs)
  have := (List.getElem?_eq_some_iff.1 ha).1
  have : (i + 1) * f.sz ≤ xs.length * f.sz := Nat.mul_le_mul_right _ (by omega)
  rw [f.flat_len]; rw [Nat.add_mul, Nat.one_mul] at this; omega
/-- Zero data may be taken as plain. -/
theorem iop_allocS {e : TypeId} {z : Value} {size bytes : Nat} {cs cs' : List D} (id : Nat) (ho : o.op = .alloc e) (hd : o.dst = some t) (ht : t < N) (hf : S.ent id = .fresh) (hz : TI P e (some z) size bytes) (hb : (D.ofVal z).boxable = true) (hcs : (D.ofVal z).cells = cs) (hk : SubL cs cs') :
    IOp P O N o S ((S.setE id (.blk e cs')).set t (.ref id 0)) := by
  refine (iop_alloc' id ho hd ht hf hz hb hcs).to fun E β a hr => ?_
  have := hr.subE (id := id) (e := e) (ds := cs) (ds' := cs') (by simp [St.ent, entL, St.setE, St.set, look_cons]) hk
  refine ⟨this.n, this.nd, ?_, this.sl⟩
  have h2 := this.h
  have e2 : (((S.setE id (.blk e cs)).set t (.ref id 0)).setE id (.blk e cs')).ent = ((S.setE id (.blk e cs')).set t (.ref id 0)).ent := by
    funext j; simp only [St.ent, entL, St.setE, St.set, look_cons]; split <;> rfl
  rw [← e2]; exact h2
end
end Go.IL
namespace Go.IL
def eByte : Enc UInt8 := ⟨⟨byteD, 1, by decide, fun _ => ⟨rfl, rfl⟩⟩, fun _ => rfl⟩
def eStr : Enc (List UInt8) := ⟨⟨D.str, 1, by decide, fun _ => ⟨rfl, rfl⟩⟩, fun _ => rfl⟩
theorem EntW.lst {α : Type} {f : Enc α} {xs : List α} {S S' : St} {ρ : Nat → Nat} {id : Nat} {e : TypeId} (h : S.ent (ρ id) = .blk e (D.flat (xs.map f.d))) : EntW S S' ρ id (.blk e (D.flat (xs.map f.d))) := .plain h rfl (f.noRef xs)
theorem nd_of {l : List Nat} (ks : List Nat) (h : l = ks) (hd : ks.Nodup) : l.Nodup := h ▸ hd
theorem len_set {α : Type} {xs zs : List α} {i n : Nat} {a : α} (h : xs.set i a = zs) (k : xs.length = n) : zs.length = n := by rw [← h, List.length_set, k]
/-! Memory at a place that is known only by its number: numbers of 64 bits. -/
section
variable {P : Program} {O : Origin} {N : Nat} {S : St} {o : Oper} {t : Nat}
end
theorem sv_int {S : St} {x : Operand} {k : IntKind} {n m : Int} (h : SV S x (.int k n)) (e : m = n) : SV S x (.int k m) := e ▸ h
end Go.IL
open Go.RowKit
namespace Go.IL

mutual
/-- Data that hang on no memory. -/
def D.nomem : D → Bool
  | .dead | .bool _ | .int _ _ | .float _ _ | .str _ | .nils | .nilp | .nilf | .nili => true
  | .agg cs => D.nomemL cs
  | .tuple cs => D.nomemL cs
  | _ => false
def D.nomemL : List D → Bool
  | [] => true
  | d :: ds => d.nomem && D.nomemL ds
end
mutual
theorem Rd.nomem {E E' : Env} {β β' : Names} : ∀ {v : Value} {d : D}, d.nomem = true → Rd E β v d → Rd E' β' v d
  | _, .dead, _, _ => .dead _ _
  | _, .bool b, _, .bool _ _ => .bool _ b
  | _, .int k n, _, .int _ _ _ => .int _ k n
  | _, .float k n, _, .float _ _ m _ h => .float _ k m n h
  | _, .str l, _, .str _ _ => .str _ l
  | _, .nils, _, .nils _ => .nils _
  | _, .nilp, _, .nilp _ => .nilp _
  | _, .nilf, _, .nilf _ => .nilf _
  | _, .nili, _, .nili _ => .nili _
  | _, .agg cs, h, .agg _ vs _ hv => .agg _ vs cs (RdL.nomem (by simpa [D.nomem] using h) hv)
  | _, .tuple cs, h, .tuple _ vs _ hv => .tuple _ vs cs (RdL.nomem (by simpa [D.nomem] using h) hv)
theorem RdL.nomem {E E' : Env} {β β' : Names} : ∀ {vs : List Value} {ds : List D}, D.nomemL ds = true → RdL E β vs ds → RdL E' β' vs ds
  | _, [], _, .nil _ => .nil _
  | _, d :: ds, h, .cons hv t =>
    have h' : d.nomem = true ∧ D.nomemL ds = true := by simpa [D.nomemL] using h
    .cons (Rd.nomem h'.1 hv) (RdL.nomem h'.2 t)
end

mutual
/-- What reads as the one may be taken as the other, once nothing is written any more. -/
inductive FD (S : St) : D → D → Prop
  | refl (d) : FD S d d
  | nils (f) : FD S .nils (.slice f [])
  | gsl (id sz l) : FD S (.gsl id sz l) (.slice false l)
  | osl {id sz n e l} (he : S.ent id = .blk e (D.flat l)) (hn : l.length = n) (hz : ∀ d ∈ l, d.cells.length = sz) (hp : D.refsInL noRef (D.flat l) = true) : FD S (.osl id sz n) (.slice false l)
  | ref {id off e ds cs cs'} (he : S.ent id = .blk e ds) (hd : ds.drop off = cs) (h : FDL S cs cs') (hp : D.refsInL noRef cs' = true) : FD S (.ref id off) (.fptr cs')
  | dead (d) : FD S d .dead
  | agg {cs cs'} (h : FDL S cs cs') : FD S (.agg cs) (.agg cs')
  | tuple {cs cs'} (h : FDL S cs cs') : FD S (.tuple cs) (.tuple cs')
  | fn {f cs cs'} (h : FDL S cs cs') : FD S (.fn f cs) (.fn f cs')
  | mv {f cs cs'} (h : FDL S cs cs') : FD S (.mv f cs) (.mv f cs')
inductive FDL (S : St) : List D → List D → Prop
  | nil : FDL S [] []
  | cons {d d' ds ds'} (h : FD S d d') (t : FDL S ds ds') : FDL S (d :: ds) (d' :: ds')
end

theorem fdl_refl {S : St} : ∀ (ds : List D), FDL S ds ds
  | [] => .nil
  | d :: ds => .cons (.refl d) (fdl_refl ds)
theorem FDT {α : Type} (f : Enc α) {S : St} {id n : Nat} {e : TypeId} {xs : List α} (he : S.ent id = .blk e (D.flat (xs.map f.d))) (hn : xs.length = n) : FD S (.osl id f.sz n) (.slice false (xs.map f.d)) :=
  .osl he (by rw [List.length_map, hn]) (f.len xs) (f.noRef xs)

/-- All that is owned may be looked at. -/
def Env.all (E : Env) (β : Names) (S : St) : Env := ⟨E.w, fun b o => E.X b o ∧ ¬ ∃ i, (S.ent i).held = true ∧ β i = some b⟩
theorem Env.all_le (E : Env) (β : Names) (S : St) : E.le (E.all β S) :=
  ⟨fun _ _ _ h1 h2 => ⟨h1, fun h3 => h2 h3.1⟩, fun _ c _ f h1 => ⟨c, f, h1, rfl⟩⟩

section
variable {P : Program} {O : Origin} {N : Nat} {S S' : St} {o : Oper} {t : Nat} {Q : Exit → St → Prop}

theorem row_all {E : Env} {β : Names} (h : HOk O E β S.ent) {id b : Nat} {e : TypeId} {ds : List D} (he : S.ent id = .blk e ds) (hb : β id = some b) :
    ∃ vs, (E.all β S).row b 0 vs ∧ RdL E β vs ds := by
  have hent := h.ent id
  rw [he] at hent
  obtain ⟨vs, sp, _, hh, _, hl⟩ := blk_at hent hb
  refine ⟨vs, fun k v hk => ⟨?_, fun h3 => h3.2 ⟨id, by rw [he]; rfl, hb⟩⟩, hl⟩
  show E.w.cell? _ = _
  have hlt := (List.getElem?_eq_some_iff.1 hk).1
  rw [Nat.zero_add, cell_of_row _ _ _ _ _ _ hh]; simpa [List.getElem?_append_left hlt] using hk

theorem rd_osl_fd {E : Env} {β : Names} (h : HOk O E β S.ent) {v : Value} {id sz n : Nat} {e : TypeId} {l : List D} (he : S.ent id = .blk e (D.flat l)) (hn : l.length = n) (hz : ∀ d ∈ l, d.cells.length = sz) (hp : D.refsInL noRef (D.flat l) = true) (hv : Rd E β v (.osl id sz n)) : Rd (E.all β S) β v (.slice false l) := by
  cases hv with
  | osl _ _ b _ cap _ hb hc hsz _ _ _ _ _ _ =>
    obtain ⟨vs, hr, hv⟩ := row_all h he hb
    exact .slice _ b 0 n cap sz false vs l hn hc (fun h => by cases h) hz hsz hr ((RdL.mono (E.all_le β S) (Names.le.refl _) hv).bare hp)
  | nosl => rw [List.length_eq_zero_iff.1 hn]; exact .nslice _ false
mutual
theorem Rd.fd {E : Env} {β : Names} (h : HOk O E β S.ent) : ∀ {v : Value} {d d' : D}, FD S d d' → Rd E β v d → Rd (E.all β S) β v d'
  | _, _, _, .refl _, hv => Rd.mono (E.all_le β S) (Names.le.refl _) hv
  | _, _, _, .nils f, .nils _ => .nslice _ f
  | _, _, _, .gsl _ _ _, .gsl _ _ b len cap sz vs _ _ hl hc hz hsz hr hv _ _ _ _ _ _ => .slice _ b 0 len cap sz false vs _ hl hc (fun h => by cases h) hz hsz ((E.all_le β S).row hr) (RdL.mono (E.all_le β S) (Names.le.refl _) hv)
  | _, _, _, .gsl _ _ _, .ngsl _ _ _ => .nslice _ false
  | _, _, _, .osl he hn hz hp, hv => rd_osl_fd h he hn hz hp hv
  | _, _, _, .ref (off := off) he hd hc hp, .ref _ _ _ b hb =>
    let ⟨vs, hr, hv⟩ := row_all h he hb
    .fptr _ b off (vs.drop off) _ (by have := hr.drop off; rwa [Nat.zero_add] at this) ((RdL.fd h hc (hd ▸ hv.drop off)).bare hp)
  | _, _, _, .dead _, _ => .dead _ _
  | _, _, _, .agg hc, .agg _ vs _ hv => .agg _ vs _ (RdL.fd h hc hv)
  | _, _, _, .tuple hc, .tuple _ vs _ hv => .tuple _ vs _ (RdL.fd h hc hv)
  | _, _, _, .fn hc, .fn _ f vs _ hv => .fn _ f vs _ (RdL.fd h hc hv)
  | _, _, _, .mv hc, .mv _ f us _ hv => .mv _ f us _ (RdL.fd h hc hv)
theorem RdL.fd {E : Env} {β : Names} (h : HOk O E β S.ent) : ∀ {vs : List Value} {ds ds' : List D}, FDL S ds ds' → RdL E β vs ds → RdL (E.all β S) β vs ds'
  | _, _, _, .nil, .nil _ => .nil _
  | _, _, _, .cons h1 t, .cons hv tv => .cons (Rd.fd h h1 hv) (RdL.fd h t tv)
end

/-- What a function hands back may be taken as plain. -/
theorem pure_of_iwpF {f : FuncId} {fn : Func} {c : Code} {ds rs : List D} (hf : P.funcs[f]? = some fn) (hb : fn.body = some c) (hN : fn.ntmps = N) (hlen : ds.length ≤ N) (hp : D.refsInL noRef rs = true)
    (h : ∀ O : Origin, O.Plain → IWP P O N c ⟨(List.range ds.length).zip ds, []⟩ (fun e S => (e = .normal ∨ e = .ret) ∧ ∃ rs0, ResVs P S fn.results.toList rs0 ∧ FDL S rs0 rs)) : PureAt P f ds (retD rs) := by
  intro E vs hX hvs
  let O : Origin := ⟨E.w, E.X, fun _ => False, β0, none, fun _ => [], fun _ => 0, fun _ => [], fun _ => (#[], .skip, .skip)⟩
  have hl := hvs.length
  have hrel : Rel O N ⟨(List.range ds.length).zip ds, []⟩ E β0 { tmps := vs.toArray ++ Array.replicate (fn.ntmps - vs.toArray.size) undef, defers := [] } := by
    refine ⟨by simp; omega, Marks.nil, ?_, ?_⟩
    · exact init_hok hX
    · intro s
      have key : ∀ (ds : List D) (vs : List Value) (k : Nat), RdL E β0 vs ds → Rd E β0 (if s < k then undef else vs.getD (s - k) undef) (look .dead s ((List.range' k ds.length).zip ds)) := by
        intro ds
        induction ds with
        | nil => intro vs k _; simp [look]; exact .dead _ _
        | cons d ds ih =>
          intro vs k hv
          cases hv with
          | cons h1 h2 =>
            simp only [List.length_cons, List.range'_succ, List.zip_cons_cons, look_cons]
            by_cases hks : k = s
            · subst hks; simpa using h1
            · rw [if_neg hks]
              have := ih _ (k + 1) h2
              by_cases hlt : s < k
              · simpa [hlt, show s < k + 1 by omega] using this
              · have h3 : ¬ s < k + 1 := by omega
                rw [if_neg hlt]; rw [if_neg h3] at this
                rw [show s - k = (s - (k + 1)) + 1 by omega]
                simpa using this
      have := key ds vs 0 hvs
      rw [List.range_eq_range']
      simp only [Nat.not_lt_zero, if_false, Nat.sub_zero] at this
      have hg : (vs.toArray ++ Array.replicate (fn.ntmps - vs.toArray.size) undef).getD s undef = vs.getD s undef := by
        by_cases hs : s < vs.length
        · simp [hs, Array.getElem?_append]
        · simp [Array.getElem?_append, hs, List.getElem?_eq_none (Nat.le_of_not_lt hs)]
          simp [Array.getElem?_replicate]
          split <;> rfl
      show Rd E β0 (Array.getD _ s undef) _
      rw [hg]
      exact this
  refine calls_of_iwp hf hb rfl (fun _ _ h => h) hrel (h O ⟨rfl, fun _ _ h => h, fun _ => rfl⟩) ?_
  rintro e S' E' β' a' hr' ⟨he, rs0, hres, hfd⟩
  refine ⟨he, ?_⟩
  have hbelow : Below E.w.heap.size E.w E'.w := ⟨hr'.h.os, hr'.h.tape, hr'.h.output, hr'.h.size, fun k hk => hr'.h.block k hk (fun h => h)⟩
  obtain ⟨vs', h1, h2⟩ := run_results (P := P) hr' hres
  have h3 := (RdL.fd hr'.h hfd h2).bare hp
  have hxx : (E'.all β' S').le ⟨E'.w, E.X⟩ := by
    constructor
    · intro b o v hc hx
      refine ⟨hc, fun hX' => hx ⟨(hr'.h.xold b o (hX.xlt b o hX') (fun h => h)).2 hX', ?_⟩⟩
      rintro ⟨i, hi, hb⟩
      have hlt : b < E.w.heap.size := hX.xlt b o hX'
      have hown : O.own b := hr'.h.own hi hb
      rcases hown with h1 | h1
      · exact absurd hlt (Nat.not_lt.2 h1)
      · exact h1
    · intro b c e f hc; exact ⟨c, f, hc, rfl⟩
  have h4 := RdL.mono hxx (Names.le.refl _) h3
  have hrun : (results fn a'.tmps).run P E'.w = .ok (if h : vs'.toArray.size = 1 then vs'.toArray[0] else .tuple vs'.toArray) E'.w := by
    have hF : results fn a'.tmps = (fn.results.mapM (resF a'.tmps)) >>= fun vs => pure (if h : vs.size = 1 then vs[0] else .tuple vs) := by
      unfold results
      congr 2
    rw [hF, ← Array.toArray_toList (xs := fn.results), List.mapM_toArray]
    simp only [Sem.run_bind, Sem.run_map, h1, Result.andThen_ok, Sem.run_pure]
  have hfin : ∃ v, (results fn a'.tmps).run P E'.w = .ok v E'.w ∧ Rd ⟨E'.w, E.X⟩ β0 v (retD rs) := by
    refine ⟨_, hrun, ?_⟩
    cases h4 with
    | nil => simpa [retD] using Rd.tuple (E := ⟨E'.w, E.X⟩) β0 [] [] (.nil _)
    | cons h5 h6 =>
      cases h6 with
      | nil => simpa [retD] using h5
      | cons h7 h8 =>
        simp only [retD, List.size_toArray, List.length_cons]
        rw [dif_neg (by omega)]
        exact .tuple _ _ _ (.cons h5 (.cons h7 h8))
  obtain ⟨v, h5, h6⟩ := hfin
  exact ⟨v, h5, v, rfl, hbelow, h6⟩
end
end Go.IL
namespace Go.IL
section
variable {P : Program} {O : Origin} {N : Nat} {S S' : St} {o : Oper} {t : Nat}
theorem flatrep_at {α : Type} {l : List α} (hl : 0 < l.length) : ∀ (m j : Nat), j < m * l.length → (List.replicate m l).flatten[j]? = l[j % l.length]?
  | 0, j, h => by omega
  | m + 1, j, h => by
    rw [List.replicate_succ, List.flatten_cons]
    by_cases hj : j < l.length
    · rw [List.getElem?_append_left hj, Nat.mod_eq_of_lt hj]
    · rw [List.getElem?_append_right (by omega), flatrep_at hl m (j - l.length) (by rw [Nat.add_mul, Nat.one_mul] at h; omega)]
      rw [Nat.mod_eq_sub_mod (a := j) (by omega)]
theorem made_flat {z : Array Value} (hz : 0 < z.size) (m : Nat) : madeCells z (m * z.size) = (List.replicate m z.toList).flatten.toArray := by
  have hl : (List.replicate m z.toList).flatten.length = m * z.size := by simp
  apply Array.ext
  · rw [size_madeCells]; simp
  · intro j h1 h2
    rw [size_madeCells] at h1
    have h3 := flatrep_at (l := z.toList) (by simpa using hz) m j (by simpa using h1)
    have h4 : j % z.size < z.size := Nat.mod_lt _ hz
    simp only [madeCells, Array.getElem_map, Array.getElem_range, List.getElem_toArray]
    have h5 : (List.replicate m z.toList).flatten[j]? = some ((List.replicate m z.toList).flatten[j]'(by omega)) := List.getElem?_eq_getElem _
    rw [h5] at h3
    simp only [Array.length_toList] at h3
    rw [List.getElem?_eq_getElem (by simpa using h4)] at h3
    rw [Option.some.inj h3]
    simp [h4]
theorem rdl_flatrep {E : Env} {β : Names} {vs : List Value} {ds : List D} (h : RdL E β vs ds) : ∀ (m : Nat), RdL E β (List.replicate m vs).flatten (List.replicate m ds).flatten
  | 0 => .nil _
  | m + 1 => by rw [List.replicate_succ, List.replicate_succ, List.flatten_cons, List.flatten_cons]; exact h.append (rdl_flatrep h m)
theorem flat_rep (d : D) : ∀ (m : Nat), D.flat (List.replicate m d) = (List.replicate m d.cells).flatten
  | 0 => rfl
  | m + 1 => by rw [List.replicate_succ, List.replicate_succ, List.flatten_cons, ← flat_rep d m]; rfl
/-- 'make([]T, n)'. -/
theorem iop_makeT {α : Type} (f : Enc0 α) (a : α) {T e : TypeId} {x : Operand} {k : IntKind} {n : Int} {z : Value} {bytes : Nat} {xs : List α} (id : Nat) (ho : o.op = .makeSlice T x x) (hd : o.dst = some t) (ht : t < N)
    (hu : P.underlying T = some (.slice e)) (hi : TI P e (some z) f.sz bytes) (hzs : z.cells.size = f.sz) (hf : S.ent id = .fresh) (hx : SV S x (.int k n)) (hm : made bytes n a = some xs)
    (hzd : SubL (z.cells.toList.map D.ofScalar) (f.d a).cells) :
    IOp P O N o S ((S.setE id (.blk e (D.flat (xs.map f.d)))).set t (.osl id f.sz xs.length)) := by
  obtain ⟨⟨h0, hb, h63⟩, rfl⟩ := made_e hm
  obtain ⟨m, rfl⟩ := Int.eq_ofNat_of_zero_le h0
  simp only [Int.toNat_natCast, List.length_replicate]
  refine iop_newosl id hd ht hf (by rw [f.flat_len, List.length_replicate]) f.pos (by simp only [maxLen]; omega) fun E β a' hr => ⟨(List.replicate m z.cells.toList).flatten, ?_, ?_⟩
  · obtain ⟨i, h1, h2, h3, h4⟩ := hi.at
    have hxv := rd_int (hx.rd hr)
    have := run_make (P := P) E.w T e i z hu h1 h2 k k (m : Int) (m : Int) (by omega) (by omega) (by rw [h4]; exact hb) (by omega)
    simp only [Int.toNat_natCast, h3] at this
    rw [← hzs, made_flat (by rw [hzs]; exact f.pos)] at this
    simp only [execOp, ho, hxv, Sem.run_bind, this, Result.andThen_ok, Sem.run_pure]
  · rw [List.map_replicate, flat_rep]
    exact rdl_flatrep (RdL.sub hzd (rdl_ofScalar E β z.cells.toList)) m
end
end Go.IL
namespace Go.IL
end Go.IL
namespace Go.IL
section
variable {P : Program} {O : Origin} {N : Nat} {S S' : St} {o : Oper} {t : Nat}
end
end Go.IL
/-! Small laws for the plain functions. -/
namespace Go.IL
theorem bnd_d {α β : Type} (e : α) (f : α → Option β) : bnd e f = f e := rfl
theorem bno_s {α β : Type} (x : α) (f : α → Option β) : bno (some x) f = f x := rfl
theorem gd_tt {α : Type} (o : Option α) (d : α) : gd true o d = o := rfl
theorem gd_ff {α : Type} (o : Option α) (d : α) : gd false o d = some d := rfl
theorem gix_nat {α : Type} (l : List α) (k : Nat) : gix l (k : Int) = l[k]? := by unfold gix; rw [if_pos (by omega)]; rfl
theorem cut_ok {α : Type} {l : List α} {a b : Int} (h0 : 0 ≤ a) (h1 : a ≤ b) (h2 : b ≤ (l.length : Int)) : cut l a b = some ((l.take b.toNat).drop a.toNat) := if_pos ⟨h0, h1, h2⟩
theorem cut_of {α : Type} {l : List α} {b : Int} (h0 : 0 ≤ b) (h1 : b ≤ (l.length : Int)) : cut l 0 b = some (l.take b.toNat) := by
  rw [cut_ok (Int.le_refl _) h0 h1]; rfl
theorem app_ok {α : Type} {b : Nat} {l m : List α} (h : l.length + m.length ≤ 9223372036854775807) (h1 : (l.length + m.length) * b ≤ 140737488355328) : app b l m = some (l ++ m) := if_pos ⟨h, h1⟩
theorem cat_ok {a b : List UInt8} (h : a.length + b.length ≤ 9223372036854775807) : cat a b = some (a ++ b) := if_pos h
theorem w64 {n : Int} (h0 : -9223372036854775808 ≤ n) (h1 : n ≤ 9223372036854775807) : IntKind.wrap .i64 n = n := wrap_i64 h0 h1
theorem toU8_ok {n : Int} (h0 : 0 ≤ n) (h1 : n < 256) : toU8 n = some (UInt8.ofNat n.toNat) := if_pos ⟨h0, h1⟩
theorem quo_ok {a b : Int} (h0 : 0 ≤ a) (h1 : a ≤ 9223372036854775807) (hb : 0 < b) : quoI .i64 a b = some (a / b) := by
  unfold quoI
  have h2 : a / b ≤ a := Int.ediv_le_self _ h0
  have h3 : 0 ≤ a / b := Int.ediv_nonneg h0 (Int.le_of_lt hb)
  rw [if_neg (by omega), Int.tdiv_eq_ediv_of_nonneg h0, w64 (by omega) (by omega)]
theorem rem_ok {a b : Int} (h0 : 0 ≤ a) (hb : 0 < b) : remI a b = some (a % b) := by
  unfold remI
  rw [if_neg (by omega), Int.tmod_eq_emod_of_nonneg h0]
theorem made_ok {α : Type} {b : Nat} {n : Int} {z : α} (h0 : 0 ≤ n) (h1 : (b : Int) * n ≤ 281474976710656) (h2 : n ≤ 9223372036854775807) : made b n z = some (List.replicate n.toNat z) := if_pos ⟨h0, h1, h2⟩
theorem fuel_gt {n : Nat} (h : n < 18446744073709551616) : n < fuel := by show n < 2 ^ 64; omega
/-! The same, so that simp keeps a proof of each step (a long term is not looked at anew by the kernel). -/
theorem bndD {α β : Type} (e : α) (f : α → Option β) : bnd e f = f e := (Eq.refl _).trans (bnd_d e f)
theorem bnoS {α β : Type} (x : α) (f : α → Option β) : bno (some x) f = f x := (Eq.refl _).trans (bno_s x f)
theorem gdtt {α : Type} (o : Option α) (d : α) : gd true o d = o := (Eq.refl _).trans (gd_tt o d)
theorem gdff {α : Type} (o : Option α) (d : α) : gd false o d = some d := (Eq.refl _).trans (gd_ff o d)
theorem bif_tt {α : Type} (a b : α) : (bif true then a else b) = a := (Eq.refl _).trans (Eq.refl _)
theorem bif_ff {α : Type} (a b : α) : (bif false then a else b) = b := (Eq.refl _).trans (Eq.refl _)
end Go.IL
namespace Go.IL
open RowKit (Below)

/-! Loops over functions ('for x := range seq'): the function that is ranged over is walked at once, and each of its calls of yield walks the loop's body. -/
def noK (k : Nat) : Ent → Bool
  | .kept j _ => !(j == k)
  | .loop j .. => !(j == k)
  | _ => true
/-- No entry that is told bears this number, but those named. -/
def freeX (k : Nat) (ids : List Nat) (H : List (Nat × Ent)) : Bool := H.all fun x => ids.elem x.1 || noK k x.2
theorem freeX_ent {k : Nat} {ids : List Nat} {H : List (Nat × Ent)} (h : freeX k ids H = true) {id : Nat} (hid : id ∉ ids) : noK k (entL H id) = true := by
  unfold entL
  rcases look_mem (z := defE id) (t := id) (l := H) with h1 | h1
  · rw [h1]; unfold defE; split <;> rfl
  · have h2 := List.all_eq_true.1 h _ h1
    simp only [Bool.or_eq_true, List.elem_eq_mem, decide_eq_true_eq] at h2
    exact h2.resolve_left hid

def Origin.same (O O' : Origin) : Prop := O'.w = O.w ∧ O'.X = O.X ∧ O'.foot = O.foot ∧ O'.given = O.given
def compat (O O' : Origin) : Ent → Prop
  | .kept j _ => O'.kv j = O.kv j ∧ O'.dv j = O.dv j
  | .loop j .. => O'.lv j = O.lv j ∧ O'.lc j = O.lc j
  | _ => True
theorem EntAt.swap {O O' : Origin} {E : Env} {β : Names} {id : Nat} {e : Ent} (h : EntAt O E β id e) (hs : O.same O') (hc : compat O O' e) : EntAt O' E β id e := by
  obtain ⟨s1, s2, s3, s4⟩ := hs
  have hown : ∀ b, O.own b → O'.own b := fun b hb => by unfold Origin.own at hb ⊢; rw [s1, s3]; exact hb
  cases e with
  | none => trivial
  | fresh => exact h
  | blk e ds =>
    rcases h with h | ⟨b, vs, sp, h1, h2, h3⟩
    · exact .inl h
    · exact .inr ⟨b, vs, sp, h1, hown b h2, h3⟩
  | tail e sz n =>
    rcases h with h | ⟨b, c, h1, h2, h3⟩
    · exact .inl h
    · exact .inr ⟨b, c, h1, hown b h2, h3⟩
  | loop lk ds st pend =>
    obtain ⟨b, r, h1, h2, h3, h4, h5, h6, h7, h8, h9, h10, h11⟩ := h
    obtain ⟨c1, c2⟩ : O'.lv lk = O.lv lk ∧ O'.lc lk = O.lc lk := hc
    exact ⟨b, r, h1, hown b h2, h3, h4, by rw [c2]; exact h5, by rw [c2]; exact h6, by rw [c2]; exact h7, h8, h9, c1.trans h10, h11⟩
  | kept k ds =>
    obtain ⟨c1, c2⟩ : O'.kv k = O.kv k ∧ O'.dv k = O.dv k := hc
    exact ⟨c1 ▸ h.1, fun b hb => h.2 b (c2 ▸ hb)⟩
theorem HOk.swap {O O' : Origin} {E : Env} {β : Names} {H H' : Nat → Ent} (h : HOk O E β H) (hs : O.same O') (hc : ∀ id, (H' id = H id ∧ compat O O' (H id)) ∨ H' id = .none) : HOk O' E β H' where
  os := by rw [hs.1]; exact h.os
  tab := by rw [hs.1, hs.2.1]; exact h.tab
  tape := by rw [hs.1]; exact h.tape
  output := by rw [hs.1]; exact h.output
  size := by rw [hs.1]; exact h.size
  block k hk hf := by rw [hs.1] at hk ⊢; rw [hs.2.2.1] at hf; exact h.block k hk hf
  xlt := h.xlt
  xold b o hb hf := by rw [hs.1] at hb; rw [hs.2.2.1] at hf; rw [hs.2.1]; exact h.xold b o hb hf
  ent id := by
    rcases hc id with ⟨h1, h2⟩ | h1
    · rw [h1]; exact (h.ent id).swap hs h2
    · rw [h1]; trivial
  inj i j b hi hj := by
    have key : ∀ i, (H' i).held = true → (H i).held = true := fun i hi => by
      rcases hc i with ⟨h1, _⟩ | h1
      · rwa [h1] at hi
      · rw [h1] at hi; cases hi
    exact h.inj i j b (key i hi) (key j hj)
  le := by rw [hs.1, hs.2.1]; exact h.le
  gid := by rw [hs.2.2.2]; exact h.gid
  given := by rw [hs.2.2.2]; exact h.given
theorem HOk.addK {O : Origin} {E : Env} {β : Names} {H : List (Nat × Ent)} (h : HOk O E β (entL H)) {id k : Nat} {ds : List D} (hr : RdL E β (O.kv k) ds) (hd : ∀ b ∈ O.dv k, E.w.heap[b]? = some (.deferred (some []))) : HOk O E β (entL ((id, .kept k ds) :: H)) :=
  { h with
    ent := fun j => by
      show EntAt O E β j (look _ _ _)
      rw [look_cons]
      by_cases hj : id = j
      · rw [if_pos hj]; exact ⟨hr, hd⟩
      · rw [if_neg hj]; exact h.ent j
    inj := fun i j b hi hj => by
      have key : ∀ i, (entL ((id, .kept k ds) :: H) i).held = true → (entL H i).held = true := fun i hi => by
        have hi' : (look (defE i) i ((id, .kept k ds) :: H)).held = true := hi
        rw [look_cons] at hi'
        by_cases h : id = i
        · rw [if_pos h] at hi'; cases hi'
        · rw [if_neg h] at hi'; exact hi'
      exact h.inj i j b (key i hi) (key j hj) }

/-- What slots read as, of what is passed. -/
theorem rdl_slots {E : Env} {β : Names} {vs : List Value} {ds : List D} (hv : RdL E β vs ds) (n : Nat) (s : Nat) : Rd E β ((vs.toArray ++ Array.replicate n undef).getD s undef) (look .dead s ((List.range ds.length).zip ds)) := by
  have key : ∀ (ds : List D) (vs : List Value) (k : Nat), RdL E β vs ds → Rd E β (if s < k then undef else vs.getD (s - k) undef) (look .dead s ((List.range' k ds.length).zip ds)) := by
    intro ds
    induction ds with
    | nil => intro vs k _; simp [look]; exact .dead _ _
    | cons d ds ih =>
      intro vs k hv
      cases hv with
      | cons h1 h2 =>
        simp only [List.length_cons, List.range'_succ, List.zip_cons_cons, look_cons]
        by_cases hks : k = s
        · subst hks; simpa using h1
        · rw [if_neg hks]
          have := ih _ (k + 1) h2
          by_cases hlt : s < k
          · simpa [hlt, show s < k + 1 by omega] using this
          · have h3 : ¬ s < k + 1 := by omega
            rw [if_neg hlt]; rw [if_neg h3] at this
            rw [show s - k = (s - (k + 1)) + 1 by omega]
            simpa using this
  have := key ds vs 0 hv
  rw [List.range_eq_range']
  simp only [Nat.not_lt_zero, if_false, Nat.sub_zero] at this
  have hg : (vs.toArray ++ Array.replicate n undef).getD s undef = vs.getD s undef := by
    by_cases hs : s < vs.length
    · simp [hs, Array.getElem?_append]
    · simp [Array.getElem?_append, hs, List.getElem?_eq_none (Nat.le_of_not_lt hs)]
      simp [Array.getElem?_replicate]
      split <;> rfl
  rw [hg]
  exact this
theorem rdl_slots0 {E : Env} {β : Names} {a : Array Value} {ds : List D} (hv : RdL E β a.toList ds) (s : Nat) : Rd E β (a.getD s undef) (look .dead s ((List.range ds.length).zip ds)) := by
  have := rdl_slots hv 0 s
  simpa using this
/-- All slots of a state, in a row. -/
def allD (N : Nat) (S : St) : List D := (List.range N).map S.get
theorem rel_allD {O : Origin} {N : Nat} {S : St} {E : Env} {β : Names} {a : Act} (hr : Rel O N S E β a) : RdL E β a.tmps.toList (allD N S) := by
  have key : ∀ (l : List Value) (k : Nat), (∀ s, s < l.length → Rd E β (l.getD s undef) (S.get (k + s))) → RdL E β l ((List.range' k l.length).map S.get) := by
    intro l
    induction l with
    | nil => intro k _; exact .nil _
    | cons v l ih =>
      intro k h
      rw [List.length_cons, List.range'_succ, List.map_cons]
      refine .cons (by simpa using h 0 (by simp)) (ih (k + 1) fun s hs => ?_)
      have := h (s + 1) (by simpa using hs)
      rw [show k + 1 + s = k + (s + 1) by omega]
      simpa using this
  unfold allD
  have hn : a.tmps.toList.length = N := by simpa using hr.n
  have := key a.tmps.toList 0 fun s hs => by
    have h1 := hr.sl s
    rw [Nat.zero_add]
    simpa using h1
  rwa [hn, ← List.range_eq_range'] at this
/-- The record of a loop turns. -/
theorem HOk.turn {O : Origin} {E : Env} {β : Names} {H : List (Nat × Ent)} (h : HOk O E β (entL H)) {id k : Nat} {ds : List D} {st : LoopState} {pend : Option Code} (he : entL H id = .loop k ds st pend) :
    ∃ r, E.w.heap[O.lv k]? = some (.loop r) ∧ β id = some (O.lv k) ∧ r.params = (O.lc k).1 ∧ r.assign = (O.lc k).2.1 ∧ r.body = (O.lc k).2.2 ∧ r.state = st ∧ r.pending = pend ∧ ∀ st' pend', (E).le ⟨E.w.putObj (O.lv k) (.loop { r with state := st', pending := pend' }), E.X⟩ ∧
      HOk O ⟨E.w.putObj (O.lv k) (.loop { r with state := st', pending := pend' }), E.X⟩ β (entL ((id, .loop k ds st' pend') :: H)) := by
  have hh := h.ent id
  rw [he] at hh
  obtain ⟨b, r, h1, h2, h3, h4, h5, h6, h7, h8, h9, h10, h11⟩ := hh
  subst h10
  refine ⟨r, h3, h1, h5, h6, h7, h8, h9, fun st' pend' => ?_⟩
  let E' : Env := ⟨E.w.putObj (O.lv k) (.loop { r with state := st', pending := pend' }), E.X⟩
  have hs : Step O E E' (O.lv k) := ⟨rfl, rfl, rfl, by simp [E', World.putObj], by simpa [E', World.putObj] using heap_lt h3, h2, fun j _ hj => World.putObj_heap_other hj, fun _ _ _ => Iff.rfl, fun _ hx => by rw [h3] at hx; cases hx⟩
  have hle : E.le E' := hs.le (fun o v _ hx => absurd (h4 o) hx) (fun c e f hx => by rw [h3] at hx; cases hx)
  refine ⟨hle, HOk.put h hs hle (Names.le.refl _) (id := id) (fun j hj => ?_) (fun j hj hh hb => ?_) h1 ?_ (fun _ _ => trivial)⟩
  · left; exact ⟨by show look _ _ _ = _; rw [look_cons, if_neg (Ne.symm hj)]; rfl, rfl⟩
  · have hh' : (look (defE j) j ((id, .loop k ds st' pend') :: H)).held = true := hh
    rw [look_cons, if_neg (Ne.symm hj)] at hh'
    exact hj (h.inj j id _ hh' (by rw [he]; rfl) hb h1)
  · show EntOk O E' β _ (look _ _ _)
    rw [look_cons, if_pos rfl]
    exact ⟨_, World.putObj_heap_same (heap_lt h3), h4, h5, h6, h7, rfl, rfl, rfl, RdL.mono hle (Names.le.refl _) h11⟩
end Go.IL
namespace Go.IL
open RowKit (Below)
section
variable {P : Program} {O : Origin} {N : Nat} {S S' : St} {Q : Exit → St → Prop}

/-- What the walk of the function that is ranged over must come to. -/
@[reducible] def rangeQ (P : Program) (O : Origin) (N k : Nat) (Q : Exit → St → Prop) (e : Exit) (S' : St) : Prop :=
  (e = .normal ∨ e = .ret) ∧ ∃ iL iK dl ds' st pend, S'.ent iL = .loop k dl st pend ∧ st ≠ .busy ∧ S'.ent iK = .kept k ds' ∧ freeX k [iL, iK] S'.H = true ∧
    ∃ S2 ρ, Weak ⟨(List.range N).zip ds', (iK, .none) :: (iL, .none) :: S'.H⟩ S2 ρ ∧ match pend with
    | none => Q .normal S2
    | some c => IWP P O N c S2 Q

theorem iwp_range {g : Operand} {ps : Array Tmp} {as bd : Code} {f : FuncId} {fn : Func} {c : Code} {caps : List D} (k idL idK : Nat)
    (hg : SV S g (.fn f caps)) (hc : Callable P f) (hf : P.funcs[f]? = some fn) (hb : fn.body = some c) (hres : fn.results = #[]) {N' : Nat} (hn : fn.ntmps = N') (hN' : caps.length + 1 ≤ N')
    (hfr : freeX k [] S.H = true) (hL : S.ent idL = .fresh) (hO : O.Plain)
    (h : ∀ O', O'.round = none → O'.lc k = (ps, as, bd) → IWP P O' N' c ⟨(List.range (.yld idL :: caps).length).zip (.yld idL :: caps), (idK, .kept k (allD N S)) :: (idL, .loop k (allD N S) .ready none) :: S.H⟩ (rangeQ P O N k Q)) : IWP P O N (.rangeFunc g ps as bd) S Q := by
  subst hn
  obtain ⟨Ow, OX, Of, Og, Or, Okv, Olv, Odv, Olc⟩ := O
  obtain ⟨hro, hfoot, hdv⟩ := hO
  simp only at hro hfoot hdv
  subst hro
  intro E β a hr
  obtain ⟨bs, hbs, hnd, hall⟩ := hr.nd
  obtain ⟨vs, hev, hcaps⟩ := rd_fn (hg.rd hr)
  refine wpIn_rangeFunc ?_
  intro fn0 _
  let r0 : Loop := { state := .ready, pending := none, fn := fn0, tmps := a.tmps, params := ps, assign := as, body := bd, defers := E.w.heap.size }
  let W0 := E.w.alloc (.deferred (some []))
  have hsz0 : W0.heap.size = E.w.heap.size + 1 := by simp [W0]
  let W1 := W0.alloc (.loop r0)
  have hb0 : Below E.w.heap.size E.w W0 := (Below.refl _ _).alloc (Nat.le_refl _) _
  refine ⟨E.w.heap.size + 1, [{ target := .collected E.w.heap.size, args := #[] }], W1, { target := .fn (.func f) vs.toArray, args := #[.func (.yield (E.w.heap.size + 1)) #[] #[]] }, W1, f,
    #[.func (.yield (E.w.heap.size + 1)) #[] #[]] ++ vs.toArray, W1, run_enterLoop_outer _ _ _ _ _, ?_, fun _ _ => trivial, ?_, fun h => by simp [fen, Fence.wide] at h, ?_⟩
  · simp only [resolve, hev]
    simp [go_sem]
  · simp [invoke, run_callFunc hc]
  let O' : Origin := ⟨Ow, OX, Of, Og, none, fun j => if j = k then a.tmps.toList else Okv j, fun j => if j = k then E.w.heap.size + 1 else Olv j, fun j => if j = k then E.w.heap.size :: bs else Odv j, fun j => if j = k then (ps, as, bd) else Olc j⟩
  have hsame : (⟨Ow, OX, Of, Og, none, Okv, Olv, Odv, Olc⟩ : Origin).same O' := ⟨rfl, rfl, rfl, rfl⟩
  have hcomp : ∀ e, noK k e = true → compat ⟨Ow, OX, Of, Og, none, Okv, Olv, Odv, Olc⟩ O' e ∧ compat O' ⟨Ow, OX, Of, Og, none, Okv, Olv, Odv, Olc⟩ e := fun e he => by
    cases e with
    | kept j ds => have : j ≠ k := by simpa [noK] using he
                   simp [compat, O', this]
    | loop j => have : j ≠ k := by simpa [noK] using he
                simp [compat, O', this]
    | _ => exact ⟨trivial, trivial⟩
  have h0 : HOk O' ⟨W0, E.X⟩ β (entL S.H) := (hr.h.below hb0).swap hsame fun id => .inl ⟨rfl, (hcomp _ (freeX_ent hfr (by simp))).1⟩
  let E1 : Env := ⟨W1, fun b o => b = E.w.heap.size + 1 ∨ E.X b o⟩
  let β1 : Names := fun j => if j = idL then some (E.w.heap.size + 1) else β j
  have hfrL : β idL = none := by have := hr.h.ent idL; rw [hL] at this; exact this
  have hβ : β.le β1 := fun j b hj => by
    by_cases hji : j = idL
    · subst hji; rw [hfrL] at hj; cases hj
    · simp [β1, hji, hj]
  have hs : Step O' ⟨W0, E.X⟩ E1 (E.w.heap.size + 1) :=
    ⟨rfl, rfl, rfl, by simp [E1, W1], by simp [E1, W1, hsz0], .inl (by have := h0.size; simp only [hsz0] at this; exact this), fun j hj _ => heap_alloc_old _ _ hj, fun j o hj => by simp [E1, hj], fun _ hx => by have h9 : E.w.heap.size + 1 < W0.heap.size := heap_lt hx; omega⟩
  have hle : (⟨W0, E.X⟩ : Env).le E1 := hs.le (fun o v hx _ => by have := World.block_lt_of_cell? _ _ hx; simp [hsz0] at this) (fun c e f hx => by have := heap_lt hx; simp [hsz0] at this)
  have hle0 : E.le E1 := (below_le hb0).trans hle
  have hnew : W1.heap[E.w.heap.size + 1]? = some (.loop r0) := by have := World.alloc_heap_new W0 (.loop r0); rwa [hsz0] at this
  have hdef : W1.heap[E.w.heap.size]? = some (.deferred (some [])) := (heap_alloc_old _ _ (by omega)).trans (World.alloc_heap_new E.w _)
  have hrd : RdL E1 β1 a.tmps.toList (allD N S) := RdL.mono hle0 hβ (rel_allD hr)
  have h1 : HOk O' E1 β1 (entL ((idL, .loop k (allD N S) .ready none) :: S.H)) := by
    refine HOk.put h0 hs hle hβ (id := idL) (fun j hj => ?_) (fun j hj hh hb => ?_) (by simp [β1]) ?_ (fun _ _ => trivial)
    · left; exact ⟨by show look _ _ _ = _; rw [look_cons, if_neg (Ne.symm hj)]; rfl, by simp [β1, hj]⟩
    · have hh' : (look (defE j) j ((idL, .loop k (allD N S) .ready none) :: S.H)).held = true := hh
      rw [look_cons, if_neg (Ne.symm hj)] at hh'
      have := h0.lt (j := j) hh' hb
      simp [hsz0] at this
    · show EntOk O' E1 β1 _ (look _ _ _)
      rw [look_cons, if_pos rfl]
      exact ⟨r0, hnew, fun o => .inl rfl, by simp [O', r0], by simp [O', r0], by simp [O', r0], rfl, rfl, by simp [O'], hrd⟩
  have h2 : HOk O' E1 β1 (entL ((idK, .kept k (allD N S)) :: (idL, .loop k (allD N S) .ready none) :: S.H)) := by
    refine h1.addK (by simpa [O'] using hrd) fun b hb => ?_
    have hb' : b ∈ E.w.heap.size :: bs := by simpa [O'] using hb
    rcases List.mem_cons.1 hb' with rfl | hb'
    · exact hdef
    · have hx := (hall b hb').2
      have hlt := heap_lt hx
      exact ((heap_alloc_old W0 _ (by omega)).trans (heap_alloc_old E.w _ hlt)).trans hx
  have hargs : RdL E1 β1 (Value.func (.yield (E.w.heap.size + 1)) #[] #[] :: vs) (.yld idL :: caps) := .cons (.yld _ _ _ (by simp [β1])) (RdL.mono hle0 hβ hcaps)
  have hlen := hargs.length
  have hrel : Rel O' fn.ntmps ⟨(List.range (D.yld idL :: caps).length).zip (.yld idL :: caps), (idK, .kept k (allD N S)) :: (idL, .loop k (allD N S) .ready none) :: S.H⟩ E1 β1
      { tmps := (#[Value.func (.yield (E.w.heap.size + 1)) #[] #[]] ++ vs.toArray) ++ Array.replicate (fn.ntmps - (#[Value.func (.yield (E.w.heap.size + 1)) #[] #[]] ++ vs.toArray).size) undef, defers := [] } := by
    refine ⟨by simp at hlen ⊢; omega, Marks.nil, h2, fun s => ?_⟩
    have := rdl_slots hargs (fn.ntmps - (#[Value.func (.yield (E.w.heap.size + 1)) #[] #[]] ++ vs.toArray).size) s
    show Rd E1 β1 _ (look _ _ _)
    simpa using this
  refine callsIn_wide (n := 0) |>.2 (calls_of_iwp (E := E1) (O := O') hf hb rfl hfoot hrel (h O' rfl (by simp [O'])) ?_)
  rintro e S2 E2 β2 a2 hr2 ⟨he, iL, iK, dl, ds', st, pend, hentL, hst, hentK, hfree, S3, ρ3, hw3, hQ⟩
  refine ⟨he, .tuple #[], by simp [results, hres], ?_⟩
  obtain ⟨r, g1, g2, g3, g4, g5, g6, g7, g8⟩ := hr2.h.turn (H := S2.H) hentL
  obtain ⟨g9, g10⟩ := g8 .exhausted pend
  have hlk : O'.lv k = E.w.heap.size + 1 := by simp [O']
  rw [hlk] at g1 g9 g10
  have hkept := hr2.h.ent iK
  rw [hentK] at hkept
  obtain ⟨k1, k2⟩ := hkept
  have hkv : O'.kv k = a.tmps.toList := by simp [O']
  have hdk : O'.dv k = E.w.heap.size :: bs := by simp [O']
  rw [hkv] at k1; rw [hdk] at k2
  have hds' : ds'.length = N := by rw [← k1.length]; simpa using hr.n
  let E3 : Env := ⟨E2.w.putObj (E.w.heap.size + 1) (.loop { r with state := .exhausted, pending := pend }), E2.X⟩
  have hrel3 : Rel ⟨Ow, OX, Of, Og, none, Okv, Olv, Odv, Olc⟩ N ⟨(List.range N).zip ds', (iK, .none) :: (iL, .none) :: S2.H⟩ E3 β2 { a with defers := { target := .collected E.w.heap.size, args := #[] } :: a.defers } := by
    refine ⟨hr.n, ⟨E.w.heap.size :: bs, by rw [List.map_cons, ← hbs], ?_, ?_⟩, ?_, fun s => ?_⟩
    · rw [List.nodup_cons]
      exact ⟨fun hm => Nat.lt_irrefl _ (heap_lt (hall _ hm).2), hnd⟩
    · intro b hb
      refine ⟨⟨?_, fun j => by simp [hdv]⟩, (World.putObj_heap_other ?_).trans (k2 b hb)⟩
      · rcases List.mem_cons.1 hb with rfl | hb
        · exact hr.h.size
        · exact (hall b hb).1.1
      · rintro rfl; have := k2 _ hb; rw [g1] at this; cases this
    · refine HOk.swap (O := O') (H := entL ((iL, .loop k dl .exhausted pend) :: S2.H)) g10 ⟨rfl, rfl, rfl, rfl⟩ fun id => ?_
      show (look _ _ _ = look _ _ _ ∧ _) ∨ _
      simp only [look_cons]
      by_cases h5 : iK = id
      · right; show look _ _ _ = _; rw [look_cons, if_pos h5]
      · by_cases h6 : iL = id
        · right; show look _ _ _ = _; rw [look_cons, if_neg h5, look_cons, if_pos h6]
        · left
          rw [if_neg h5, if_neg h6]
          refine ⟨by first | rfl | rw [if_neg h6], (hcomp _ ?_).2⟩
          show noK k (look _ _ _) = true
          rw [look_cons, if_neg h6]
          exact freeX_ent hfree (by simp; exact ⟨Ne.symm h6, Ne.symm h5⟩)
    · have := rdl_slots0 (RdL.mono g9 (Names.le.refl _) k1) s
      rw [hds'] at this
      exact this
  refine ⟨pend, E3.w, ?_, ?_⟩
  · have := run_endLoop (P := P) (l := E.w.heap.size + 1) g1 (by rw [g6]; exact hst)
    rw [g7] at this
    exact this
  · cases pend with
    | none => obtain ⟨β4, hr4⟩ := hrel3.weak hw3; exact ⟨_, E3, β4, rfl, hr4, hQ⟩
    | some c => obtain ⟨β4, hr4⟩ := hrel3.weak hw3; exact hQ E3 β4 _ hr4

def jumpOf : Exit → Option (Option Code)
  | .normal => some none
  | .ret => some (some .ret)
  | .exit i => some (some (.exit i))
  | _ => none
/-- What the walk of a round must come to: the walk of the function that is ranged over goes on. -/
@[reducible] def yieldQ (P : Program) (O : Origin) (N t k k2 : Nat) (ops : Array Oper) (l : List Oper) (Q : Exit → St → Prop) (e : Exit) (S' : St) : Prop :=
  ∃ iL iK dl dk j, jumpOf e = some j ∧ S'.ent iL = .loop k dl .busy none ∧ S'.ent iK = .kept k2 dk ∧ freeX k2 [iK] S'.H = true ∧ iL ≠ iK ∧
    ∃ S2 ρ, Weak ⟨(t, .bool j.isNone) :: (List.range N).zip dk, (iL, .loop k dl (if j.isNone then .ready else .done) j) :: (iK, .none) :: S'.H⟩ S2 ρ ∧ ILS P O N ops l S2 Q
def setsS (S : St) (l : List (Nat × D)) : St := l.foldl (fun S x => S.set x.1 x.2) S
theorem run_retD {E : Env} {β : Names} {S : St} {a : Act} {rs : List D} {fn : Func} (hr : Rel O N S E β a) (hres : ResVs P S fn.results.toList rs) : ∃ v, (results fn a.tmps).run P E.w = .ok v E.w ∧ Rd E β v (retD rs) := by
  obtain ⟨vs', h1, h2⟩ := run_results (P := P) hr hres
  have hrun : (results fn a.tmps).run P E.w = .ok (if h : vs'.toArray.size = 1 then vs'.toArray[0] else .tuple vs'.toArray) E.w := by
    have hF : results fn a.tmps = (fn.results.mapM (resF a.tmps)) >>= fun vs => pure (if h : vs.size = 1 then vs[0] else .tuple vs) := by
      unfold results
      congr 2
    rw [hF, ← Array.toArray_toList (xs := fn.results), List.mapM_toArray]
    simp only [Sem.run_bind, Sem.run_map, h1, Result.andThen_ok, Sem.run_pure]
  refine ⟨_, hrun, ?_⟩
  cases h2 with
  | nil => simpa [retD] using Rd.tuple (E := E) β [] [] (.nil _)
  | cons h5 h6 =>
    cases h6 with
    | nil => simpa [retD] using h5
    | cons h7 h8 =>
      simp only [retD, List.size_toArray, List.length_cons]
      rw [dif_neg (by omega)]
      exact .tuple _ _ _ (.cons h5 (.cons h7 h8))
@[reducible] def inlQ (P : Program) (O : Origin) (N t k2 : Nat) (fn : Func) (ops : Array Oper) (l : List Oper) (Q : Exit → St → Prop) (e : Exit) (S' : St) : Prop :=
  (e = .normal ∨ e = .ret) ∧ ∃ iK dk rs, ResVs P S' fn.results.toList rs ∧ S'.ent iK = .kept k2 dk ∧ freeX k2 [iK] S'.H = true ∧
    ∃ S2 ρ, Weak ⟨(t, retD rs) :: (List.range N).zip dk, (iK, .none) :: S'.H⟩ S2 ρ ∧ ILS P O N ops l S2 Q
theorem SV.gsls {x : Operand} {id sz : Nat} {l : List D} (h : SV S x (.gsl id sz l)) : SV S x (.slice false l) := fun E β v hv => by
  have := h E β v hv
  cases this with
  | gsl _ _ b len cap _ vs _ hβ hl hc hz hsz hr hv c e f h1 h2 h3 => exact .slice _ _ _ _ _ _ _ _ _ hl hc (by simp) hz hsz hr hv
  | ngsl => exact .nslice _ _
end
end Go.IL
namespace Go.IL

/-! Floats of 64 bits: all that are no numbers are one. -/
section
variable {P : Program} {O : Origin} {N : Nat} {S S' : St} {o : Oper} {t : Nat}
end
/-! Functions without a body: their bits. -/
def ExternAt (P : Program) (f : FuncId) (g : Array Value → Sem Value) : Prop := ∃ fn, P.funcs[f]? = some fn ∧ (fn.name == "runtime.NumGoroutine") = false ∧ fn.body.isNone = true ∧ Extern.findNext fn = none ∧ Extern.find fn = some g
section
variable {P : Program} {O : Origin} {N : Nat} {S S' : St} {o : Oper} {t : Nat}
theorem iop_extern {f : FuncId} {g : Array Value → Sem Value} {xs : List Operand} {ts : Array TypeId} {ds : List D} {d : D} (ho : o.op = .call { callee := .value (.func f), args := xs.toArray, argTypes := ts }) (hd : o.dst = some t) (ht : t < N)
    (hc : ExternAt P f g) (hx : SVs S xs ds) (hg : ∀ (E : Env) β vs, RdL E β vs ds → ∃ v, (g vs.toArray).run P E.w = .ok v E.w ∧ Rd E β v d) : IOp P O N o S (S.set t d) :=
  iop_of hd ht fun E β a hr => by
    obtain ⟨fn, h1, h2, h3, h4, h5⟩ := hc
    obtain ⟨v, hv, hrd⟩ := hg E β _ (hx.rd hr)
    exact ⟨v, by simp [execOp, ho, resolve, Deferred.ofValue, Act.eval, invoke, run_callFunc_extern h1 h2 h3 h4 h5, hv, Result.andThen], hrd⟩
end
section
variable {P : Program} {O : Origin} {N : Nat} {S S' : St} {o : Oper} {t : Nat}
end
/-! Lists that are made, and never written: no name is needed, so they may be made under a guard. -/
section
variable {P : Program} {O : Origin} {N : Nat} {S S' : St} {o : Oper} {t : Nat}
end
end Go.IL
open Go.RowKit
namespace Go.IL
/-! Arrays at a place that is known only by its number. -/
def At (cs : List D) (size sz : Nat) : Nat → List (List D) → Prop
  | _, [] => True
  | off, c :: L => (cs.drop off).take size = c ∧ At cs size sz (off + sz) L
theorem At.get {cs : List D} {size sz : Nat} : ∀ {L : List (List D)} {off i : Nat} {c : List D}, At cs size sz off L → L[i]? = some c → (cs.drop (off + i * sz)).take size = c
  | [], _, _, _, _, h => by simp at h
  | x :: L, off, 0, c, h, hi => by
    simp only [List.getElem?_cons_zero, Option.some.injEq] at hi
    subst hi; rw [Nat.zero_mul, Nat.add_zero]; exact h.1
  | x :: L, off, i + 1, c, h, hi => by
    simp only [List.getElem?_cons_succ] at hi
    have := At.get h.2 hi
    rw [← this]; congr 2; rw [Nat.add_mul, Nat.one_mul]; omega
def AllTo : Nat → (Nat → Prop) → Prop
  | 0, _ => True
  | n + 1, p => AllTo n p ∧ p n
theorem AllTo.get : ∀ {n : Nat} {p : Nat → Prop}, AllTo n p → ∀ j, j < n → p j
  | 0, _, _, _, h => by omega
  | n + 1, p, h, j, hj => by
    by_cases e : j = n
    · subst e; exact h.2
    · exact AllTo.get h.1 j (by omega)
section
variable {P : Program} {O : Origin} {N : Nat} {S S' : St} {o : Oper} {t : Nat}
end
end Go.IL
open Go.RowKit (Below)
namespace Go.IL
/-! Views of lists that are owned: their room is known, too. -/
section
variable {P : Program} {O : Origin} {N : Nat} {S S' : St} {o : Oper} {t : Nat} {Q : Exit → St → Prop}
theorem ent_setE_self {S : St} {id t : Nat} {e : Ent} {d : D} : ((S.setE id e).set t d).ent id = e := by simp [St.ent, entL, St.setE, St.set, look_cons]
theorem ent_setE_other {S : St} {id t j : Nat} {e : Ent} {d : D} (h : j ≠ id) : ((S.setE id e).set t d).ent j = S.ent j := by simp [St.ent, entL, St.setE, St.set, look_cons, Ne.symm h]
/-- A block's reading turns, and a slot's; the world does not. -/
theorem Rel.turn {E : Env} {β : Names} {a : Act} (h : Rel O N S E β a) {id b : Nat} {e : TypeId} {ds ds' : List D} {d : D} (he : S.ent id = .blk e ds) (hb : β id = some b)
    (hk : ∀ vs sp, E.w.heap[b]? = some (.cells (List.toArray (vs ++ sp)) e (0, 0)) → RdL E β vs ds → ∃ vs' sp', vs' ++ sp' = vs ++ sp ∧ RdL E β vs' ds') (hd : Rd E β (a.tmps.getD t undef) d) :
    Rel O N ((S.setE id (.blk e ds')).set t d) E β a := by
  have hent := h.h.ent id
  rw [he] at hent
  obtain ⟨vs, sp, h1, h2, h3, h4⟩ := blk_at hent hb
  obtain ⟨vs', sp', h5, h6⟩ := hk vs sp h2 h4
  have held : ∀ j, (((S.setE id (.blk e ds')).set t d).ent j).held = (S.ent j).held := fun j => by
    by_cases hj : j = id
    · subst hj; rw [ent_setE_self, he]; rfl
    · rw [ent_setE_other hj]
  refine ⟨h.n, h.nd, ?_, fun s => ?_⟩
  · refine { h.h with ent := fun j => ?_, inj := fun i j k hi hj => h.h.inj i j k (held i ▸ hi) (held j ▸ hj) }
    by_cases hj : j = id
    · subst hj; rw [ent_setE_self]; exact .inr ⟨b, vs', sp', hb, h1, by rw [h5]; exact h2, h3, h6⟩
    · rw [ent_setE_other hj]; exact h.h.ent j
  · by_cases hst : t = s
    · subst hst; simpa [St.get, St.set, look_cons] using hd
    · have := h.sl s
      simpa [St.get, St.set, St.setE, look_cons, hst] using this
end
end Go.IL
open Go.RowKit (Below)
namespace Go.IL
section
variable {P : Program} {O : Origin} {N : Nat} {S S' : St} {o : Oper} {t : Nat} {Q : Exit → St → Prop}
/-- A list that may be looked at, and one that is owned, lie apart. -/
theorem iop_externR {f : FuncId} {g : Array Value → Sem Value} {xs : List Operand} {ts : Array TypeId} {d : D} (ho : o.op = .call { callee := .value (.func f), args := xs.toArray, argTypes := ts }) (hd : o.dst = some t) (ht : t < N)
    (hc : ExternAt P f g) (hg : ∀ (E : Env) β a, Rel O N S E β a → ∃ v, (g (xs.map a.eval).toArray).run P E.w = .ok v E.w ∧ Rd E β v d) : IOp P O N o S (S.set t d) :=
  iop_of hd ht fun E β a hr => by
    obtain ⟨fn, h1, h2, h3, h4, h5⟩ := hc
    obtain ⟨v, hv, hrd⟩ := hg E β a hr
    exact ⟨v, by simp [execOp, ho, resolve, Deferred.ofValue, Act.eval, invoke, run_callFunc_extern h1 h2 h3 h4 h5, hv, Result.andThen], hrd⟩
end
end Go.IL
open Go.RowKit (Below)
namespace Go.IL
/-! What the library makes of lists that are owned. -/
section
variable {α : Type} (f : Enc0 α)
end
end Go.IL
set_option linter.unusedSimpArgs false
set_option linter.unusedVariables false
open Go Go.IL
namespace Go.Fn
/-! Loops over lists, at any functions that are as the library's. -/
theorem gix_at {α : Type} {l p r : List α} {x : α} (h : l = p ++ x :: r) : gix l (p.length : Int) = some x := by
  subst h; rw [gix_nat, List.getElem?_append_right (Nat.le_refl _)]; simp
theorem lt_at {α : Type} {l p r : List α} {x : α} (h : l = p ++ x :: r) : decide ((p.length : Int) < (l.length : Int)) = true := by
  subst h; simp; omega
theorem lt_len {α : Type} {l : List α} : decide ((l.length : Int) < (l.length : Int)) = false := by simp
theorem w_at {α : Type} {l p r : List α} {x : α} (h : l = p ++ x :: r) (hl : l.length ≤ 1000000) : IntKind.wrap .i64 ((p.length : Int) + 1) = ((p ++ [x]).length : Int) := by
  subst h; simp only [List.length_append, List.length_cons, List.length_nil] at hl ⊢; rw [w64 (by omega) (by omega)]; omega
theorem next_at {α : Type} {l p r : List α} {x : α} (h : l = p ++ x :: r) : l = (p ++ [x]) ++ r := by rw [h]; simp
theorem tf : (true == false) = false := rfl
theorem ft : (false == true) = false := rfl
theorem cut_at {α : Type} {l p r : List α} (h : l = p ++ r) : cut l 0 (p.length : Int) = some p := by
  subst h; unfold cut; rw [if_pos (by simp; omega)]; simp
theorem cut_from {α : Type} {l p r : List α} (h : l = p ++ r) : cut l (p.length : Int) (l.length : Int) = some r := by
  subst h; unfold cut; rw [if_pos (by simp; omega), Int.toNat_natCast, Int.toNat_natCast, List.take_length, List.drop_left]
end Go.Fn
open Go.RowKit (Below)
namespace Go.IL
/-! Lists that are owned and cut off. -/
section
variable {P : Program} {O : Origin} {N : Nat} {S S' : St} {o : Oper} {t : Nat} {Q : Exit → St → Prop}
theorem Rel.same {E : Env} {β : Names} {a : Act} (h : Rel O N S E β a) (h1 : ∀ s, S'.get s = S.get s) (h2 : ∀ j, S'.ent j = S.ent j) : Rel O N S' E β a := by
  have h3 : S'.ent = S.ent := funext h2
  exact ⟨h.n, h.nd, h3 ▸ h.h, fun s => (h1 s).symm ▸ h.sl s⟩
theorem ent_setE {S : St} {id : Nat} {e : Ent} : (S.setE id e).ent id = e := by simp [St.ent, entL, St.setE, look_cons]
theorem ent_setE_ne {S : St} {id j : Nat} {e : Ent} (h : j ≠ id) : (S.setE id e).ent j = S.ent j := by simp [St.ent, entL, St.setE, look_cons, Ne.symm h]
/-- A block is told by less than it has. -/
theorem Rel.shrunk {E : Env} {β : Names} {a : Act} (h : Rel O N S E β a) {id : Nat} {e : TypeId} {ds ds' j : List D} (he : S.ent id = .blk e ds) (hd : ds = ds' ++ j) : Rel O N (S.setE id (.blk e ds')) E β a := by
  subst hd
  have hent := h.h.ent id
  rw [he] at hent
  have held : ∀ j, ((S.setE id (.blk e ds')).ent j).held = (S.ent j).held := fun j => by
    by_cases hj : j = id
    · subst hj; rw [ent_setE, he]; rfl
    · rw [ent_setE_ne hj]
  refine ⟨h.n, h.nd, { h.h with ent := fun k => ?_, inj := fun i j k hi hj => h.h.inj i j k (held i ▸ hi) (held j ▸ hj) }, h.sl⟩
  by_cases hk : k = id
  · subst hk
    rw [ent_setE]
    rcases hent with ⟨h1, h2⟩ | ⟨b, vs, sp, h1, h2, h3, h4, h5⟩
    · exact .inl ⟨h1, (List.append_eq_nil_iff.1 h2).1⟩
    · refine .inr ⟨b, vs.take ds'.length, vs.drop ds'.length ++ sp, h1, h2, by rw [← List.append_assoc, List.take_append_drop]; exact h3, h4, ?_⟩
      have := h5.take ds'.length
      rwa [List.take_append_of_le_length (Nat.le_refl _), List.take_length] at this
  · rw [ent_setE_ne hk]; exact h.h.ent k
theorem flat_split {α : Type} (f : Enc0 α) (l : List α) (k : Nat) : D.flat (l.map f.d) = D.flat ((l.take k).map f.d) ++ D.flat ((l.drop k).map f.d) := by
  rw [f.flat_append, List.take_append_drop]
/-- 's[:i]' of a list that is owned. -/
theorem iop_truncO {α : Type} (f : Enc0 α) {T e e' : TypeId} {x y : Operand} {z : Option Value} {bytes id n : Nat} {l r : List α} {k : IntKind} {h : Int} (ho : o.op = .slice T x none (some y) none) (hd : o.dst = some t) (ht : t < N)
    (hu : P.underlying T = some (.slice e)) (hi : TI P e z f.sz bytes) (hx : SV S x (.osl id f.sz n)) (he : S.ent id = .blk e' (D.flat (l.map f.d))) (hn : l.length ≤ n) (hy : SV S y (.int k h)) (hc : cut l 0 h = some r) :
    IOp P O N o S ((S.setE id (.blk e' (D.flat (r.map f.d)))).set t (.osl id f.sz r.length)) := by
  obtain ⟨⟨_, h0, h1⟩, hr'⟩ := cut_e hc
  have hr2 : l.take h.toNat = r := by simpa using hr'
  have hrl : r.length = h.toNat := by rw [← hr2, List.length_take]; omega
  have key : IOp P O N o S (S.set t (.osl id f.sz r.length)) := iop_of hd ht fun E β a hr => by
    have hhi : Bound S (n : Int) (some y) h := ⟨_, hy⟩
    have hlo : Bound S 0 none 0 := rfl
    have h1 := hx.rd hr
    generalize hv : a.eval x = v at h1
    cases h1 with
    | nosl =>
      have hb := run_bounds (P := P) hr (isS := true) hlo hhi (Int.le_refl 0) h0 (by omega) (Nat.le_refl _)
      have e1 : h.toNat = 0 := by omega
      refine ⟨.slice none 0 0, ?_, by rw [hrl, e1]; exact .nosl _ _ _⟩
      simp only [Option.map_none, Option.map_some] at hb
      simp [execOp, ho, hv, Instr.sliceAt, Instr.slice, run_underlying hu, hb, hi.run_size, e1]
    | osl _ _ b _ cap _ hb' hc' hsz c e2 f2 hcap hcs hcm =>
      have hb := run_bounds (P := P) hr (isS := true) hlo hhi (Int.le_refl 0) h0 (by omega) hc'
      simp only [Option.map_none, Option.map_some] at hb
      refine ⟨.slice (some ⟨b, 0, none⟩) h.toNat cap, ?_, by rw [hrl]; exact .osl _ _ b _ cap _ hb' (by omega) hsz c e2 f2 hcap hcs hcm⟩
      simp [execOp, ho, hv, Instr.sliceAt, Instr.slice, run_underlying hu, hb, hi.run_size, Addr.add]
  intro E β a hr next Q hn'
  refine key E β a hr next Q fun E' β' a' hr' => hn' E' β' a' ?_
  exact hr'.shrunk (ds' := D.flat (r.map f.d)) (j := D.flat ((l.drop h.toNat).map f.d)) he (by rw [← hr2]; exact flat_split f l _)
end
end Go.IL
open Go.RowKit (Below)
namespace Go.IL
/-! Calls that are handed memory, in any order with others. -/
section
variable {P : Program} {O : Origin} {N : Nat} {S S' : St} {o : Oper} {t : Nat} {Q : Exit → St → Prop}
structure HandM (S : St) (k : Nat) (A : List Nat) (H0 : List (Nat × Ent)) : Prop where
  nd : A.Nodup
  cov : A.all (fun i => (H0.map fun x => sig k A x.1).contains i) = true
  ents : ∀ x ∈ H0, givenB A x.1 = true ∧ x.2.held = true ∧ S.ent (sig k A x.1) = x.2.ren (sig k A) ∧ x.2.refsIn (givenB A) = true
def backM (m : Nat) (A : List Nat) (i : Nat) : Bool := Nat.blt i m || givenB A i
theorem iop_enterM {f : FuncId} {ds ds' : List D} {r r' : D} {H0 H1 H2 : List (Nat × Ent)} (k m : Nat) (A : List Nat) (hd : o.dst = some t) (ht : t < N)
    (h : ∀ E β a, Rel O N S E β a → ∃ vs : List Value, (execOp a.eval o).run P E.w = .ok (.enter f vs.toArray) E.w ∧ RdL E β vs ds') (hds : D.renL (sig k A) ds = ds') (hp : D.refsInL (givenB A) ds = true)
    (hkm : k + m ≤ 1000) (hfr : ∀ j, j < m → S.ent (k + j) = .fresh) (hh : HandM S k A H0) (hf : FnH P f ds H0 r H1) (hrr : r.ren (sig k A) = r') (hrp : r.refsIn (backM m A) = true) (hH1 : ∀ x ∈ H1, backM m A x.1 = true ∧ x.2.refsIn (backM m A) = true)
    (hH2 : afterH k A H0 H1 S.H = H2) : IOp P O N o S (St.set ⟨S.sl, H2⟩ t r') := by
  intro E β a hr next Q hn
  obtain ⟨vs, hrun, hv⟩ := h E β a hr
  unfold Oper.wp
  rw [hrun]
  simp only [Oper.upon, hd]
  subst hds hrr hH2
  let βc : Names := fun i => if givenB A i = true then β (sig k A i) else none
  have hβc : ∀ id, givenB A id = true → βc id = β (sig k A id) := fun id hid => by simp [βc, hid]
  have hvc : RdL E βc vs ds := RdL.ren hβc ds hv hp
  have h0 : ∀ i, (entL H0 i).held = true → givenB A i = true ∧ S.ent (sig k A i) = (entL H0 i).ren (sig k A) ∧ (entL H0 i).refsIn (givenB A) = true := fun i hi => by
    have h1 := hh.ents _ (entL_held hi)
    exact ⟨h1.1, h1.2.2.1, h1.2.2.2⟩
  have hcall : HOk ⟨E.w, E.X, footB βc H0, βc, none, fun _ => [], fun _ => 0, fun _ => [], fun _ => (#[], .skip, .skip)⟩ E βc (entL H0) := {
    tab := hr.h.good.tab, os := rfl, tape := rfl, output := rfl, size := Nat.le_refl _, block := fun _ _ _ => rfl, xlt := hr.h.xlt, xold := fun _ _ _ _ => Iff.rfl, le := Env.le.refl _
    gid := fun i b hi => by
      by_cases hg : givenB A i = true
      · simp only [givenB, Bool.and_eq_true, Nat.ble_eq] at hg; exact hg.1
      · simp [βc, hg] at hi
    given := fun _ _ hi => hi
    ent := fun i => by
      cases hhe : (entL H0 i).held with
      | true =>
        obtain ⟨h1, h2, h3⟩ := h0 i hhe
        have he := hr.h.ent (sig k A i)
        rw [h2] at he
        have hown : ∀ b, βc i = some b → (⟨E.w, E.X, footB βc H0, βc, none, fun _ => [], fun _ => 0, fun _ => [], fun _ => (#[], .skip, .skip)⟩ : Origin).own b := fun b hb => .inr ⟨i, hhe, hb⟩
        cases hE : entL H0 i with
        | none => trivial
        | fresh => rw [hE] at hhe; cases hhe
        | blk e es =>
          rw [hE] at he h3
          rcases he with ⟨g1, g2⟩ | ⟨b, ws, sp, g1, g2, g3, g4, g5⟩
          · exact .inl ⟨(hβc i h1).trans g1, renL_nil g2⟩
          · exact .inr ⟨b, ws, sp, (hβc i h1).trans g1, hown b ((hβc i h1).trans g1), g3, g4, RdL.ren hβc es g5 h3⟩
        | tail e sz n =>
          rw [hE] at he
          rcases he with ⟨g1, g2⟩ | ⟨b, c, g1, g2, g3, g4⟩
          · exact .inl ⟨(hβc i h1).trans g1, g2⟩
          · exact .inr ⟨b, c, (hβc i h1).trans g1, hown b ((hβc i h1).trans g1), g3, g4⟩
        | loop lk es st pe =>
          rw [hE] at h3; cases h3
        | kept n es => rw [hE] at hhe; cases hhe
      | false =>
        cases hE : entL H0 i with
        | none => trivial
        | fresh =>
          show βc i = none
          by_cases hm : i ∈ H0.map (·.1)
          · obtain ⟨e, h1, h2⟩ := look_of_mem (z := defE i) hm
            have h3 := hh.ents _ h1
            have : entL H0 i = e := h2
            rw [hE] at this; rw [← this] at h3; exact absurd h3.2.1 (by simp [Ent.held])
          · have : entL H0 i = defE i := look_not_mem hm
            rw [hE] at this
            unfold defE at this
            split at this
            · cases this
            · rename_i hlt
              have : ¬ givenB A i = true := by simp only [givenB, Bool.and_eq_true, Nat.ble_eq]; omega
              simp [βc, this]
        | blk => rw [hE] at hhe; cases hhe
        | tail => rw [hE] at hhe; cases hhe
        | loop => rw [hE] at hhe; cases hhe
        | kept n es =>
          exfalso
          by_cases hm : i ∈ H0.map (·.1)
          · obtain ⟨e, h1, h2⟩ := look_of_mem (z := defE i) hm
            have h3 := hh.ents _ h1
            have : entL H0 i = e := h2
            rw [hE] at this; rw [← this] at h3; exact absurd h3.2.1 (by simp [Ent.held])
          · have : entL H0 i = defE i := look_not_mem hm
            rw [hE] at this
            unfold defE at this
            split at this <;> cases this
    inj := fun i j b hi hj h1 h2 => by
      obtain ⟨a1, a2, _⟩ := h0 i hi
      obtain ⟨b1, b2, _⟩ := h0 j hj
      have h1 : β (sig k A i) = some b := (hβc i a1).symm.trans h1
      have h2 : β (sig k A j) = some b := (hβc j b1).symm.trans h2
      exact sig_inj hh.nd a1 b1 (hr.h.inj _ _ b (by rw [a2, Ent.held_ren]; exact hi) (by rw [b2, Ent.held_ren]; exact hj) h1 h2) }
  refine (hf E βc vs hr.h.good hcall.gid hcall hvc).mono ?_
  rintro e w' ⟨v, rfl, E', β', rfl, hok, hrd⟩
  -- old blocks that were not handed over
  have hfoot : ∀ b, footB βc H0 b → ∃ i, givenB A i = true ∧ (S.ent (sig k A i)).held = true ∧ β (sig k A i) = some b := fun b ⟨i, hi, hb⟩ => by
    obtain ⟨h1, h2, _⟩ := h0 i hi
    exact ⟨i, h1, by rw [h2, Ent.held_ren]; exact hi, by rw [← hβc i h1]; exact hb⟩
  have hfown : ∀ b, footB βc H0 b → O.own b := fun b hb => by
    obtain ⟨i, _, h2, h3⟩ := hfoot b hb
    have he := hr.h.ent (sig k A i)
    exact hr.h.own h2 h3
  have hcown : ∀ b, (⟨E.w, E.X, footB βc H0, βc, none, fun _ => [], fun _ => 0, fun _ => [], fun _ => (#[], .skip, .skip)⟩ : Origin).own b → O.own b := fun b hb => by
    rcases hb with hb | hb
    · exact .inl (Nat.le_trans hr.h.size hb)
    · exact hfown b hb
  have hfrE : ∀ i, k ≤ i ∧ i < k + m → S.ent i = .fresh := fun i h1 => by
    have := hfr (i - k) (by omega)
    rwa [show k + (i - k) = i by omega] at this
  have hfresh : ∀ i, k ≤ i → i < k + m → β i = none := fun i h1 h2 => by
    have he := hr.h.ent i
    rw [hfrE i ⟨h1, h2⟩] at he; exact he
  let βn : Names := fun i => if k ≤ i ∧ i < k + m then β' (i - k) else if i ∈ A then β' (1000 + A.idxOf i) else β i
  have hAk : ∀ i, i ∈ A → ¬ (k ≤ i ∧ i < k + m) := fun i hi hki => by
    have h1 := List.all_eq_true.1 hh.cov i hi
    obtain ⟨x, hx, hxe⟩ := List.mem_map.1 (by simpa using h1 : i ∈ H0.map (fun x => sig k A x.1))
    have h2 := hh.ents x hx
    rw [hxe, hfrE i hki] at h2
    have h3 : (x.2.ren (sig k A)).held = true := by rw [Ent.held_ren]; exact h2.2.1
    rw [← h2.2.2.1] at h3; cases h3
  have hnA : ∀ i, i ∈ A → βn i = β' (1000 + A.idxOf i) := fun i hi => by simp [βn, hAk i hi, hi]
  have hnO : ∀ i, i ∉ A → ¬ (k ≤ i ∧ i < k + m) → βn i = β i := fun i h1 h2 => by simp [βn, h1, h2]
  have hβ1 : β.le βn := fun i b hi => by
    by_cases hki : k ≤ i ∧ i < k + m
    · rw [hfresh i hki.1 hki.2] at hi; cases hi
    · by_cases hA : i ∈ A
      · rw [hnA i hA]
        obtain ⟨h1, h2⟩ := given_of_mem (k := k) hA
        exact hok.given _ _ (((hβc _ h1).trans (by rw [h2])).trans hi)
      · rw [hnO i hA hki]; exact hi
  have hβ2 : ∀ i, backM m A i = true → βn (sig k A i) = β' i := fun i hi => by
    by_cases hg : givenB A i = true
    · rw [hnA _ (sig_given hg), sig_idx hh.nd hg]
    · simp only [backM, hg, Bool.or_false, Nat.blt_eq] at hi
      have h2 : ¬ 1000 ≤ i := by omega
      have h1 : sig k A i = k + i := by simp [sig, h2]
      rw [h1]
      simp [βn, hi]
  have hle : E.le E' := hok.le
  -- the entries behind the call
  have hkey1 : ∀ i, backM m A i = true → ∀ j, backM m A j = true → sig k A i = sig k A j → i = j := fun i hi j hj hij => by
    by_cases hgi : givenB A i = true
    · by_cases hgj : givenB A j = true
      · exact sig_inj hh.nd hgi hgj hij
      · exfalso
        simp only [backM, hgj, Bool.or_false, Nat.blt_eq] at hj
        have h2 : sig k A j = k + j := by simp [sig, show ¬ 1000 ≤ j by omega]
        exact hAk _ (sig_given (k := k) hgi) (by rw [hij, h2]; omega)
    · by_cases hgj : givenB A j = true
      · exfalso
        simp only [backM, hgi, Bool.or_false, Nat.blt_eq] at hi
        have h2 : sig k A i = k + i := by simp [sig, show ¬ 1000 ≤ i by omega]
        exact hAk _ (sig_given (k := k) hgj) (by rw [← hij, h2]; omega)
      · simp only [backM, hgi, hgj, Bool.or_false, Nat.blt_eq] at hi hj
        simp only [sig, show ¬ 1000 ≤ i by omega, show ¬ 1000 ≤ j by omega, if_false] at hij
        omega
  have hent : ∀ i, (St.set ⟨S.sl, afterH k A H0 H1 S.H⟩ t (r.ren (sig k A))).ent i =
      if i ∈ H1.map (fun x => sig k A x.1) then (look (defE i) i (H1.map fun x => (sig k A x.1, x.2.ren (sig k A)))) else if i ∈ H0.map (fun x => sig k A x.1) then .none else S.ent i := fun i => by
    simp only [St.ent, entL, St.set, afterH, look_append, List.map_map]
    have e1 : (Prod.fst ∘ fun x : Nat × Ent => (sig k A x.1, x.2.ren (sig k A))) = fun x => sig k A x.1 := rfl
    have e2 : (Prod.fst ∘ fun x : Nat × Ent => (sig k A x.1, Ent.none)) = fun x => sig k A x.1 := rfl
    rw [e1, e2]
    split
    · rfl
    · split
      · rename_i h1 h2
        obtain ⟨e, h3, h4⟩ := look_of_mem (z := defE i) (l := H0.map fun x => (sig k A x.1, Ent.none)) (by rw [List.map_map, e2]; exact h2)
        rw [h4]
        obtain ⟨x, _, hx⟩ := List.mem_map.1 h3
        cases hx; rfl
      · rfl
  have hlook1 : ∀ j, backM m A j = true → j ∈ H1.map (·.1) → look (defE (sig k A j)) (sig k A j) (H1.map fun x => (sig k A x.1, x.2.ren (sig k A))) = (entL H1 j).ren (sig k A) := by
    intro j hj
    unfold entL
    have aux : ∀ (z z' : Ent) (l : List (Nat × Ent)), (∀ x ∈ l, backM m A x.1 = true) → j ∈ l.map (·.1) → look z (sig k A j) (l.map fun x => (sig k A x.1, x.2.ren (sig k A))) = (look z' j l).ren (sig k A) := by
      intro z z' l
      induction l with
      | nil => intro _ h; simp at h
      | cons x l ih =>
        obtain ⟨i, e⟩ := x
        intro hl hm
        simp only [List.map_cons, look_cons]
        by_cases hij : i = j
        · subst hij; rw [if_pos rfl, if_pos rfl]
        · rw [if_neg (fun h => hij (hkey1 i (hl (i, e) List.mem_cons_self) j hj h)), if_neg hij]
          refine ih (fun x hx => hl x (List.mem_cons_of_mem _ hx)) ?_
          simp only [List.map_cons, List.mem_cons] at hm
          rcases hm with h | h
          · exact absurd h.symm hij
          · exact h
    exact aux _ _ H1 (fun x hx => (hH1 x hx).1)
  have hH1r : ∀ j, j ∈ H1.map (·.1) → backM m A j = true ∧ (entL H1 j).refsIn (backM m A) = true := fun j hj => by
    obtain ⟨e, h1, h2⟩ := look_of_mem (z := defE j) hj
    have h3 := hH1 _ h1
    exact ⟨h3.1, by rw [show entL H1 j = e from h2]; exact h3.2⟩
  have cases1 : ∀ i, i ∈ H1.map (fun x => sig k A x.1) → ∃ j, j ∈ H1.map (·.1) ∧ backM m A j = true ∧ i = sig k A j := fun i hi => by
    obtain ⟨x, hx, rfl⟩ := List.mem_map.1 hi
    exact ⟨x.1, List.mem_map.2 ⟨x, hx, rfl⟩, (hH1 x hx).1, rfl⟩
  -- an entry that was not handed over
  have hold : ∀ i, i ∉ H1.map (fun x => sig k A x.1) → i ∉ H0.map (fun x => sig k A x.1) → (S.ent i).held = true → ∀ b, β i = some b → βn i = some b ∧ b < E.w.heap.size ∧ ¬ footB βc H0 b := fun i h1 h2 h3 b hb => by
    refine ⟨hβ1 i b hb, ?_, ?_⟩
    · exact hr.h.lt h3 hb
    · rintro ⟨j, hj, hbj⟩
      obtain ⟨g1, g2, _⟩ := h0 j hj
      have : i = sig k A j := hr.h.inj i (sig k A j) b h3 (by rw [g2, Ent.held_ren]; exact hj) hb (by rw [← hβc j g1]; exact hbj)
      exact h2 (List.mem_map.2 ⟨_, entL_held hj, this.symm⟩)
  have hcov : ∀ i, i ∈ A → i ∈ H0.map (fun x => sig k A x.1) := fun i hi => by
    have := List.all_eq_true.1 hh.cov i hi
    simpa using this
  have hold' : ∀ i, i ∉ H0.map (fun x => sig k A x.1) → S.ent i ≠ .fresh → βn i = β i := fun i h0 hf => by
    refine hnO i (fun hA => h0 (hcov i hA)) (fun hki => hf ?_)
    exact hfrE i hki
  refine hn E' βn _ ⟨by simp [Act.put, hr.n], hr.nd.mono (fun b hx => (hok.block b (heap_lt hx) (fun hf => by obtain ⟨i, _, h2, h3⟩ := hfoot b hf; exact hr.h.nodef h2 h3 _ hx)).trans hx), ?_, ?_⟩
  · exact {
      tab := hr.h.tab, os := hok.os.trans hr.h.os, tape := hok.tape.trans hr.h.tape, output := hok.output.trans hr.h.output, size := Nat.le_trans hr.h.size hok.size
      block := fun j hj hf => by
        have hnf : ¬ footB βc H0 j := fun h => by
          rcases hfown j h with h1 | h1
          · omega
          · exact hf h1
        exact (hok.block j (Nat.lt_of_lt_of_le hj hr.h.size) hnf).trans (hr.h.block j hj hf)
      xlt := hok.xlt
      xold := fun b o hb hf => by
        have hnf : ¬ footB βc H0 b := fun h => by
          rcases hfown b h with h1 | h1
          · omega
          · exact hf h1
        exact (hok.xold b o (Nat.lt_of_lt_of_le hb hr.h.size) hnf).trans (hr.h.xold b o hb hf)
      le := hr.h.le.trans hle
      gid := hr.h.gid
      given := fun i b hi => hβ1 i b (hr.h.given i b hi)
      ent := fun i => by
        rw [hent i]
        by_cases hi1 : i ∈ H1.map (fun x => sig k A x.1)
        · rw [if_pos hi1]
          obtain ⟨j, hj, hbj, rfl⟩ := cases1 i hi1
          rw [hlook1 j hbj hj]
          have he := hok.ent j
          have hrf := (hH1r j hj).2
          have hb2 := hβ2 j hbj
          cases hE : entL H1 j with
          | none => trivial
          | fresh => rw [hE] at he; exact hb2.trans he
          | blk e es =>
            rw [hE] at he hrf
            rcases he with ⟨g1, g2⟩ | ⟨b, ws, sp, g1, g2, g3, g4, g5⟩
            · exact .inl ⟨hb2.trans g1, by rw [g2]; rfl⟩
            · exact .inr ⟨b, ws, sp, hb2.trans g1, hcown b g2, g3, g4, RdL.renp (fun id b hid hb => (hβ2 id hid).trans hb) g5 hrf⟩
          | tail e sz n =>
            rw [hE] at he
            rcases he with ⟨g1, g2⟩ | ⟨b, c, g1, g2, g3, g4⟩
            · exact .inl ⟨hb2.trans g1, g2⟩
            · exact .inr ⟨b, c, hb2.trans g1, hcown b g2, g3, g4⟩
          | loop lk es st pe =>
            rw [hE] at hrf; cases hrf
          | kept n es => rw [hE] at hrf; cases hrf
        · rw [if_neg hi1]
          by_cases hi0 : i ∈ H0.map (fun x => sig k A x.1)
          · rw [if_pos hi0]; trivial
          · rw [if_neg hi0]
            have he := hr.h.ent i
            have hnb : ∀ b, (S.ent i).held = true → β i = some b → βn i = some b ∧ E'.w.heap[b]? = E.w.heap[b]? ∧ ∀ o, (E'.X b o ↔ E.X b o) := fun b hhe hb => by
              obtain ⟨g1, g2, g3⟩ := hold i hi1 hi0 hhe b hb
              exact ⟨g1, hok.block b g2 g3, fun o => hok.xold b o g2 g3⟩
            cases hE : S.ent i with
            | none => trivial
            | fresh =>
              rw [hE] at he
              show βn i = none
              by_cases hki : k ≤ i ∧ i < k + m
              · -- a fresh name of the callee's that is told by nothing
                have hbi : i - k ∉ H1.map (·.1) := fun hm => by
                  have hbb := (hH1r _ hm).1
                  refine hi1 ?_
                  obtain ⟨x, hx, hxe⟩ := List.mem_map.1 hm
                  refine List.mem_map.2 ⟨x, hx, ?_⟩
                  have hx' : x.1 = i - k := hxe
                  rw [hx']
                  simp only [sig, show ¬ 1000 ≤ i - k by omega, if_false]
                  omega
                have h3 := hok.ent (i - k)
                have h4 : entL H1 (i - k) = defE (i - k) := look_not_mem hbi
                rw [h4, defE, if_neg (by omega)] at h3
                simp only [βn, hki, and_self, if_true]
                exact h3
              · rw [hnO i (fun hA => hi0 (hcov i hA)) hki]; exact he
            | blk e es =>
              rw [hE] at he
              rcases he with ⟨g1, g2⟩ | ⟨b, ws, sp, g1, g2, g3, g4, g5⟩
              · exact .inl ⟨(hold' i hi0 (by rw [hE]; exact fun h => by cases h)).trans g1, g2⟩
              · obtain ⟨f1, f2, f3⟩ := hnb b (by rw [hE]; rfl) g1
                exact .inr ⟨b, ws, sp, f1, g2, f2.trans g3, fun o => (f3 o).2 (g4 o), RdL.mono hle hβ1 g5⟩
            | tail e sz n =>
              rw [hE] at he
              rcases he with ⟨g1, g2⟩ | ⟨b, c, g1, g2, g3, g4⟩
              · exact .inl ⟨(hold' i hi0 (by rw [hE]; exact fun h => by cases h)).trans g1, g2⟩
              · obtain ⟨f1, f2, f3⟩ := hnb b (by rw [hE]; rfl) g1
                exact .inr ⟨b, c, f1, g2, f2.trans g3, fun o ho => (f3 o).2 (g4 o ho)⟩
            | loop lk es st pe =>
              rw [hE] at he
              obtain ⟨b, q, g1, g2, g3, g4, g5, g6, g7, g8, g9, g10⟩ := he
              obtain ⟨f1, f2, f3⟩ := hnb b (by rw [hE]; rfl) g1
              exact ⟨b, q, f1, g2, f2.trans g3, fun o => (f3 o).2 (g4 o), g5, g6, g7, g8, g9, g10.1, RdL.mono hle hβ1 g10.2⟩
            | kept n es =>
              rw [hE] at he
              exact ⟨RdL.mono hle hβ1 he.1, fun c hc => (hok.block c (heap_lt (he.2 c hc)) (fun hf => by obtain ⟨i, _, h2, h3⟩ := hfoot c hf; exact hr.h.nodef h2 h3 _ (he.2 c hc))).trans (he.2 c hc)⟩
      inj := fun i j b hi hj hbi hbj => by
        rw [hent i] at hi
        rw [hent j] at hj
        have hone : ∀ i, i ∈ H1.map (fun x => sig k A x.1) → (look (defE i) i (H1.map fun x => (sig k A x.1, x.2.ren (sig k A)))).held = true → βn i = some b → ∃ a, (entL H1 a).held = true ∧ β' a = some b ∧ i = sig k A a ∧ backM m A a = true := fun i hm hh hb => by
          obtain ⟨a, ha, hba, rfl⟩ := cases1 i hm
          rw [hlook1 a hba ha, Ent.held_ren] at hh
          exact ⟨a, hh, (hβ2 a hba).symm.trans hb, rfl, hba⟩
        have hown1 : ∀ a, (entL H1 a).held = true → β' a = some b → E.w.heap.size ≤ b ∨ footB βc H0 b := fun a hh hb => by
          exact hok.own hh hb
        have hto : ∀ i, i ∉ H0.map (fun x => sig k A x.1) → (S.ent i).held = true → βn i = some b → β i = some b := fun i h0 hh hb => by
          rw [← hold' i h0 (fun h => by rw [h] at hh; cases hh)]; exact hb
        have hmix : ∀ i j, i ∈ H1.map (fun x => sig k A x.1) → (look (defE i) i (H1.map fun x => (sig k A x.1, x.2.ren (sig k A)))).held = true → βn i = some b → j ∉ H1.map (fun x => sig k A x.1) → j ∉ H0.map (fun x => sig k A x.1) → (S.ent j).held = true → βn j = some b → False := fun i j h1 h2 h3 h4 h5 h6 h7 => by
          obtain ⟨a, ha, hb, _⟩ := hone i h1 h2 h3
          obtain ⟨_, f2, f3⟩ := hold j h4 h5 h6 b (hto j h5 h6 h7)
          rcases hown1 a ha hb with h | h
          · omega
          · exact f3 h
        by_cases hi1 : i ∈ H1.map (fun x => sig k A x.1)
        · rw [if_pos hi1] at hi
          by_cases hj1 : j ∈ H1.map (fun x => sig k A x.1)
          · rw [if_pos hj1] at hj
            obtain ⟨a, ha, hab, rfl, _⟩ := hone i hi1 hi hbi
            obtain ⟨c, hc, hcb, rfl, _⟩ := hone j hj1 hj hbj
            rw [hok.inj a c b ha hc hab hcb]
          · rw [if_neg hj1] at hj
            by_cases hj0 : j ∈ H0.map (fun x => sig k A x.1)
            · rw [if_pos hj0] at hj; cases hj
            · rw [if_neg hj0] at hj
              exact (hmix i j hi1 hi hbi hj1 hj0 hj hbj).elim
        · rw [if_neg hi1] at hi
          by_cases hi0 : i ∈ H0.map (fun x => sig k A x.1)
          · rw [if_pos hi0] at hi; cases hi
          · rw [if_neg hi0] at hi
            by_cases hj1 : j ∈ H1.map (fun x => sig k A x.1)
            · rw [if_pos hj1] at hj
              exact (hmix j i hj1 hj hbj hi1 hi0 hi hbi).elim
            · rw [if_neg hj1] at hj
              by_cases hj0 : j ∈ H0.map (fun x => sig k A x.1)
              · rw [if_pos hj0] at hj; cases hj
              · rw [if_neg hj0] at hj
                exact hr.h.inj i j b hi hj (hto i hi0 hi hbi) (hto j hj0 hj hbj) }
  · intro s
    have hts : t < a.tmps.size := hr.n ▸ ht
    by_cases hst : t = s
    · subst hst
      have h1 := Rd.renp (p := backM m A) (fun id b hid hb => (hβ2 id hid).trans hb) hrd hrp
      simpa [Act.put, St.get, St.set, look_cons, hts] using h1
    · have := Rd.mono hle hβ1 (hr.sl s)
      simpa [Act.put, St.get, St.set, look_cons, hst, Array.getElem?_setIfInBounds_ne] using this

theorem iop_callM {f : FuncId} {xs : List Operand} {ts : Array TypeId} {ds ds' : List D} {r r' : D} {H0 H1 U : List (Nat × Ent)} (k m : Nat) (A : List Nat) (ho : o.op = .call { callee := .value (.func f), args := xs.toArray, argTypes := ts }) (hd : o.dst = some t) (ht : t < N)
    (hc : Callable P f) (hx : SVs S xs ds') (hds : D.renL (sig k A) ds = ds') (hp : D.refsInL (givenB A) ds = true) (hkm : Nat.ble (k + m) 1000 = true) (hfr : ∀ e ∈ (List.range m).map (fun j => S.ent (k + j)), e = .fresh)
    (hh : HandM S k A H0) (hf : FnH P f ds H0 r H1) (hrr : r.ren (sig k A) = r') (hrp : r.refsIn (backM m A) = true) (hH1 : ∀ x ∈ H1, backM m A x.1 = true ∧ x.2.refsIn (backM m A) = true)
    (hU : (H1.map fun x => (sig k A x.1, x.2.ren (sig k A))) ++ (H0.map fun x => (sig k A x.1, Ent.none)) = U) : IOp P O N o S ⟨(t, r') :: S.sl, U ++ S.H⟩ := by
  have h := iop_enterM (P := P) (O := O) (N := N) (S := S) (o := o) (t := t) (f := f) (ds := ds) (ds' := ds') (r := r) (r' := r') (H0 := H0) (H1 := H1) (H2 := U ++ S.H) k m A hd ht (fun E β a hr => ⟨xs.map a.eval, by
    simp [execOp, ho, resolve, Deferred.ofValue, Act.eval, invoke, run_callFunc hc], hx.rd hr⟩) hds hp (Nat.le_of_ble_eq_true hkm) (fun j hj => hfr _ (List.mem_map.2 ⟨j, List.mem_range.2 hj, rfl⟩)) hh hf hrr hrp hH1 (by rw [← hU, afterH, List.append_assoc])
  exact h
end
end Go.IL
namespace Go.IL
section
variable {P : Program} {O : Origin} {N : Nat} {S S' : St} {o : Oper} {t : Nat} {Q : Exit → St → Prop}

/-! Comparison of structs and arrays, nested ones too. -/
end
end Go.IL
open Go.RowKit (Below)
namespace Go.IL
section
variable {P : Program} {O : Origin} {N : Nat} {S S' : St} {o : Oper} {t : Nat} {Q : Exit → St → Prop}
/-- Bytes that are owned, as a string. -/
theorem iop_bytes_strO {T e e' dst : TypeId} {x : Operand} {id n : Nat} {l : List UInt8} (ho : o.op = .convert T dst x) (hd : o.dst = some t) (ht : t < N) (hu : P.underlying T = some (.slice e)) (he : P.underlying e = some (.int .u8)) (hdst : P.underlying dst = some .string)
    (hx : S.op x = .osl id eByte.sz n) (hl0 : l.length = n) (he' : S.ent id = .blk e' (D.flat (l.map eByte.d))) : IOp P O N o S (S.set t (.str l)) :=
  iop_of hd ht fun E β a hr => by
    refine ⟨.string (bs l), ?_, .str _ _⟩
    have hxr : Rd (E.all β S) β (a.eval x) (.slice false (l.map byteD)) := Rd.fd hr.h (FDT eByte he' hl0) (hx ▸ hr.op x)
    rcases rd_slice hxr with ⟨hev, hl⟩ | ⟨b, off, cap, sz, vs, hev, hc, _, hz, hsp, hrow, hvs⟩ | ⟨ad, cap, hev, hl⟩
    rotate_right
    · have hl1 : l = [] := by simpa using hl
      subst hl1
      have hz := run_loadCells_list (P := P) E.w ad [] (fun j v hj => by simp at hj)
      have := run_convert_bytes_string E.w T dst e (some ad) 0 cap hu he hdst (P := P)
      simp only [List.length_nil] at hz
      simp [execOp, ho, hev, this, Conv.bytesToString, Sem.run_bind, hz]
      rfl
    · have hl1 : l = [] := by simpa using hl
      subst hl1
      have := run_convert_bytes_nil (P := P) E.w T e hu he 0 0 dst hdst
      simp [execOp, ho, hev, this]
      rfl
    · rw [flat_byteD] at hvs
      have hv := rdl_bytes hvs
      have h1 := run_convert_bytes_arg (P := P) E.w T e hu he b off l.length cap (l.map fun c => (c.toNat : Int)) (by simp) (fun i hi => by
        have : E.w.cell? ⟨b, off + i, none⟩ = some (.int .u8 (l[i]).toNat) := (hrow i (.int .u8 (l[i]).toNat) (by rw [hv]; simp [hi])).1
        rw [this]; simp [List.getD, hi]) dst hdst
      have h2 : strOfNums (l.map fun c => (c.toNat : Int)) = bs l := by
        have : ∀ s t : ByteArray, s.data.toList = t.data.toList → s = t := fun s t h => by
          cases s; cases t; congr; exact Array.toList_inj.1 h
        apply this
        rw [strOfNums_data]
        simp [bs, List.map_map, Function.comp_def]
      rw [h2] at h1
      simp only [List.length_map] at hev
      simp [execOp, ho, hev, h1]
end
end Go.IL
namespace Go.IL
/-! Functions on texts that have no body: the count of a byte, its first place. -/
theorem rd_str' {E : Env} {β : Names} {v : Value} {l : List UInt8} (h : Rd E β v (.str l)) : v = .string (bs l) := by cases h; rfl
def cntB (s : List UInt8) (c : Int) : Int := (Lib.countByte s c.toNat.toUInt8 : Int)
def idxB (s : List UInt8) (c : Int) : Int := Lib.indexByte s c.toNat.toUInt8
/-- A number's decimal digits. -/
def decF : Nat → Nat → List UInt8
  | 0, u => [UInt8.ofNat (48 + u)]
  | k + 1, u => bif decide (u < 10) then [UInt8.ofNat (48 + u)] else decF k (u / 10) ++ [UInt8.ofNat (48 + u % 10)]
theorem decF_eq : ∀ (k u : Nat), u < 10 ^ (k + 1) → decF k u = Lib.decDigits u
  | 0, u, h => by
    have h : u < 10 := by simpa using h
    rw [Lib.decDigits, dif_pos h]; rfl
  | k + 1, u, h => by
    rw [Lib.decDigits]
    by_cases h1 : u < 10
    · rw [dif_pos h1, decF, decide_eq_true h1]; rfl
    · rw [dif_neg h1, decF, decide_eq_false h1, ← decF_eq k (u / 10) (by
        have : 10 ^ (k + 1 + 1) = 10 ^ (k + 1) * 10 := Nat.pow_succ ..
        omega)]; rfl
def itoaF (n : Int) : List UInt8 := bif decide (n < 0) then 45 :: decF 19 n.natAbs else decF 19 n.toNat
def itoaS (n : Int) : Option (List UInt8) := bif decide (-9223372036854775808 ≤ n) && decide (n ≤ 9223372036854775807) then some (itoaF n) else none
theorem itoaF_eq {n : Int} (h : -9223372036854775808 ≤ n ∧ n ≤ 9223372036854775807) : itoaF n = Lib.itoa n := by
  have hp : 10 ^ (19 + 1) = 100000000000000000000 := by decide
  unfold itoaF Lib.itoa
  by_cases h1 : n < 0
  · rw [if_pos h1, decide_eq_true h1, ← decF_eq 19 n.natAbs (by rw [hp]; omega)]; rfl
  · rw [if_neg h1, decide_eq_false h1, ← decF_eq 19 n.toNat (by rw [hp]; omega)]; rfl
theorem itoaS_e {n : Int} {r : List UInt8} (h : itoaS n = some r) : (-9223372036854775808 ≤ n ∧ n ≤ 9223372036854775807) ∧ Lib.itoa n = r := by
  unfold itoaS at h
  cases hb : (decide (-9223372036854775808 ≤ n) && decide (n ≤ 9223372036854775807)) with
  | true =>
    rw [hb] at h
    rw [Bool.and_eq_true, decide_eq_true_iff, decide_eq_true_iff] at hb
    exact ⟨hb, (itoaF_eq hb).symm.trans (Option.some.inj h)⟩
  | false => rw [hb] at h; cases h
/-- Texts joined. -/
def joinS (xs : List (List UInt8)) (sep : List UInt8) : Option (List UInt8) := bif decide (xs.length ≤ 140737488355328) && decide ((Lib.join xs sep).length ≤ 140737488355328) then some (Lib.join xs sep) else none
theorem joinS_e {xs : List (List UInt8)} {sep r : List UInt8} (h : joinS xs sep = some r) : xs.length ≤ 140737488355328 ∧ (Lib.join xs sep).length ≤ 140737488355328 ∧ Lib.join xs sep = r := by
  unfold joinS at h
  cases hb : (decide (xs.length ≤ 140737488355328) && decide ((Lib.join xs sep).length ≤ 140737488355328)) with
  | true =>
    rw [hb] at h
    rw [Bool.and_eq_true, decide_eq_true_iff, decide_eq_true_iff] at hb
    exact ⟨hb.1, hb.2, Option.some.inj h⟩
  | false => rw [hb] at h; cases h
theorem rdl_strs {E : Env} : ∀ {l : List (List UInt8)} {vs : List Value}, RdL E β0 vs (D.flat (l.map eStr.d)) → ∀ (j : Nat) (x : ByteArray), (l.map bs)[j]? = some x → vs[j]? = some (.string x)
  | [], _, _, j, x, hx => by simp at hx
  | s :: l, vs, h, j, x, hx => by
    have h : RdL E β0 vs (.str s :: D.flat (l.map eStr.d)) := h
    cases h with
    | cons h1 h2 =>
      cases j with
      | zero =>
        have hx : bs s = x := by simpa using hx
        rw [rd_str' h1, hx]; rfl
      | succ j => exact rdl_strs h2 j x (by simpa using hx)
section
variable {P : Program} {O : Origin} {N : Nat} {S S' : St} {o : Oper} {t : Nat}
theorem iop_cntB {f : FuncId} {x y : Operand} {ts : Array TypeId} {l : List UInt8} {c r : Int} (ho : o.op = .call { callee := .value (.func f), args := #[x, y], argTypes := ts }) (hd : o.dst = some t) (ht : t < N)
    (hc : ExternAt P f Extern.BytealgCount.count) (hx : SV S x (.str l)) (hy : SV S y (.int .u8 c)) (h : cntB l c = r) : IOp P O N o S (S.set t (.int .i64 r)) := by
  refine iop_extern (xs := [x, y]) ho hd ht hc (.cons hx (.cons hy .nil)) fun E β vs hv => ?_
  cases hv with
  | cons h1 h2 =>
    cases h2 with
    | cons h3 h4 =>
      cases h4
      obtain rfl := rd_int h3
      obtain rfl := rd_str' h1
      exact ⟨_, Lib.run_countString _ _ _, h ▸ .int _ _ _⟩
theorem iop_idxB {f : FuncId} {x y : Operand} {ts : Array TypeId} {l : List UInt8} {c r : Int} (ho : o.op = .call { callee := .value (.func f), args := #[x, y], argTypes := ts }) (hd : o.dst = some t) (ht : t < N)
    (hc : ExternAt P f Extern.BytealgIndexByte.indexByte) (hx : SV S x (.str l)) (hy : SV S y (.int .u8 c)) (h : idxB l c = r) : IOp P O N o S (S.set t (.int .i64 r)) := by
  refine iop_extern (xs := [x, y]) ho hd ht hc (.cons hx (.cons hy .nil)) fun E β vs hv => ?_
  cases hv with
  | cons h1 h2 =>
    cases h2 with
    | cons h3 h4 =>
      cases h4
      obtain rfl := rd_int h3
      obtain rfl := rd_str' h1
      exact ⟨_, Lib.run_indexByteString _ _ _, h ▸ .int _ _ _⟩
end
end Go.IL
set_option linter.unusedSimpArgs false
set_option linter.unusedVariables false
open Go Go.IL
namespace Go.Fn
structure T_tune_Values where
  Streams : Int
  Window : Int
  Whole : Int
  Chunk : Int
  deriving DecidableEq, Inhabited
structure T_anon24 where
  c0 : T_tune_Values
  c1 : T_tune_Values
  deriving DecidableEq, Inhabited
structure T_anon26 where
  c0 : Int
  c1 : Int
  deriving DecidableEq, Inhabited
structure T_world_Config where
  Paths : Int
  Values : T_anon24
  First : T_anon26
  deriving DecidableEq, Inhabited
structure T_tune_row where
  c0 : Int
  c1 : Int
  c2 : Int
  c3 : Int
  deriving DecidableEq, Inhabited
structure T_anon61 where
  c0 : Bool
  c1 : Bool
  c2 : Bool
  c3 : Bool
  c4 : Bool
  deriving DecidableEq, Inhabited
structure T_config_reader where
  Config : T_world_Config
  seen : T_anon61
  deriving DecidableEq, Inhabited
def strconv_Itoa (a0 : Int) : Option (List UInt8) := itoaS a0

def internal_stringslite_IndexByte (a0 : (List UInt8)) (a1 : Int) : Option Int :=
  bnd (idxB a0 a1) fun x1 =>
  some x1

def internal_stringslite_Index (a0 : (List UInt8)) (a1 : (List UInt8)) : Option Int :=
  bnd (decide ((a1.length : Int) = 0)) fun x1 =>
  bnd (decide (a1 = a0)) fun x2 =>
  bnd (x1 || x2) fun x3 =>
  bif x3 then (
    some 0
  ) else (
    bnd (decide ((a1.length : Int) = 1)) fun x5 =>
    bif x5 then (
      bno (gix a1 0) fun x7 =>
      bno (internal_stringslite_IndexByte a0 (x7.toNat : Int)) fun x8 =>
      some x8
    ) else (
      bnd (decide ((a0.length : Int) ≤ (a1.length : Int))) fun x9 =>
      bif x9 then (
        some (-1)
      ) else (
        none
      )
    )
  )

def strings_Index (a0 : (List UInt8)) (a1 : (List UInt8)) : Option Int :=
  bno (internal_stringslite_Index a0 a1) fun x1 =>
  some x1

def strings_Count_L0 (a1 : (List UInt8)) : Nat → (List UInt8) → Int → Option Int
  | 0, _, _ => none
  | n0 + 1, v13, v14 =>
    bno (strings_Index v13 a1) fun x21 =>
    bnd (decide (x21 = (-1))) fun x22 =>
    bif x22 then (
      some v14
    ) else (
      bnd (IntKind.wrap .i64 (v14 + 1)) fun x24 =>
      bnd (IntKind.wrap .i64 (x21 + (a1.length : Int))) fun x25 =>
      bno (cut v13 x25 (v13.length : Int)) fun x26 =>
      (strings_Count_L0 a1 n0) x26 x24
    )
def strings_Count (a0 : (List UInt8)) (a1 : (List UInt8)) : Option Int :=
  bnd (decide ((a1.length : Int) = 0)) fun x1 =>
  bif x1 then (
    none
  ) else (
    bnd (decide ((a1.length : Int) = 1)) fun x3 =>
    bif x3 then (
      bno (gix a1 0) fun x5 =>
      bnd (cntB a0 (x5.toNat : Int)) fun x6 =>
      some x6
    ) else (
      strings_Count_L0 a1 fuel a0 0
    )
  )

def strings_genSplit_J2 (v56 : (List UInt8)) (v57 : (List (List UInt8))) (v58 : Int) : Option (List (List UInt8)) :=
  bno (gix v57 v58) fun x59 =>
  bno (v57[(v58 : Int).toNat]?) fun x60 =>
  bnd (v57.set ((v58 : Int).toNat) v56) fun x61 =>
  bnd (IntKind.wrap .i64 (v58 + 1)) fun x62 =>
  bno (cut x61 0 x62) fun x63 =>
  some x63
def strings_genSplit_L3 (a1 : (List UInt8)) (a2 : Int) (x13 : Int) : Nat → (List UInt8) → (List (List UInt8)) → Int → Option (List (List UInt8))
  | 0, _, _, _ => none
  | n3 + 1, v77, v78, v79 =>
    bnd (decide (v79 < x13)) fun x93 =>
    bif x93 then (
      bno (strings_Index v77 a1) fun x95 =>
      bnd (decide (x95 < 0)) fun x96 =>
      bif x96 then (
        strings_genSplit_J2 v77 v78 v79
      ) else (
        bnd (IntKind.wrap .i64 (x95 + a2)) fun x98 =>
        bno (cut v77 0 x98) fun x99 =>
        bno (gix v78 v79) fun x100 =>
        bno (v78[(v79 : Int).toNat]?) fun x101 =>
        bnd (v78.set ((v79 : Int).toNat) x99) fun x102 =>
        bnd (IntKind.wrap .i64 (x95 + (a1.length : Int))) fun x103 =>
        bno (cut v77 x103 (v77.length : Int)) fun x104 =>
        bnd (IntKind.wrap .i64 (v79 + 1)) fun x105 =>
        (strings_genSplit_L3 a1 a2 x13 n3) x104 x102 x105
      )
    ) else (
      strings_genSplit_J2 v77 v78 v79
    )
def strings_genSplit_J0 (a0 : (List UInt8)) (a1 : (List UInt8)) (a2 : Int) (v9 : Int) : Option (List (List UInt8)) :=
  bnd (IntKind.wrap .i64 ((a0.length : Int) + 1)) fun x10 =>
  bnd (min v9 x10) fun x11 =>
  bno (made 16 x11 ([] : (List UInt8))) fun x12 =>
  bnd (IntKind.wrap .i64 (x11 - 1)) fun x13 =>
  strings_genSplit_L3 a1 a2 x13 fuel a0 x12 0
def strings_genSplit (a0 : (List UInt8)) (a1 : (List UInt8)) (a2 : Int) (a3 : Int) : Option (List (List UInt8)) :=
  bnd (decide (a3 = 0)) fun x1 =>
  bif x1 then (
    some []
  ) else (
    bnd (decide (a1 = ([] : List UInt8))) fun x3 =>
    bif x3 then (
      none
    ) else (
      bnd (decide (a3 < 0)) fun x106 =>
      bif x106 then (
        bno (strings_Count a0 a1) fun x108 =>
        bnd (IntKind.wrap .i64 (x108 + 1)) fun x109 =>
        strings_genSplit_J0 a0 a1 a2 x109
      ) else (
        strings_genSplit_J0 a0 a1 a2 a3
      )
    )
  )

def strings_Split (a0 : (List UInt8)) (a1 : (List UInt8)) : Option (List (List UInt8)) :=
  bno (strings_genSplit a0 a1 0 (-1)) fun x1 =>
  some x1

end Go.Fn
set_option linter.unusedSimpArgs false
set_option linter.unusedVariables false
open Go Go.IL
namespace Go.Fn
/-! Numerals. -/
def dig (m : Nat) : UInt8 := UInt8.ofNat (48 + m % 10)
theorem decF_step {k m : Nat} (h : 10 ≤ m) : decF (k + 1) m = decF k (m / 10) ++ [dig m] := by
  rw [decF, decide_eq_false (by omega)]; rfl
theorem decF_one {k m : Nat} (h : m < 10) : decF k m = [dig m] := by
  have e : dig m = UInt8.ofNat (48 + m) := by unfold dig; rw [Nat.mod_eq_of_lt h]
  cases k with
  | zero => rw [decF, e]
  | succ k => rw [decF, decide_eq_true h, e]; rfl
theorem decF_len : ∀ (k m : Nat), (decF k m).length ≤ k + 1
  | 0, _ => by simp [decF]
  | k + 1, m => by
    rw [decF]
    cases decide (m < 10)
    · show (decF k (m / 10) ++ [_]).length ≤ _
      rw [List.length_append]; have := decF_len k (m / 10); simp; omega
    · show [_].length ≤ _
      simp
theorem decF_ne : ∀ (k m : Nat), decF k m ≠ []
  | 0, _ => by simp [decF]
  | k + 1, m => by
    rw [decF]
    cases decide (m < 10)
    · show decF k (m / 10) ++ [_] ≠ []
      simp
    · show [_] ≠ []
      simp
def J64 (n : Int) : Prop := -9223372036854775808 ≤ n ∧ n ≤ 9223372036854775807
theorem itoa33 {n : Int} (h : J64 n) : strconv_Itoa n = some (itoaF n) := by
  unfold strconv_Itoa itoaS
  rw [decide_eq_true h.1, decide_eq_true h.2]; rfl
theorem itoaF_len (n : Int) : (itoaF n).length ≤ 21 := by
  unfold itoaF
  cases decide (n < 0)
  · have := decF_len 19 n.toNat
    show (decF 19 n.toNat).length ≤ 21
    omega
  · have := decF_len 19 n.natAbs
    show (45 :: decF 19 n.natAbs).length ≤ 21
    simp; omega
/-- Digits alone. -/
def isDig (b : UInt8) : Prop := 48 ≤ b.toNat ∧ b.toNat ≤ 57
theorem dig_is (m : Nat) : isDig (dig m) := by
  have h : m % 10 < 10 := Nat.mod_lt _ (by decide)
  unfold isDig dig
  rw [UInt8.toNat_ofNat']
  omega
theorem decF_dig : ∀ (k m : Nat), m < 10 ^ (k + 1) → ∀ b ∈ decF k m, isDig b
  | 0, m, h, b, hb => by
    rw [decF_one (by simpa using h)] at hb
    rw [List.mem_singleton.1 hb]; exact dig_is m
  | k + 1, m, h, b, hb => by
    by_cases h1 : m < 10
    · rw [decF_one h1] at hb
      rw [List.mem_singleton.1 hb]; exact dig_is m
    · rw [decF_step (by omega)] at hb
      rcases List.mem_append.1 hb with hb | hb
      · refine decF_dig k (m / 10) ?_ b hb
        have : 10 ^ (k + 1 + 1) = 10 ^ (k + 1) * 10 := Nat.pow_succ ..
        omega
      · rw [List.mem_singleton.1 hb]; exact dig_is m
theorem itoaF_dig {n : Int} (h0 : 0 ≤ n) (h1 : n ≤ 9223372036854775807) : ∀ b ∈ itoaF n, isDig b := by
  have hp : 10 ^ (19 + 1) = 100000000000000000000 := by decide
  unfold itoaF
  rw [decide_eq_false (by omega), bif_ff]
  exact decF_dig 19 n.toNat (by rw [hp]; omega)
/-- Of less, fewer. -/
theorem decF_less : ∀ (j k m : Nat), m < 10 ^ (j + 1) → j ≤ k → decF k m = decF j m
  | 0, k, m, h, _ => by
    have h : m < 10 := by simpa using h
    rw [decF_one h, decF_one h]
  | j + 1, k, m, h, hj => by
    obtain ⟨k, rfl⟩ : ∃ i, k = i + 1 := ⟨k - 1, by omega⟩
    by_cases h1 : m < 10
    · rw [decF_one h1, decF_one h1]
    · rw [decF_step (by omega), decF_step (by omega), decF_less j k (m / 10) (by
        have : 10 ^ (j + 1 + 1) = 10 ^ (j + 1) * 10 := Nat.pow_succ ..
        omega) (by omega)]
theorem itoaF_of {n : Int} (h0 : 0 ≤ n) (j : Nat) (h : n.toNat < 10 ^ (j + 1)) (hj : j ≤ 19) : itoaF n = decF j n.toNat := by
  unfold itoaF
  rw [decide_eq_false (by omega), bif_ff, decF_less j 19 _ h hj]
/-- What digits come to. -/
def valS (s : List UInt8) : Nat := s.foldl (fun n b => 10 * n + (b.toNat - 48)) 0
theorem valS_app (s : List UInt8) (b : UInt8) : valS (s ++ [b]) = 10 * valS s + (b.toNat - 48) := by unfold valS; rw [List.foldl_append]; rfl
theorem dig_val (m : Nat) : (dig m).toNat - 48 = m % 10 := by
  have h : m % 10 < 10 := Nat.mod_lt _ (by decide)
  unfold dig
  rw [UInt8.toNat_ofNat']
  omega
theorem decF_val : ∀ (k m : Nat), m < 10 ^ (k + 1) → valS (decF k m) = m
  | 0, m, h => by
    have h : m < 10 := by simpa using h
    rw [decF_one h]
    show 10 * 0 + ((dig m).toNat - 48) = m
    rw [dig_val]; omega
  | k + 1, m, h => by
    by_cases h1 : m < 10
    · rw [decF_one h1]
      show 10 * 0 + ((dig m).toNat - 48) = m
      rw [dig_val]; omega
    · rw [decF_step (by omega), valS_app, dig_val, decF_val k (m / 10) (by
        have : 10 ^ (k + 1 + 1) = 10 ^ (k + 1) * 10 := Nat.pow_succ ..
        omega)]
      omega
/-- No nought ahead. -/
theorem decF_head : ∀ (k m : Nat), 0 < m → m < 10 ^ (k + 1) → (decF k m)[0]? ≠ some 48
  | 0, m, h0, h => by
    have h : m < 10 := by simpa using h
    rw [decF_one h]
    intro e
    have e : dig m = 48 := Option.some.inj e
    have := dig_val m
    rw [e] at this
    have : (48 : UInt8).toNat - 48 = 0 := by decide
    omega
  | k + 1, m, h0, h => by
    by_cases h1 : m < 10
    · rw [decF_one h1]
      intro e
      have e : dig m = 48 := Option.some.inj e
      have := dig_val m
      rw [e] at this
      have : (48 : UInt8).toNat - 48 = 0 := by decide
      omega
    · rw [decF_step (by omega), List.getElem?_append_left (by have := decF_ne k (m / 10); exact List.length_pos_iff.2 this)]
      exact decF_head k (m / 10) (by omega) (by
        have : 10 ^ (k + 1 + 1) = 10 ^ (k + 1) * 10 := Nat.pow_succ ..
        omega)
end Go.Fn
set_option linter.unusedSimpArgs false
set_option linter.unusedVariables false
open Go Go.IL
namespace Go.Fn
/-! Config: what may be; Print; Digest (ConfigPrints). -/
abbrev Cf := T_world_Config
abbrev Vl := T_tune_Values
def okV (v : Vl) : Prop := (0 ≤ v.Streams ∧ v.Streams ≤ 8) ∧ (1 ≤ v.Window ∧ v.Window ≤ 4096) ∧ (1 ≤ v.Whole ∧ v.Whole ≤ 1048576) ∧ 1 ≤ v.Chunk ∧ v.Chunk ≤ 32
instance (v : Vl) : Decidable (okV v) := by unfold okV; infer_instance
def okC (c : Cf) : Prop := (1 ≤ c.Paths ∧ c.Paths ≤ 4) ∧ okV c.Values.c0 ∧ okV c.Values.c1
instance (c : Cf) : Decidable (okC c) := by unfold okC; infer_instance
end Go.Fn
set_option linter.unusedSimpArgs false
set_option linter.unusedVariables false
open Go Go.IL
namespace Go.Fn
/-! strings.Split at one byte: what is joined is parted. -/
def joinL (c : UInt8) : List (List UInt8) → List UInt8
  | [] => []
  | [w] => w
  | w :: v :: ws => w ++ c :: joinL c (v :: ws)
theorem joinL_cons {c : UInt8} {w : List UInt8} {ws : List (List UInt8)} (h : ws ≠ []) : joinL c (w :: ws) = w ++ c :: joinL c ws := by
  cases ws with
  | nil => exact absurd rfl h
  | cons v ws => rfl
theorem u8_int (c : UInt8) : ((c.toNat : Int)).toNat.toUInt8 = c := by
  rw [Int.toNat_natCast]; exact UInt8.ofNat_toNat
theorem ib_no : ∀ {w : List UInt8} {c : UInt8}, c ∉ w → Lib.indexByte w c = -1
  | [], _, _ => rfl
  | b :: w, c, h => by
    have h1 : b ≠ c := fun e => h (by simp [e])
    have h2 := ib_no (w := w) (c := c) (fun hh => h (by simp [hh]))
    unfold Lib.indexByte
    rw [if_neg (by simpa using h1), h2]; rfl
theorem ib_yes : ∀ {w r : List UInt8} {c : UInt8}, c ∉ w → Lib.indexByte (w ++ c :: r) c = (w.length : Int)
  | [], r, c, _ => by
    show Lib.indexByte (c :: r) c = 0
    unfold Lib.indexByte
    rw [if_pos (by simp)]
  | b :: w, r, c, h => by
    have h1 : b ≠ c := fun e => h (by simp [e])
    have h2 := ib_yes (w := w) (r := r) (c := c) (fun hh => h (by simp [hh]))
    show Lib.indexByte (b :: (w ++ c :: r)) c = _
    unfold Lib.indexByte
    rw [if_neg (by simpa using h1), h2, if_neg (by simp; try omega)]
    simp only [List.length_cons]; omega
theorem idx_no {w : List UInt8} {c : UInt8} (h : c ∉ w) : idxB w (c.toNat : Int) = -1 := by unfold idxB; rw [u8_int, ib_no h]
theorem idx_yes {w r : List UInt8} {c : UInt8} (h : c ∉ w) : idxB (w ++ c :: r) (c.toNat : Int) = (w.length : Int) := by unfold idxB; rw [u8_int, ib_yes h]
theorem count_join {c : UInt8} : ∀ {ws : List (List UInt8)}, ws ≠ [] → (∀ w ∈ ws, c ∉ w) → (joinL c ws).count c + 1 = ws.length
  | [], h, _ => absurd rfl h
  | [w], _, h => by
    show w.count c + 1 = 1
    rw [List.count_eq_zero.2 (h w (by simp))]
  | w :: v :: ws, _, h => by
    have := count_join (ws := v :: ws) (by simp) (fun x hx => h x (by simp [hx]))
    rw [joinL_cons (by simp), List.count_append, List.count_eq_zero.2 (h w (by simp)), List.count_cons_self]
    simp only [List.length_cons] at this ⊢
    omega
theorem sidx_yes {w r : List UInt8} {c : UInt8} (h : c ∉ w) : strings_Index (w ++ c :: r) [c] = some (w.length : Int) := by
  unfold strings_Index internal_stringslite_Index internal_stringslite_IndexByte
  simp only [bndD, List.length_singleton, show decide (((1 : Nat) : Int) = 0) = false from rfl, show decide (((1 : Nat) : Int) = 1) = true from rfl, Bool.false_or]
  by_cases e : [c] = w ++ c :: r
  · rw [decide_eq_true e, bif_tt, bnoS]
    have := congrArg List.length e
    simp at this
    rw [show w.length = 0 by omega]; rfl
  · rw [decide_eq_false e, bif_ff, bif_tt, show gix [c] 0 = some c from rfl]
    simp only [bnoS, idx_yes h]
theorem split_end {v : List (List UInt8)} {w : List UInt8} {done : List (List UInt8)} (hd : done.length ≤ 1000000) : strings_genSplit_J2 w (done ++ [v.headD []]) (done.length : Int) = some (done ++ [w]) := by
  unfold strings_genSplit_J2
  have hl : (done ++ [v.headD []]) = done ++ (v.headD []) :: [] := rfl
  have hg : (done ++ [v.headD []])[((done.length : Nat) : Int).toNat]? = some (v.headD []) := by rw [Int.toNat_natCast]; exact get_at0
  rw [gix_at hl, bnoS, hg, bnoS, bndD, bndD, Int.toNat_natCast, w64 (by omega) (by omega)]
  have hs : (done ++ [v.headD []]).set done.length w = done ++ [w] := by rw [List.set_append_right _ _ (Nat.le_refl _)]; simp
  rw [hs, cut_of (by omega) (by simp), bnoS]
  have : ((done.length : Int) + 1).toNat = (done ++ [w]).length := by simp
  rw [this, List.take_length]
where
  get_at0 {α : Type} {p : List α} {x : α} : (p ++ [x])[p.length]? = some x := by simp
theorem split_L {c : UInt8} {N : Nat} (hN : N ≤ 1000000) : ∀ (rest done : List (List UInt8)) (f : Nat), rest ≠ [] → (∀ w ∈ rest, c ∉ w) → done.length + rest.length = N → (joinL c rest).length ≤ 1000000 → rest.length < f →
    strings_genSplit_L3 [c] 0 ((N : Int) - 1) f (joinL c rest) (done ++ List.replicate rest.length []) (done.length : Int) = some (done ++ rest)
  | [], _, _, h, _, _, _, _ => absurd rfl h
  | [w], done, f + 1, _, hc, hn, hl, _ => by
    simp only [List.length_singleton] at hn
    rw [strings_genSplit_L3]
    simp only [bndD]
    rw [decide_eq_false (by omega), bif_ff]
    exact split_end (v := []) (by omega)
  | w :: v :: ws, done, f + 1, _, hc, hn, hl, hf => by
    have hcw : c ∉ w := hc w (by simp)
    have hj : joinL c (w :: v :: ws) = w ++ c :: joinL c (v :: ws) := rfl
    simp only [List.length_cons] at hn hf
    have hlw : w.length + ((joinL c (v :: ws)).length + 1) ≤ 1000000 := by rw [hj] at hl; simpa using hl
    have hrec := split_L hN (v :: ws) (done ++ [w]) f (by simp) (fun x hx => hc x (by simp [hx])) (by simp; omega) (by omega) (by simp; omega)
    rw [strings_genSplit_L3]
    simp only [bndD]
    rw [decide_eq_true (by omega), bif_tt, hj, sidx_yes hcw, bnoS, decide_eq_false (by omega), bif_ff, w64 (by omega) (by omega), Int.add_zero]
    rw [cut_at (p := w) (r := c :: joinL c (v :: ws)) rfl, bnoS]
    have hl2 : (done ++ List.replicate (w :: v :: ws).length ([] : List UInt8)) = done ++ [] :: List.replicate (v :: ws).length [] := rfl
    have hg : (done ++ List.replicate (w :: v :: ws).length ([] : List UInt8))[((done.length : Nat) : Int).toNat]? = some [] := by
      rw [Int.toNat_natCast, hl2, List.getElem?_append_right (Nat.le_refl _)]; simp
    rw [gix_at hl2, bnoS, hg, bnoS]
    have hs : (done ++ List.replicate (w :: v :: ws).length ([] : List UInt8)).set (((done.length : Nat) : Int).toNat) w = (done ++ [w]) ++ List.replicate (v :: ws).length [] := by
      rw [Int.toNat_natCast, hl2, List.set_append_right _ _ (Nat.le_refl _)]; simp
    rw [hs, w64 (by simp; omega) (by simp; omega), show ((w.length : Int) + ((([c] : List UInt8).length : Nat) : Int)) = ((w ++ [c]).length : Int) by simp,
      cut_from (p := w ++ [c]) (r := joinL c (v :: ws)) (by simp), bnoS, w64 (by omega) (by omega)]
    rw [show ((done.length : Int) + 1) = ((done ++ [w]).length : Int) by simp]
    rw [hrec, List.append_assoc]; rfl
theorem split35 {c : UInt8} {ws : List (List UInt8)} (h0 : ws ≠ []) (hc : ∀ w ∈ ws, c ∉ w) (hl : (joinL c ws).length ≤ 900000) : strings_Split (joinL c ws) [c] = some ws := by
  have hcnt := count_join h0 hc
  have hcl : (joinL c ws).count c ≤ (joinL c ws).length := List.count_le_length
  have hw : 0 < ws.length := List.length_pos_iff.2 h0
  have hL := split_L (N := ws.length) (by omega) ws [] fuel h0 hc (by simp) (by omega) (fuel_gt (by omega))
  unfold strings_Split strings_genSplit
  rw [bndD, show decide ((-1 : Int) = 0) = false from rfl, bif_ff, bndD, decide_eq_false (by simp), bif_ff, bndD, show decide ((-1 : Int) < 0) = true from rfl, bif_tt]
  have hC : strings_Count (joinL c ws) [c] = some ((ws.length : Int) - 1) := by
    unfold strings_Count
    rw [bndD, List.length_singleton, show decide (((1 : Nat) : Int) = 0) = false from rfl, bif_ff, bndD, show decide (((1 : Nat) : Int) = 1) = true from rfl, bif_tt, show gix [c] 0 = some c from rfl, bnoS, bndD]
    unfold cntB Lib.countByte
    rw [u8_int]
    congr 1; omega
  rw [hC, bnoS, bndD, w64 (by omega) (by omega)]
  unfold strings_genSplit_J0
  rw [bndD, bndD, w64 (by omega) (by omega), show min ((ws.length : Int) - 1 + 1) (((joinL c ws).length : Int) + 1) = (ws.length : Int) by omega, made_ok (by omega) (by omega) (by omega), bnoS, bndD, w64 (by omega) (by omega), Int.toNat_natCast]
  have hL : strings_genSplit_L3 [c] 0 ((ws.length : Int) - 1) fuel (joinL c ws) (List.replicate ws.length []) 0 = some ws := hL
  rw [hL, bnoS]
/-- Any text is what it is parted to, joined. -/
def splitL (c : UInt8) : List UInt8 → List (List UInt8)
  | [] => [[]]
  | b :: l => if b = c then [] :: splitL c l else match splitL c l with
    | [] => [[b]]
    | w :: ws => (b :: w) :: ws
theorem splitL_ne (c : UInt8) : ∀ l, splitL c l ≠ []
  | [] => by simp [splitL]
  | b :: l => by
    unfold splitL
    split
    · simp
    · split <;> simp
theorem join_split (c : UInt8) : ∀ l, joinL c (splitL c l) = l
  | [] => rfl
  | b :: l => by
    have ih := join_split c l
    have hne := splitL_ne c l
    unfold splitL
    split
    · rename_i e
      rw [joinL_cons hne, ih, e]; rfl
    · split
      · rename_i e; exact absurd e hne
      · rename_i w ws e
        rw [e] at ih
        cases ws with
        | nil => show b :: w = b :: l; rw [← ih]; rfl
        | cons v ws => rw [joinL_cons (by simp)] at ih ⊢; rw [← ih]; rfl
theorem split_free (c : UInt8) : ∀ l, ∀ w ∈ splitL c l, c ∉ w
  | [], w, h => by
    rw [List.mem_singleton.1 h]; simp
  | b :: l, w, h => by
    have ih := split_free c l
    unfold splitL at h
    split at h
    · rcases List.mem_cons.1 h with e | h
      · rw [e]; simp
      · exact ih w h
    · rename_i hb
      split at h
      · rw [List.mem_singleton.1 h]; simpa using fun e => hb e.symm
      · rename_i u us e
        rcases List.mem_cons.1 h with e2 | h
        · rw [e2]
          have := ih u (by rw [e]; simp)
          simp only [List.mem_cons, not_or]
          exact ⟨fun e3 => hb e3.symm, this⟩
        · exact ih w (by rw [e]; simp [h])
theorem splitA {c : UInt8} {s : List UInt8} (hl : s.length ≤ 900000) : strings_Split s [c] = some (splitL c s) := by
  have := split35 (splitL_ne c s) (split_free c s) (by rw [join_split]; exact hl)
  rwa [join_split] at this
end Go.Fn
set_option linter.unusedSimpArgs false
set_option linter.unusedVariables false
open Go Go.IL
namespace Go.Fn
structure T_world_Step where
  Kind : Int
  Side : Int
  ID : Int
  N : Int
  M : Int
  Path : Int
  Text : (List UInt8)
  Flag : Bool
  deriving DecidableEq, Inhabited
def E_world_Step : Enc T_world_Step := ⟨⟨fun x => .agg [.int .u8 x.Kind, .int .i64 x.Side, .int .i64 x.ID, .int .i64 x.N, .int .i64 x.M, .int .i64 x.Path, .str x.Text, .bool x.Flag], 8, by decide, fun _ => ⟨rfl, rfl⟩⟩, fun _ => rfl⟩

structure T_console_form where
  name : (List UInt8)
  has : (List UInt8)
  deriving DecidableEq, Inhabited
def E_console_form : Enc T_console_form := ⟨⟨fun x => .agg [.str x.name, .str x.has], 2, by decide, fun _ => ⟨rfl, rfl⟩⟩, fun _ => rfl⟩

structure T_session_Event where
  Kind : Int
  ID : Int
  Code : Int
  deriving DecidableEq, Inhabited
def E_session_Event : Enc T_session_Event := ⟨⟨fun x => .agg [.int .i64 x.Kind, .int .i64 x.ID, .int .i64 x.Code], 3, by decide, fun _ => ⟨rfl, rfl⟩⟩, fun _ => rfl⟩

structure T_world_Answer where
  N : Int
  E : Int
  Text : (List UInt8)
  End : Bool
  Events : (List T_session_Event)
  deriving DecidableEq, Inhabited
def console_forms  : Option (List T_console_form) :=
  some (([(⟨[111, 112, 101, 110], [115, 105, 110, 102]⟩ : T_console_form), (⟨[119, 114, 105, 116, 101], [115, 105, 116]⟩ : T_console_form), (⟨[99, 108, 111, 115, 101], [115, 105]⟩ : T_console_form), (⟨[114, 101, 97, 100], [115, 105, 110]⟩ : T_console_form), (⟨[114, 101, 115, 101, 116], [115, 105, 110]⟩ : T_console_form), (⟨[109, 111, 118, 101], [115, 105, 109, 110, 102]⟩ : T_console_form), (⟨[112, 105, 110, 103], [115, 110]⟩ : T_console_form), (⟨[97, 119, 97, 121], [115]⟩ : T_console_form), (⟨[116, 105, 99, 107], [110]⟩ : T_console_form), (⟨[107, 105, 108, 108], [115, 112]⟩ : T_console_form), (⟨[115, 101, 110, 100], [115, 112]⟩ : T_console_form), (⟨[99, 111, 109, 101], [110, 102]⟩ : T_console_form), (⟨[100, 114, 111, 112], [110]⟩ : T_console_form), (⟨[102, 108, 105, 112], [110, 109, 105]⟩ : T_console_form), (⟨[102, 111, 114, 103, 101], [115, 112, 116]⟩ : T_console_form), (⟨[116, 101, 108, 108], [115]⟩ : T_console_form)] : (List T_console_form)))

def console_Names_L0 (x1 : (List T_console_form)) : Nat → (List (List UInt8)) → Int → Option (List (List UInt8))
  | 0, _, _ => none
  | n0 + 1, v7, v8 =>
    bnd (decide (v8 < (x1.length : Int))) fun x14 =>
    bif x14 then (
      bno (gix x1 v8) fun x16 =>
      bno (app 16 v7 ([x16.name] : (List (List UInt8)))) fun x17 =>
      bnd (IntKind.wrap .i64 (v8 + 1)) fun x18 =>
      (console_Names_L0 x1 n0) x17 x18
    ) else (
      some v7
    )
def console_Names  : Option (List (List UInt8)) :=
  bno (console_forms) fun x1 =>
  console_Names_L0 x1 fuel ([] : (List (List UInt8))) 0

def slices_Index_string_string_L0 (a0 : (List (List UInt8))) (a1 : (List UInt8)) : Nat → Int → Option Int
  | 0, _ => none
  | n0 + 1, v7 =>
    bnd (decide (v7 < (a0.length : Int))) fun x14 =>
    bif x14 then (
      bno (gix a0 v7) fun x16 =>
      bnd (decide (a1 = x16)) fun x17 =>
      bif x17 then (
        some v7
      ) else (
        bnd (IntKind.wrap .i64 (v7 + 1)) fun x19 =>
        (slices_Index_string_string_L0 a0 a1 n0) x19
      )
    ) else (
      some (-1)
    )
def slices_Index_string_string (a0 : (List (List UInt8))) (a1 : (List UInt8)) : Option Int :=
  slices_Index_string_string_L0 a0 a1 fuel 0

def console_whole_L0 (a0 : (List UInt8)) : Nat → Int → Int → Option (Int × Bool)
  | 0, _, _ => none
  | n0 + 1, v22, v23 =>
    bnd (decide (v23 < (a0.length : Int))) fun x36 =>
    bif x36 then (
      bno (gix a0 v23) fun x38 =>
      bnd (decide ((x38.toNat : Int) < 48)) fun x39 =>
      bnd (decide (57 < (x38.toNat : Int))) fun x40 =>
      bnd (x39 || x40) fun x41 =>
      bif x41 then (
        some (0, false)
      ) else (
        bnd (IntKind.wrap .i64 (10 * v22)) fun x43 =>
        bnd (IntKind.wrap .u8 ((x38.toNat : Int) - 48)) fun x44 =>
        bnd (IntKind.wrap .i64 x44) fun x45 =>
        bnd (IntKind.wrap .i64 (x43 + x45)) fun x46 =>
        bnd (IntKind.wrap .i64 (v23 + 1)) fun x47 =>
        (console_whole_L0 a0 n0) x46 x47
      )
    ) else (
      some (v22, true)
    )
def console_whole (a0 : (List UInt8)) : Option (Int × Bool) :=
  bnd (decide (a0 = ([] : List UInt8))) fun x1 =>
  bnd (decide (9 < (a0.length : Int))) fun x2 =>
  bnd (x1 || x2) fun x3 =>
  bnd (decide (1 < (a0.length : Int))) fun x4 =>
  bno (gd ((x3 == false) && (x4 == true)) (gix a0 0) 0) fun x5 =>
  bnd (decide ((x5.toNat : Int) = 48)) fun x6 =>
  bnd (x4 && x6) fun x7 =>
  bnd (x3 || x7) fun x8 =>
  bif x8 then (
    some (0, false)
  ) else (
    console_whole_L0 a0 fuel 0 0
  )

def strings_IndexByte (a0 : (List UInt8)) (a1 : Int) : Option Int :=
  bno (internal_stringslite_IndexByte a0 a1) fun x1 =>
  some x1

def console_text_L0 (a0 : (List UInt8)) : Nat → (List UInt8) → Int → Option ((List UInt8) × Bool)
  | 0, _, _ => none
  | n0 + 1, v28, v29 =>
    bnd (decide (v29 < (a0.length : Int))) fun x48 =>
    bif x48 then (
      bno (gix a0 v29) fun x50 =>
      bno (strings_IndexByte [48, 49, 50, 51, 52, 53, 54, 55, 56, 57, 97, 98, 99, 100, 101, 102] (x50.toNat : Int)) fun x51 =>
      bnd (decide (x51 < 0)) fun x52 =>
      bif x52 then (
        some ([], false)
      ) else (
        bno (quoI .i64 v29 2) fun x54 =>
        bno (quoI .i64 v29 2) fun x55 =>
        bno (gix v28 x55) fun x56 =>
        bno (v28[(x55 : Int).toNat]?) fun x57 =>
        bno (shlI .u8 (x57.toNat : Int) 4) fun x58 =>
        bnd (IntKind.wrap .u8 x51) fun x59 =>
        bnd (orI .u8 x58 x59) fun x60 =>
        bno (gix v28 x54) fun x61 =>
        bno (v28[(x54 : Int).toNat]?) fun x62 =>
        bno (toU8 x60) fun x63 =>
        bnd (v28.set ((x54 : Int).toNat) x63) fun x64 =>
        bnd (IntKind.wrap .i64 (v29 + 1)) fun x65 =>
        (console_text_L0 a0 n0) x64 x65
      )
    ) else (
      some (v28, true)
    )
def console_text (a0 : (List UInt8)) : Option ((List UInt8) × Bool) :=
  bnd (decide (a0 = ([45] : List UInt8))) fun x1 =>
  bif x1 then (
    some ([], true)
  ) else (
    bnd (decide (a0 = ([] : List UInt8))) fun x3 =>
    bno (gd (x3 == false) (remI (a0.length : Int) 2) 0) fun x4 =>
    bnd (decide (x4 = 1)) fun x5 =>
    bnd (x3 || x5) fun x6 =>
    bif x6 then (
      some ([], false)
    ) else (
      bno (quoI .i64 (a0.length : Int) 2) fun x8 =>
      bno (made 1 x8 (0 : UInt8)) fun x9 =>
      console_text_L0 a0 fuel x9 0
    )
  )

def console_put_h (a0 : Int) (a1 : (List UInt8)) (a2 : T_world_Step) : Option (Bool × T_world_Step) :=
  bnd (decide (a0 = 115)) fun x1 =>
  bif x1 then (
    bno (console_whole a1) fun x3 =>
    bnd (!decide (a0 = 115)) fun x4 =>
    bnd (decide (x3.1 < 2)) fun x5 =>
    bnd (x4 || x5) fun x6 =>
    bnd (x3.2 && x6) fun x7 =>
    some (x7, (⟨a2.Kind, x3.1, a2.ID, a2.N, a2.M, a2.Path, a2.Text, a2.Flag⟩ : T_world_Step))
  ) else (
    bnd (decide (a0 = 105)) fun x8 =>
    bif x8 then (
      bno (console_whole a1) fun x10 =>
      bnd (!decide (a0 = 115)) fun x11 =>
      bnd (decide (x10.1 < 2)) fun x12 =>
      bnd (x11 || x12) fun x13 =>
      bnd (x10.2 && x13) fun x14 =>
      some (x14, (⟨a2.Kind, a2.Side, x10.1, a2.N, a2.M, a2.Path, a2.Text, a2.Flag⟩ : T_world_Step))
    ) else (
      bnd (decide (a0 = 110)) fun x15 =>
      bif x15 then (
        bno (console_whole a1) fun x17 =>
        bnd (!decide (a0 = 115)) fun x18 =>
        bnd (decide (x17.1 < 2)) fun x19 =>
        bnd (x18 || x19) fun x20 =>
        bnd (x17.2 && x20) fun x21 =>
        some (x21, (⟨a2.Kind, a2.Side, a2.ID, x17.1, a2.M, a2.Path, a2.Text, a2.Flag⟩ : T_world_Step))
      ) else (
        bnd (decide (a0 = 109)) fun x22 =>
        bif x22 then (
          bno (console_whole a1) fun x24 =>
          bnd (!decide (a0 = 115)) fun x25 =>
          bnd (decide (x24.1 < 2)) fun x26 =>
          bnd (x25 || x26) fun x27 =>
          bnd (x24.2 && x27) fun x28 =>
          some (x28, (⟨a2.Kind, a2.Side, a2.ID, a2.N, x24.1, a2.Path, a2.Text, a2.Flag⟩ : T_world_Step))
        ) else (
          bnd (decide (a0 = 112)) fun x29 =>
          bif x29 then (
            bno (console_whole a1) fun x31 =>
            bnd (!decide (a0 = 115)) fun x32 =>
            bnd (decide (x31.1 < 2)) fun x33 =>
            bnd (x32 || x33) fun x34 =>
            bnd (x31.2 && x34) fun x35 =>
            some (x35, (⟨a2.Kind, a2.Side, a2.ID, a2.N, a2.M, x31.1, a2.Text, a2.Flag⟩ : T_world_Step))
          ) else (
            bnd (decide (a0 = 116)) fun x36 =>
            bif x36 then (
              bno (console_text a1) fun x38 =>
              some (x38.2, (⟨a2.Kind, a2.Side, a2.ID, a2.N, a2.M, a2.Path, x38.1, a2.Flag⟩ : T_world_Step))
            ) else (
              bnd (decide (a1 = ([43] : List UInt8))) fun x39 =>
              bnd (decide (a1 = ([45] : List UInt8))) fun x40 =>
              bnd (x39 || x40) fun x41 =>
              some (x41, (⟨a2.Kind, a2.Side, a2.ID, a2.N, a2.M, a2.Path, a2.Text, x39⟩ : T_world_Step))
            )
          )
        )
      )
    )
  )

def console_Parse_L0 (x6 : (List (List UInt8))) (x13 : T_console_form) : Nat → Int → Int → Int → Int → Int → Int → Int → (List UInt8) → Bool → Option (T_world_Step × Int)
  | 0, _, _, _, _, _, _, _, _, _ => none
  | n0 + 1, v26, v27, v28, v29, v30, v31, v32, v33, v34 =>
    bnd (decide (v26 < (x13.has.length : Int))) fun x43 =>
    bif x43 then (
      bno (gix x13.has v26) fun x45 =>
      bnd (IntKind.wrap .i64 (v26 + 1)) fun x46 =>
      bno (gix x6 x46) fun x47 =>
      bno (console_put_h (x45.toNat : Int) x47 (⟨v27, v28, v29, v30, v31, v32, v33, v34⟩ : T_world_Step)) fun x48 =>
      bif (!x48.1) then (
        some ((⟨0, 0, 0, 0, 0, 0, [], false⟩ : T_world_Step), 60)
      ) else (
        bnd (IntKind.wrap .i64 (v26 + 1)) fun x50 =>
        (console_Parse_L0 x6 x13 n0) x50 x48.2.Kind x48.2.Side x48.2.ID x48.2.N x48.2.M x48.2.Path x48.2.Text x48.2.Flag
      )
    ) else (
      bnd (decide (300 < (v33.length : Int))) fun x51 =>
      bif x51 then (
        some ((⟨0, 0, 0, 0, 0, 0, [], false⟩ : T_world_Step), 5)
      ) else (
        some ((⟨v27, v28, v29, v30, v31, v32, v33, v34⟩ : T_world_Step), 0)
      )
    )
def console_Parse (a0 : (List UInt8)) : Option (T_world_Step × Int) :=
  bnd (decide (a0 = ([] : List UInt8))) fun x1 =>
  bno (gd (x1 == false) (gix a0 0) 0) fun x2 =>
  bnd (decide ((x2.toNat : Int) = 35)) fun x3 =>
  bnd (x1 || x3) fun x4 =>
  bif x4 then (
    some ((⟨0, 0, 0, 0, 0, 0, [], false⟩ : T_world_Step), 6)
  ) else (
    bno (strings_Split a0 [32]) fun x6 =>
    bno (console_Names) fun x7 =>
    bno (gix x6 0) fun x8 =>
    bno (slices_Index_string_string x7 x8) fun x9 =>
    bnd (decide (x9 < 0)) fun x10 =>
    bif x10 then (
      some ((⟨0, 0, 0, 0, 0, 0, [], false⟩ : T_world_Step), 12)
    ) else (
      bno (console_forms) fun x12 =>
      bno (gix x12 x9) fun x13 =>
      bnd (IntKind.wrap .i64 ((x13.has.length : Int) + 1)) fun x14 =>
      bnd (!decide ((x6.length : Int) = x14)) fun x15 =>
      bif x15 then (
        some ((⟨0, 0, 0, 0, 0, 0, [], false⟩ : T_world_Step), 60)
      ) else (
        bnd (IntKind.wrap .u8 x9) fun x17 =>
        console_Parse_L0 x6 x13 fuel 0 x17 0 0 0 0 0 ([] : (List UInt8)) false
      )
    )
  )

def console_bare_L0 (a0 : T_world_Step) (a1 : (List UInt8)) : Nat → Bool → Int → Int → Int → Int → Int → Int → (List UInt8) → Bool → Option (T_world_Step × Bool)
  | 0, _, _, _, _, _, _, _, _, _ => none
  | n0 + 1, v69, v70, v71, v72, v73, v74, v75, v76, v77 =>
    bnd (decide (v70 < (a1.length : Int))) fun x146 =>
    bif x146 then (
      bno (gix a1 v70) fun x148 =>
      bnd (decide ((x148.toNat : Int) = 115)) fun x149 =>
      bif x149 then (
        bnd (decide (0 ≤ v71)) fun x151 =>
        bnd (v69 && x151) fun x152 =>
        bnd (decide (v71 ≤ 999999999)) fun x153 =>
        bnd (x152 && x153) fun x154 =>
        bno (gd (x154 == true) (gix a1 v70) 0) fun x155 =>
        bnd (!decide ((x155.toNat : Int) = 115)) fun x156 =>
        bnd (decide (v71 < 2)) fun x157 =>
        bnd (x156 || x157) fun x158 =>
        bnd (x154 && x158) fun x159 =>
        bnd (IntKind.wrap .i64 (v70 + 1)) fun x160 =>
        (console_bare_L0 a0 a1 n0) x159 x160 0 v72 v73 v74 v75 v76 v77
      ) else (
        bnd (decide ((x148.toNat : Int) = 105)) fun x161 =>
        bif x161 then (
          bnd (decide (0 ≤ v72)) fun x163 =>
          bnd (v69 && x163) fun x164 =>
          bnd (decide (v72 ≤ 999999999)) fun x165 =>
          bnd (x164 && x165) fun x166 =>
          bno (gd (x166 == true) (gix a1 v70) 0) fun x167 =>
          bnd (!decide ((x167.toNat : Int) = 115)) fun x168 =>
          bnd (decide (v72 < 2)) fun x169 =>
          bnd (x168 || x169) fun x170 =>
          bnd (x166 && x170) fun x171 =>
          bnd (IntKind.wrap .i64 (v70 + 1)) fun x172 =>
          (console_bare_L0 a0 a1 n0) x171 x172 v71 0 v73 v74 v75 v76 v77
        ) else (
          bnd (decide ((x148.toNat : Int) = 110)) fun x173 =>
          bif x173 then (
            bnd (decide (0 ≤ v73)) fun x175 =>
            bnd (v69 && x175) fun x176 =>
            bnd (decide (v73 ≤ 999999999)) fun x177 =>
            bnd (x176 && x177) fun x178 =>
            bno (gd (x178 == true) (gix a1 v70) 0) fun x179 =>
            bnd (!decide ((x179.toNat : Int) = 115)) fun x180 =>
            bnd (decide (v73 < 2)) fun x181 =>
            bnd (x180 || x181) fun x182 =>
            bnd (x178 && x182) fun x183 =>
            bnd (IntKind.wrap .i64 (v70 + 1)) fun x184 =>
            (console_bare_L0 a0 a1 n0) x183 x184 v71 v72 0 v74 v75 v76 v77
          ) else (
            bnd (decide ((x148.toNat : Int) = 109)) fun x185 =>
            bif x185 then (
              bnd (decide (0 ≤ v74)) fun x187 =>
              bnd (v69 && x187) fun x188 =>
              bnd (decide (v74 ≤ 999999999)) fun x189 =>
              bnd (x188 && x189) fun x190 =>
              bno (gd (x190 == true) (gix a1 v70) 0) fun x191 =>
              bnd (!decide ((x191.toNat : Int) = 115)) fun x192 =>
              bnd (decide (v74 < 2)) fun x193 =>
              bnd (x192 || x193) fun x194 =>
              bnd (x190 && x194) fun x195 =>
              bnd (IntKind.wrap .i64 (v70 + 1)) fun x196 =>
              (console_bare_L0 a0 a1 n0) x195 x196 v71 v72 v73 0 v75 v76 v77
            ) else (
              bnd (decide ((x148.toNat : Int) = 112)) fun x197 =>
              bif x197 then (
                bnd (decide (0 ≤ v75)) fun x199 =>
                bnd (v69 && x199) fun x200 =>
                bnd (decide (v75 ≤ 999999999)) fun x201 =>
                bnd (x200 && x201) fun x202 =>
                bno (gd (x202 == true) (gix a1 v70) 0) fun x203 =>
                bnd (!decide ((x203.toNat : Int) = 115)) fun x204 =>
                bnd (decide (v75 < 2)) fun x205 =>
                bnd (x204 || x205) fun x206 =>
                bnd (x202 && x206) fun x207 =>
                bnd (IntKind.wrap .i64 (v70 + 1)) fun x208 =>
                (console_bare_L0 a0 a1 n0) x207 x208 v71 v72 v73 v74 0 v76 v77
              ) else (
                bno (gix a1 v70) fun x209 =>
                bnd (decide ((x209.toNat : Int) = 116)) fun x210 =>
                bif x210 then (
                  bnd (IntKind.wrap .i64 (v70 + 1)) fun x212 =>
                  (console_bare_L0 a0 a1 n0) v69 x212 v71 v72 v73 v74 v75 ([] : (List UInt8)) v77
                ) else (
                  bnd (IntKind.wrap .i64 (v70 + 1)) fun x213 =>
                  (console_bare_L0 a0 a1 n0) v69 x213 v71 v72 v73 v74 v75 v76 false
                )
              )
            )
          )
        )
      )
    ) else (
      some ((⟨a0.Kind, v71, v72, v73, v74, v75, v76, v77⟩ : T_world_Step), v69)
    )
def console_bare (a0 : T_world_Step) (a1 : (List UInt8)) : Option (T_world_Step × Bool) :=
  console_bare_L0 a0 a1 fuel true 0 a0.Side a0.ID a0.N a0.M a0.Path a0.Text a0.Flag

def console_hex_L0 (a0 : (List UInt8)) : Nat → (List UInt8) → Int → Option (List UInt8)
  | 0, _, _ => none
  | n0 + 1, v13, v14 =>
    bnd (decide (v14 < (a0.length : Int))) fun x25 =>
    bif x25 then (
      bno (gix a0 v14) fun x27 =>
      bno (shrI .u8 (x27.toNat : Int) 4) fun x28 =>
      bno (gix ([48, 49, 50, 51, 52, 53, 54, 55, 56, 57, 97, 98, 99, 100, 101, 102] : List UInt8) x28) fun x29 =>
      bno (gix a0 v14) fun x30 =>
      bnd (andI .u8 (x30.toNat : Int) 15) fun x31 =>
      bno (gix ([48, 49, 50, 51, 52, 53, 54, 55, 56, 57, 97, 98, 99, 100, 101, 102] : List UInt8) x31) fun x32 =>
      bno (app 1 v13 ([x29, x32] : (List UInt8))) fun x33 =>
      bnd (IntKind.wrap .i64 (v14 + 1)) fun x34 =>
      (console_hex_L0 a0 n0) x33 x34
    ) else (
      some v13
    )
def console_hex (a0 : (List UInt8)) : Option (List UInt8) :=
  bnd (decide (a0 = ([] : List UInt8))) fun x1 =>
  bif x1 then (
    some [45]
  ) else (
    console_hex_L0 a0 fuel ([] : (List UInt8)) 0
  )

def console_mark (a0 : Bool) : Option (List UInt8) :=
  bif a0 then (
    some [43]
  ) else (
    some [45]
  )

def strings_Join (a0 : (List (List UInt8))) (a1 : (List UInt8)) : Option (List UInt8) := joinS a0 a1

def console_Print_L1 (a0 : T_world_Step) (x5 : T_console_form) : Nat → (List (List UInt8)) → Int → Option ((List UInt8) × Int)
  | 0, _, _ => none
  | n1 + 1, v50, v51 =>
    bnd (decide (v51 < (x5.has.length : Int))) fun x89 =>
    bif x89 then (
      bno (gix x5.has v51) fun x91 =>
      bnd (decide ((x91.toNat : Int) = 115)) fun x92 =>
      bif x92 then (
        bno (strconv_Itoa a0.Side) fun x94 =>
        bno (app 16 v50 ([x94] : (List (List UInt8)))) fun x95 =>
        bnd (IntKind.wrap .i64 (v51 + 1)) fun x96 =>
        (console_Print_L1 a0 x5 n1) x95 x96
      ) else (
        bnd (decide ((x91.toNat : Int) = 105)) fun x97 =>
        bif x97 then (
          bno (strconv_Itoa a0.ID) fun x99 =>
          bno (app 16 v50 ([x99] : (List (List UInt8)))) fun x100 =>
          bnd (IntKind.wrap .i64 (v51 + 1)) fun x101 =>
          (console_Print_L1 a0 x5 n1) x100 x101
        ) else (
          bnd (decide ((x91.toNat : Int) = 110)) fun x102 =>
          bif x102 then (
            bno (strconv_Itoa a0.N) fun x104 =>
            bno (app 16 v50 ([x104] : (List (List UInt8)))) fun x105 =>
            bnd (IntKind.wrap .i64 (v51 + 1)) fun x106 =>
            (console_Print_L1 a0 x5 n1) x105 x106
          ) else (
            bnd (decide ((x91.toNat : Int) = 109)) fun x107 =>
            bif x107 then (
              bno (strconv_Itoa a0.M) fun x109 =>
              bno (app 16 v50 ([x109] : (List (List UInt8)))) fun x110 =>
              bnd (IntKind.wrap .i64 (v51 + 1)) fun x111 =>
              (console_Print_L1 a0 x5 n1) x110 x111
            ) else (
              bnd (decide ((x91.toNat : Int) = 112)) fun x112 =>
              bif x112 then (
                bno (strconv_Itoa a0.Path) fun x114 =>
                bno (app 16 v50 ([x114] : (List (List UInt8)))) fun x115 =>
                bnd (IntKind.wrap .i64 (v51 + 1)) fun x116 =>
                (console_Print_L1 a0 x5 n1) x115 x116
              ) else (
                bno (gix x5.has v51) fun x117 =>
                bnd (decide ((x117.toNat : Int) = 116)) fun x118 =>
                bif x118 then (
                  bno (console_hex a0.Text) fun x120 =>
                  bno (app 16 v50 ([x120] : (List (List UInt8)))) fun x121 =>
                  bnd (IntKind.wrap .i64 (v51 + 1)) fun x122 =>
                  (console_Print_L1 a0 x5 n1) x121 x122
                ) else (
                  bno (console_mark a0.Flag) fun x123 =>
                  bno (app 16 v50 ([x123] : (List (List UInt8)))) fun x124 =>
                  bnd (IntKind.wrap .i64 (v51 + 1)) fun x125 =>
                  (console_Print_L1 a0 x5 n1) x124 x125
                )
              )
            )
          )
        )
      )
    ) else (
      bno (strings_Join v50 [32]) fun x126 =>
      some (x126, 0)
    )
def console_Print_J0 (a0 : T_world_Step) (x5 : T_console_form) (v9 : Bool) : Option ((List UInt8) × Int) :=
  bif v9 then (
    some ([], 2)
  ) else (
    bnd (decide (300 < (a0.Text.length : Int))) fun x11 =>
    bif x11 then (
      some ([], 5)
    ) else (
      console_Print_L1 a0 x5 fuel ([x5.name] : (List (List UInt8))) 0
    )
  )
def console_Print (a0 : T_world_Step) : Option ((List UInt8) × Int) :=
  bno (console_forms) fun x1 =>
  bnd (IntKind.wrap .i64 a0.Kind) fun x2 =>
  bnd (decide ((x1.length : Int) ≤ x2)) fun x3 =>
  bif x3 then (
    some ([], 12)
  ) else (
    bno (gix x1 a0.Kind) fun x5 =>
    bno (console_bare a0 x5.has) fun x6 =>
    bif (!x6.2) then (
      console_Print_J0 a0 x5 (!x6.2)
    ) else (
      bnd ((decide (x6.1.Kind = a0.Kind) && (decide (x6.1.Side = 0) && (decide (x6.1.ID = 0) && (decide (x6.1.N = 0) && (decide (x6.1.M = 0) && (decide (x6.1.Path = 0) && (decide (x6.1.Text = ([] : List UInt8)) && ((x6.1.Flag == false) && true))))))))) fun x128 =>
      console_Print_J0 a0 x5 (!x128)
    )
  )

def internal_stringslite_Cut (a0 : (List UInt8)) (a1 : (List UInt8)) : Option ((List UInt8) × (List UInt8) × Bool) :=
  bno (internal_stringslite_Index a0 a1) fun x1 =>
  bnd (decide (0 ≤ x1)) fun x2 =>
  bif x2 then (
    bno (cut a0 0 x1) fun x4 =>
    bnd (IntKind.wrap .i64 (x1 + (a1.length : Int))) fun x5 =>
    bno (cut a0 x5 (a0.length : Int)) fun x6 =>
    some (x4, x6, true)
  ) else (
    some (a0, [], false)
  )

def strings_Cut (a0 : (List UInt8)) (a1 : (List UInt8)) : Option ((List UInt8) × (List UInt8) × Bool) :=
  bno (internal_stringslite_Cut a0 a1) fun x1 =>
  some (x1.1, x1.2.1, x1.2.2)

def console_Script_L0  : Nat → (List UInt8) → (List T_world_Step) → Int → Option ((List T_world_Step) × Int × Int)
  | 0, _, _, _ => none
  | n0 + 1, v12, v13, v14 =>
    bnd (!decide (v12 = ([] : List UInt8))) fun x26 =>
    bif x26 then (
      bno (strings_Cut v12 [10]) fun x28 =>
      bno (console_Parse x28.1) fun x29 =>
      bnd (decide (x29.2 = 0)) fun x30 =>
      bif x30 then (
        bno (app 72 v13 ([x29.1] : (List T_world_Step))) fun x32 =>
        bnd (IntKind.wrap .i64 (v14 + 1)) fun x33 =>
        (console_Script_L0 n0) x28.2.1 x32 x33
      ) else (
        bnd (decide (x29.2 = 6)) fun x34 =>
        bif x34 then (
          bnd (IntKind.wrap .i64 (v14 + 1)) fun x36 =>
          (console_Script_L0 n0) x28.2.1 v13 x36
        ) else (
          some ([], v14, x29.2)
        )
      )
    ) else (
      some (v13, 0, 0)
    )
def console_Script (a0 : (List UInt8)) : Option ((List T_world_Step) × Int × Int) :=
  console_Script_L0 fuel a0 ([] : (List T_world_Step)) 1

def console_Tell_L0 (a0 : T_world_Answer) : Nat → (List (List UInt8)) → Int → Option (List UInt8)
  | 0, _, _ => none
  | n0 + 1, v17, v18 =>
    bnd (decide (v18 < (a0.Events.length : Int))) fun x31 =>
    bif x31 then (
      bno (gix a0.Events v18) fun x33 =>
      bno (strconv_Itoa x33.Kind) fun x34 =>
      bno (cat x34 ([58] : List UInt8)) fun x35 =>
      bno (strconv_Itoa x33.ID) fun x36 =>
      bno (cat x35 x36) fun x37 =>
      bno (cat x37 ([58] : List UInt8)) fun x38 =>
      bno (strconv_Itoa x33.Code) fun x39 =>
      bno (cat x38 x39) fun x40 =>
      bno (app 16 v17 ([x40] : (List (List UInt8)))) fun x41 =>
      bnd (IntKind.wrap .i64 (v18 + 1)) fun x42 =>
      (console_Tell_L0 a0 n0) x41 x42
    ) else (
      bno (strings_Join v17 [32]) fun x43 =>
      some x43
    )
def console_Tell (a0 : T_world_Answer) : Option (List UInt8) :=
  bno (strconv_Itoa a0.N) fun x1 =>
  bno (strconv_Itoa a0.E) fun x2 =>
  bno (console_hex a0.Text) fun x3 =>
  bno (console_mark a0.End) fun x4 =>
  console_Tell_L0 a0 fuel ([x1, x2, x3, x4] : (List (List UInt8))) 0

def sennitlaw33_awake  : Option Bool :=
  bno (console_Parse [119, 114, 105, 116, 101, 32, 48, 32, 49, 32, 54, 56, 54, 57]) fun x1 =>
  bno (console_Parse [35, 32, 120]) fun x2 =>
  bno (console_Parse [119, 114, 105, 116, 32, 48, 32, 49, 32, 45]) fun x3 =>
  bno (console_Parse [99, 108, 111, 115, 101, 32, 48, 32, 48, 49]) fun x4 =>
  bno (console_Print (⟨11, 0, 0, 3, 0, 0, [], true⟩ : T_world_Step)) fun x5 =>
  bno (console_Print (⟨8, 1, 0, 2, 0, 0, [], false⟩ : T_world_Step)) fun x6 =>
  bno (console_Script [116, 105, 99, 107, 32, 49, 10, 10, 99, 108, 111, 115, 101, 32, 50, 32, 49]) fun x7 =>
  bno (console_Tell ((⟨5, 6, [104, 105], false, ([(⟨1, 2, 3⟩ : T_session_Event)] : (List T_session_Event))⟩ : T_world_Answer))) fun x8 =>
  bno (console_Names) fun x9 =>
  bnd ((decide (x1.1.Kind = 1) && (decide (x1.1.Side = 0) && (decide (x1.1.ID = 1) && (decide (x1.1.N = 0) && (decide (x1.1.M = 0) && (decide (x1.1.Path = 0) && (decide (x1.1.Text = ([104, 105] : List UInt8)) && ((x1.1.Flag == false) && true))))))))) fun x10 =>
  bnd (decide (x1.2 = 0)) fun x11 =>
  bnd (x10 && x11) fun x12 =>
  bnd (decide (x2.2 = 6)) fun x13 =>
  bnd (x12 && x13) fun x14 =>
  bnd (decide (x3.2 = 12)) fun x15 =>
  bnd (x14 && x15) fun x16 =>
  bnd (decide (x4.2 = 60)) fun x17 =>
  bnd (x16 && x17) fun x18 =>
  bnd (decide (x5.1 = ([99, 111, 109, 101, 32, 51, 32, 43] : List UInt8))) fun x19 =>
  bnd (x18 && x19) fun x20 =>
  bnd (decide (x5.2 = 0)) fun x21 =>
  bnd (x20 && x21) fun x22 =>
  bnd (decide (x6.2 = 2)) fun x23 =>
  bnd (x22 && x23) fun x24 =>
  bnd (decide ((x7.1.length : Int) = 0)) fun x25 =>
  bnd (x24 && x25) fun x26 =>
  bnd (decide (x7.2.1 = 3)) fun x27 =>
  bnd (x26 && x27) fun x28 =>
  bnd (decide (x7.2.2 = 60)) fun x29 =>
  bnd (x28 && x29) fun x30 =>
  bnd (decide (x8 = ([53, 32, 54, 32, 54, 56, 54, 57, 32, 45, 32, 49, 58, 50, 58, 51] : List UInt8))) fun x31 =>
  bnd (x30 && x31) fun x32 =>
  bnd (decide ((x9.length : Int) = 16)) fun x33 =>
  bnd (x32 && x33) fun x34 =>
  bno (gd (x34 == true) (gix x9 13) default) fun x35 =>
  bnd (decide (x35 = ([102, 108, 105, 112] : List UInt8))) fun x36 =>
  bnd (x34 && x36) fun x37 =>
  bnd (bif x37 then true else false) fun x38 =>
  bnd (bif x38 then true else false) fun x39 =>
  bnd (bif x39 then true else false) fun x40 =>
  bnd (bif x40 then true else false) fun x41 =>
  bnd (bif x41 then true else false) fun x42 =>
  some x42

def sennitref33_Name (a0 : Int) : Option (List UInt8) :=
  bnd (decide (a0 = 0)) fun x1 =>
  bif x1 then (
    some [111, 112, 101, 110]
  ) else (
    bnd (decide (a0 = 1)) fun x3 =>
    bif x3 then (
      some [119, 114, 105, 116, 101]
    ) else (
      bnd (decide (a0 = 2)) fun x5 =>
      bif x5 then (
        some [99, 108, 111, 115, 101]
      ) else (
        bnd (decide (a0 = 3)) fun x7 =>
        bif x7 then (
          some [114, 101, 97, 100]
        ) else (
          bnd (decide (a0 = 4)) fun x9 =>
          bif x9 then (
            some [114, 101, 115, 101, 116]
          ) else (
            bnd (decide (a0 = 5)) fun x11 =>
            bif x11 then (
              some [109, 111, 118, 101]
            ) else (
              bnd (decide (a0 = 6)) fun x13 =>
              bif x13 then (
                some [112, 105, 110, 103]
              ) else (
                bnd (decide (a0 = 7)) fun x15 =>
                bif x15 then (
                  some [97, 119, 97, 121]
                ) else (
                  bnd (decide (a0 = 8)) fun x17 =>
                  bif x17 then (
                    some [116, 105, 99, 107]
                  ) else (
                    bnd (decide (a0 = 9)) fun x19 =>
                    bif x19 then (
                      some [107, 105, 108, 108]
                    ) else (
                      bnd (decide (a0 = 10)) fun x21 =>
                      bif x21 then (
                        some [115, 101, 110, 100]
                      ) else (
                        bnd (decide (a0 = 11)) fun x23 =>
                        bif x23 then (
                          some [99, 111, 109, 101]
                        ) else (
                          bnd (decide (a0 = 12)) fun x25 =>
                          bif x25 then (
                            some [100, 114, 111, 112]
                          ) else (
                            bnd (decide (a0 = 13)) fun x27 =>
                            bif x27 then (
                              some [102, 108, 105, 112]
                            ) else (
                              bnd (decide (a0 = 14)) fun x29 =>
                              bif x29 then (
                                some [102, 111, 114, 103, 101]
                              ) else (
                                bnd (decide (a0 = 15)) fun x31 =>
                                bif x31 then (
                                  some [116, 101, 108, 108]
                                ) else (
                                  some []
                                )
                              )
                            )
                          )
                        )
                      )
                    )
                  )
                )
              )
            )
          )
        )
      )
    )
  )

def sennitref33_fields_J3 (a0 : Int) (v29 : Bool) : Option (List UInt8) :=
  bif v29 then (
    some [115, 112]
  ) else (
    bnd (decide (a0 = 11)) fun x31 =>
    bif x31 then (
      some [110, 102]
    ) else (
      bnd (decide (a0 = 13)) fun x33 =>
      bif x33 then (
        some [110, 109, 105]
      ) else (
        some [115, 112, 116]
      )
    )
  )
def sennitref33_fields_J2 (a0 : Int) (v24 : Bool) : Option (List UInt8) :=
  bif v24 then (
    some [110]
  ) else (
    bnd (decide (a0 = 9)) fun x35 =>
    bif x35 then (
      sennitref33_fields_J3 a0 x35
    ) else (
      bnd (decide (a0 = 10)) fun x37 =>
      sennitref33_fields_J3 a0 x37
    )
  )
def sennitref33_fields_J1 (a0 : Int) (v19 : Bool) : Option (List UInt8) :=
  bif v19 then (
    some [115]
  ) else (
    bnd (decide (a0 = 8)) fun x38 =>
    bif x38 then (
      sennitref33_fields_J2 a0 x38
    ) else (
      bnd (decide (a0 = 12)) fun x40 =>
      sennitref33_fields_J2 a0 x40
    )
  )
def sennitref33_fields_J0 (a0 : Int) (v10 : Bool) : Option (List UInt8) :=
  bif v10 then (
    some [115, 105, 110]
  ) else (
    bnd (decide (a0 = 5)) fun x12 =>
    bif x12 then (
      some [115, 105, 109, 110, 102]
    ) else (
      bnd (decide (a0 = 6)) fun x14 =>
      bif x14 then (
        some [115, 110]
      ) else (
        bnd (decide (a0 = 7)) fun x41 =>
        bif x41 then (
          sennitref33_fields_J1 a0 x41
        ) else (
          bnd (decide (a0 = 15)) fun x43 =>
          sennitref33_fields_J1 a0 x43
        )
      )
    )
  )
def sennitref33_fields (a0 : Int) : Option (List UInt8) :=
  bnd (decide (a0 = 0)) fun x1 =>
  bif x1 then (
    some [115, 105, 110, 102]
  ) else (
    bnd (decide (a0 = 1)) fun x3 =>
    bif x3 then (
      some [115, 105, 116]
    ) else (
      bnd (decide (a0 = 2)) fun x5 =>
      bif x5 then (
        some [115, 105]
      ) else (
        bnd (decide (a0 = 3)) fun x44 =>
        bif x44 then (
          sennitref33_fields_J0 a0 x44
        ) else (
          bnd (decide (a0 = 4)) fun x46 =>
          sennitref33_fields_J0 a0 x46
        )
      )
    )
  )

def sennitref33_digit_L0 (a0 : Int) : Nat → Int → Option Int
  | 0, _ => none
  | n0 + 1, v7 =>
    bnd (decide (v7 < (([48, 49, 50, 51, 52, 53, 54, 55, 56, 57, 97, 98, 99, 100, 101, 102] : List UInt8).length : Int))) fun x14 =>
    bif x14 then (
      bno (gix ([48, 49, 50, 51, 52, 53, 54, 55, 56, 57, 97, 98, 99, 100, 101, 102] : List UInt8) v7) fun x16 =>
      bnd (decide ((x16.toNat : Int) = a0)) fun x17 =>
      bif x17 then (
        some v7
      ) else (
        bnd (IntKind.wrap .i64 (v7 + 1)) fun x19 =>
        (sennitref33_digit_L0 a0 n0) x19
      )
    ) else (
      some (-1)
    )
def sennitref33_digit (a0 : Int) : Option Int :=
  sennitref33_digit_L0 a0 fuel 0

def sennitlaw33_back_L0 (a0 : (List T_world_Step)) : Nat → (List T_world_Step) → Int → Option (List T_world_Step)
  | 0, _, _ => none
  | n0 + 1, v6, v7 =>
    bnd (decide (v7 < (a0.length : Int))) fun x13 =>
    bif x13 then (
      bno (gix a0 v7) fun x15 =>
      bno (app 72 v6 ([x15] : (List T_world_Step))) fun x16 =>
      bnd (IntKind.wrap .i64 (v7 + 1)) fun x17 =>
      (sennitlaw33_back_L0 a0 n0) x16 x17
    ) else (
      some v6
    )
def sennitlaw33_back (a0 : (List T_world_Step)) : Option (List T_world_Step) :=
  sennitlaw33_back_L0 a0 fuel ([] : (List T_world_Step)) 0

def sennitref33_SameSteps_L0 (a0 : (List T_world_Step)) (a1 : (List T_world_Step)) : Nat → Int → Option Bool
  | 0, _ => none
  | n0 + 1, v10 =>
    bnd (decide (v10 < (a0.length : Int))) fun x18 =>
    bif x18 then (
      bno (gix a0 v10) fun x20 =>
      bno (gix a1 v10) fun x21 =>
      bnd ((decide (x20.Kind = x21.Kind) && (decide (x20.Side = x21.Side) && (decide (x20.ID = x21.ID) && (decide (x20.N = x21.N) && (decide (x20.M = x21.M) && (decide (x20.Path = x21.Path) && (decide (x20.Text = x21.Text) && ((x20.Flag == x21.Flag) && true))))))))) fun x22 =>
      bif (!x22) then (
        some false
      ) else (
        bnd (IntKind.wrap .i64 (v10 + 1)) fun x24 =>
        (sennitref33_SameSteps_L0 a0 a1 n0) x24
      )
    ) else (
      some true
    )
def sennitref33_SameSteps (a0 : (List T_world_Step)) (a1 : (List T_world_Step)) : Option Bool :=
  bnd (!decide ((a0.length : Int) = (a1.length : Int))) fun x1 =>
  bif x1 then (
    some false
  ) else (
    sennitref33_SameSteps_L0 a0 a1 fuel 0
  )

end Go.Fn
set_option linter.unusedSimpArgs false
set_option linter.unusedVariables false
open Go Go.IL
namespace Go.Fn
/-! Console: ConsoleNames. -/
theorem awake33 : sennitlaw33_awake = some true := by kernel_rfl
end Go.Fn
set_option linter.unusedSimpArgs false
set_option linter.unusedVariables false
open Go Go.IL
namespace Go.Fn
/-! Console: numbers and texts of words. -/
abbrev S33 := T_world_Step
def digB (b : UInt8) : Bool := decide (48 ≤ b.toNat) && decide (b.toNat ≤ 57)
theorem digB_is {b : UInt8} : digB b = true ↔ isDig b := by unfold digB isDig; rw [Bool.and_eq_true, decide_eq_true_iff, decide_eq_true_iff]
def numB (w : List UInt8) : Bool := !decide (w = []) && decide (w.length ≤ 9) && !(decide (1 < w.length) && decide (w[0]? = some 48)) && w.all digB
/-- The number of a word. -/
def numV (w : List UInt8) : Option Nat := bif numB w then some (valS w) else none
theorem all_dig {w : List UInt8} (h : w.all digB = true) : ∀ b ∈ w, isDig b := fun b hb => digB_is.1 (List.all_eq_true.1 h b hb)
theorem valS_bd : ∀ (n : Nat) (w : List UInt8), w.length = n → (∀ b ∈ w, isDig b) → valS w < 10 ^ n
  | 0, w, h, _ => by rw [List.length_eq_zero_iff.1 h]; decide
  | n + 1, w, h, hd => by
    obtain ⟨u, b, rfl⟩ : ∃ u b, w = u ++ [b] := ⟨w.dropLast, w.getLast (by intro e; rw [e] at h; cases h), (List.dropLast_concat_getLast _).symm⟩
    have := valS_bd n u (by simpa using h) (fun c hc => hd c (by simp [hc]))
    have hb := (hd b (by simp)).2
    rw [valS_app, Nat.pow_succ]
    omega
theorem whole_L {s : List UInt8} (hs : s.length ≤ 9) : ∀ (r p : List UInt8) (f : Nat), s = p ++ r → r.length < f → (∀ b ∈ p, isDig b) → console_whole_L0 s f (valS p : Int) (p.length : Int) = some (bif r.all digB then ((valS s : Int), true) else (0, false))
  | [], p, f + 1, h, _, _ => by
    rw [List.append_nil] at h
    rw [console_whole_L0]
    simp only [bndD, h, lt_len, bif_ff]; rfl
  | b :: r, p, f + 1, h, hf, hp => by
    have hpl : p.length + 1 ≤ 9 := by rw [h] at hs; simp at hs; omega
    have hv := valS_bd p.length p rfl hp
    have hp10 : 10 ^ p.length ≤ 10 ^ 8 := Nat.pow_le_pow_right (by decide) (by omega)
    have hp9 : 10 ^ 8 = 100000000 := by decide
    rw [console_whole_L0]
    simp only [bndD, lt_at h, bif_tt, gix_at h, bnoS, w_at h (show s.length ≤ 1000000 by omega)]
    by_cases hb : isDig b
    · have hbb := digB_is.2 hb
      obtain ⟨b0, b1⟩ := hb
      have e1 : IntKind.wrap .u8 ((b.toNat : Int) - 48) = (b.toNat : Int) - 48 := by rw [IntKind.wrap_u8, Int.emod_eq_of_lt (by omega) (by omega)]
      have hvs : (valS (p ++ [b]) : Int) = 10 * (valS p : Int) + ((b.toNat : Int) - 48) := by rw [valS_app]; omega
      have hrec := whole_L hs r (p ++ [b]) f (next_at h) (by simpa using hf) (fun c hc => by
        rcases List.mem_append.1 hc with hc | hc
        · exact hp c hc
        · rw [List.mem_singleton.1 hc]; exact ⟨b0, b1⟩)
      simp only [decide_eq_false (show ¬ (b.toNat : Int) < 48 by omega), decide_eq_false (show ¬ (57 : Int) < (b.toNat : Int) by omega), Bool.or_self, bif_ff, e1, w64 (show -9223372036854775808 ≤ 10 * (valS p : Int) by omega) (by omega), w64 (show -9223372036854775808 ≤ (b.toNat : Int) - 48 by omega) (by omega), List.all_cons, hbb, Bool.true_and]
      rw [w64 (by omega) (by omega), ← hvs]
      exact hrec
    · have hbb : digB b = false := by rw [← Bool.not_eq_true, digB_is]; exact hb
      have hor : (decide ((b.toNat : Int) < 48) || decide ((57 : Int) < (b.toNat : Int))) = true := by
        rw [Bool.or_eq_true, decide_eq_true_iff, decide_eq_true_iff]
        unfold isDig at hb; omega
      rw [hor, bif_tt, List.all_cons, hbb, Bool.false_and]; rfl
theorem whole33 (w : List UInt8) : console_whole w = some (match numV w with | some n => ((n : Int), true) | none => (0, false)) := by
  unfold console_whole numV numB
  simp only [bndD]
  by_cases h1 : w = []
  · subst h1; rfl
  · rw [decide_eq_false h1]
    by_cases h2 : w.length ≤ 9
    · rw [decide_eq_false (show ¬ (9 : Int) < (w.length : Int) by omega), decide_eq_true h2]
      have hL := whole_L h2 w [] fuel rfl (fuel_gt (by omega)) (by simp)
      obtain ⟨x, r, rfl⟩ := List.exists_cons_of_ne_nil h1
      have hg : gix (x :: r) 0 = some x := rfl
      have h0 : (x :: r)[0]? = some x := rfl
      simp only [Bool.or_self, hg, h0]
      have hx48 : decide ((x.toNat : Int) = 48) = decide (some x = some (48 : UInt8)) := by
        rw [Bool.eq_iff_iff, decide_eq_true_iff, decide_eq_true_iff]
        constructor
        · intro e; congr 1; exact UInt8.toNat_inj.1 (by show x.toNat = 48; omega)
        · intro e; rw [Option.some.inj e]; rfl
      have hlt : decide ((1 : Int) < ((x :: r).length : Int)) = decide (1 < (x :: r).length) := by
        rw [Bool.eq_iff_iff, decide_eq_true_iff, decide_eq_true_iff]; omega
      rw [hlt]
      cases hl : decide (1 < (x :: r).length)
      · simp only [beq_self_eq_true, ft, Bool.and_false, gdff, bnoS, Bool.false_and, Bool.or_self, bif_ff, Bool.not_false, Bool.true_and]
        refine hL.trans ?_
        cases (x :: r).all digB <;> rfl
      · simp only [beq_self_eq_true, Bool.and_self, gdtt, bnoS, Bool.true_and, Bool.false_or, hx48]
        cases decide (some x = some (48 : UInt8))
        · simp only [bif_ff, Bool.not_false, Bool.true_and]
          refine hL.trans ?_
          cases (x :: r).all digB <;> rfl
        · rfl
    · have e9 : decide ((9 : Int) < (w.length : Int)) = true := decide_eq_true (by omega)
      rw [e9, decide_eq_false h2]
      simp only [Bool.or_true, tf, Bool.false_and, gdff, bnoS, Bool.true_or, bif_tt, Bool.and_false]; rfl
theorem numV_bd {w : List UInt8} {n : Nat} (h : numV w = some n) : n < 1000000000 := by
  unfold numV at h
  cases hb : numB w with
  | false => rw [hb] at h; cases h
  | true =>
    rw [hb] at h
    have h : valS w = n := Option.some.inj h
    unfold numB at hb
    simp only [Bool.and_eq_true, decide_eq_true_iff] at hb
    have h1 := valS_bd w.length w rfl (all_dig hb.2)
    have h2 : 10 ^ w.length ≤ 10 ^ 9 := Nat.pow_le_pow_right (by decide) hb.1.1.2
    have h3 : 10 ^ 9 = 1000000000 := by decide
    omega
/-! Texts as hexadecimal digits. -/
def hexD (c : Nat) : Option Nat := bif decide (48 ≤ c) && decide (c ≤ 57) then some (c - 48) else bif decide (97 ≤ c) && decide (c ≤ 102) then some (c - 87) else none
def hexV (c : UInt8) : Option Nat := hexD c.toNat
def hexI (o : Option Nat) : Int := match o with | some d => (d : Int) | none => -1
theorem hex_all : ((List.range 256).all fun n => (match strings_IndexByte [48, 49, 50, 51, 52, 53, 54, 55, 56, 57, 97, 98, 99, 100, 101, 102] (n : Int) with | some r => decide (r = hexI (hexD n)) | none => false) && (match sennitref33_digit (n : Int) with | some r => decide (r = hexI (hexD n)) | none => false) && (match hexD n with | some d => decide (d < 16) | none => true)) = true := by kernel_rfl
theorem hex_at (c : UInt8) : strings_IndexByte [48, 49, 50, 51, 52, 53, 54, 55, 56, 57, 97, 98, 99, 100, 101, 102] (c.toNat : Int) = some (hexI (hexV c)) ∧ sennitref33_digit (c.toNat : Int) = some (hexI (hexV c)) ∧ ∀ d, hexV c = some d → d < 16 := by
  have h := List.all_eq_true.1 hex_all c.toNat (List.mem_range.2 c.toNat_lt)
  rw [Bool.and_eq_true, Bool.and_eq_true] at h
  obtain ⟨⟨h1, h2⟩, h3⟩ := h
  refine ⟨?_, ?_, fun d hd => ?_⟩
  · revert h1
    cases strings_IndexByte [48, 49, 50, 51, 52, 53, 54, 55, 56, 57, 97, 98, 99, 100, 101, 102] (c.toNat : Int) with
    | none => intro h; cases h
    | some r => intro h; rw [of_decide_eq_true h]; rfl
  · revert h2
    cases sennitref33_digit (c.toNat : Int) with
    | none => intro h; cases h
    | some r => intro h; rw [of_decide_eq_true h]; rfl
  · have hd : hexD c.toNat = some d := hd
    rw [hd] at h3
    exact of_decide_eq_true h3
/-- Two digits at a time. -/
def unhexV : List UInt8 → Option (List UInt8)
  | a :: b :: r => match hexV a, hexV b, unhexV r with
    | some x, some y, some l => some (UInt8.ofNat (16 * x + y) :: l)
    | _, _, _ => none
  | _ => some []
def textV (w : List UInt8) : Option (List UInt8) := if w = [45] then some [] else if w = [] ∨ w.length % 2 = 1 then none else unhexV w
def twoH (o : Option (List UInt8)) : List UInt8 × Bool := match o with | some l => (l, true) | none => ([], false)
theorem byte_all : ((List.range 16).all fun a => (List.range 16).all fun b => decide (IntKind.wrap .u8 (a : Int) = (a : Int)) && (match shlI .u8 ((UInt8.ofNat a).toNat : Int) 4 with | some r => decide (orI .u8 r (b : Int) = ((16 * a + b : Nat) : Int)) | none => false) && (match shlI .u8 0 4 with | some r => decide (orI .u8 r (a : Int) = ((a : Nat) : Int)) | none => false) && decide (IntKind.wrap .u8 (IntKind.wrap .i64 (IntKind.wrap .i64 (16 * (a : Int)) + (b : Int))) = ((16 * a + b : Nat) : Int))) = true := by kernel_rfl
theorem byte_at {a b : Nat} (ha : a < 16) (hb : b < 16) : IntKind.wrap .u8 (a : Int) = (a : Int) ∧ (∃ r, shlI .u8 ((UInt8.ofNat a).toNat : Int) 4 = some r ∧ orI .u8 r (b : Int) = ((16 * a + b : Nat) : Int)) ∧ (∃ r, shlI .u8 0 4 = some r ∧ orI .u8 r (a : Int) = (a : Int)) ∧ IntKind.wrap .u8 (IntKind.wrap .i64 (IntKind.wrap .i64 (16 * (a : Int)) + (b : Int))) = ((16 * a + b : Nat) : Int) := by
  have h := List.all_eq_true.1 (List.all_eq_true.1 byte_all a (List.mem_range.2 ha)) b (List.mem_range.2 hb)
  simp only [Bool.and_eq_true, decide_eq_true_iff] at h
  obtain ⟨⟨⟨h1, h2⟩, h3⟩, h4⟩ := h
  refine ⟨h1, ?_, ?_, h4⟩
  · revert h2
    cases shlI .u8 ((UInt8.ofNat a).toNat : Int) 4 with
    | none => intro h; cases h
    | some r => intro h; exact ⟨r, rfl, of_decide_eq_true h⟩
  · revert h3
    cases shlI .u8 0 4 with
    | none => intro h; cases h
    | some r => intro h; exact ⟨r, rfl, of_decide_eq_true h⟩
end Go.Fn
set_option linter.unusedSimpArgs false
set_option linter.unusedVariables false
open Go Go.IL
namespace Go.Fn
/-! Console: texts, fields. -/
theorem u8_nat {n : Nat} (h : n < 256) : toU8 (n : Int) = some (UInt8.ofNat n) := by rw [toU8_ok (by omega) (by omega), Int.toNat_natCast]
theorem hexI_neg {o : Option Nat} : decide (hexI o < 0) = o.isNone := by
  cases o with
  | none => rfl
  | some d => exact decide_eq_false (by show ¬ (d : Int) < 0; omega)
theorem unhex_cons (a b : UInt8) (r : List UInt8) : unhexV (a :: b :: r) = match hexV a, hexV b, unhexV r with
    | some x, some y, some l => some (UInt8.ofNat (16 * x + y) :: l)
    | _, _, _ => none := rfl
theorem text_L {s : List UInt8} (hs : s.length ≤ 100000) : ∀ (n : Nat) (r p done : List UInt8) (f : Nat), r.length = 2 * n → s = p ++ r → p.length = 2 * done.length → r.length < f → ∃ l b, console_text_L0 s f (done ++ List.replicate n 0) (p.length : Int) = some (l, b) ∧ ((match unhexV r with | some t => (done ++ t, true) | none => ([], false)) = (l, b))
  | 0, r, p, done, f + 1, hr, h, hp, hf => by
    have hr0 : r = [] := List.length_eq_zero_iff.1 (by omega)
    subst hr0
    rw [List.append_nil] at h
    rw [console_text_L0]
    simp only [bndD, h, lt_len, bif_ff]
    exact ⟨_, _, rfl, by simp [unhexV]⟩
  | n + 1, r, p, done, f, hr, h, hp, hf => by
    obtain ⟨a, b, r, rfl⟩ : ∃ a b r', r = a :: b :: r' := by
      match r, hr with
      | [], hr => exact absurd hr (by simp)
      | [_], hr => exact absurd hr (by simp; omega)
      | a :: b :: r, _ => exact ⟨a, b, r, rfl⟩
    obtain ⟨g, rfl⟩ : ∃ g, f = g + 1 + 1 := ⟨f - 2, by simp at hf; omega⟩
    have hr' : r.length = 2 * n := by simp at hr; omega
    have hps : p.length ≤ 100000 := by rw [h] at hs; simp at hs; omega
    obtain ⟨ha1, _, ha3⟩ := hex_at a
    obtain ⟨hb1, _, hb3⟩ := hex_at b
    have q0 : quoI .i64 (p.length : Int) 2 = some (done.length : Int) := by rw [quo_ok (by omega) (by omega) (by decide)]; congr 1; omega
    have h2 := next_at h
    have q1 : quoI .i64 ((p ++ [a]).length : Int) 2 = some (done.length : Int) := by rw [quo_ok (by omega) (by simp; omega) (by decide)]; congr 1; simp; omega
    have hdl : done.length ≤ 100000 := by omega
    rw [console_text_L0]
    simp only [bndD, lt_at h, bif_tt, gix_at h, bnoS, ha1, hexI_neg]
    cases hva : hexV a with
    | none =>
      simp only [Option.isNone_none, bif_tt]
      exact ⟨_, _, rfl, by rw [unhex_cons, hva]⟩
    | some x =>
      have hx := ha3 x hva
      obtain ⟨e1, _, ⟨z, e3, e4⟩, _⟩ := byte_at hx hx
      have hl0 : (done ++ List.replicate (n + 1) (0 : UInt8)) = done ++ 0 :: List.replicate n 0 := rfl
      have hg0 : (done ++ List.replicate (n + 1) (0 : UInt8))[((done.length : Nat) : Int).toNat]? = some 0 := by rw [Int.toNat_natCast, hl0, List.getElem?_append_right (Nat.le_refl _)]; simp
      have hs0 : (done ++ List.replicate (n + 1) (0 : UInt8)).set (((done.length : Nat) : Int).toNat) (UInt8.ofNat x) = done ++ UInt8.ofNat x :: List.replicate n 0 := by rw [Int.toNat_natCast, hl0, List.set_append_right _ _ (Nat.le_refl _)]; simp
      simp only [Option.isNone_some, bif_ff, q0, bnoS, gix_at hl0, hg0, show ((0 : UInt8).toNat : Int) = 0 from rfl, e3, show hexI (some x) = (x : Int) from rfl, e1, e4, u8_nat (show x < 256 by omega), hs0, w_at h (show s.length ≤ 1000000 by omega)]
      rw [console_text_L0]
      simp only [bndD, lt_at h2, bif_tt, gix_at h2, bnoS, hb1, hexI_neg]
      cases hvb : hexV b with
      | none =>
        simp only [Option.isNone_none, bif_tt]
        exact ⟨_, _, rfl, by rw [unhex_cons, hva, hvb]⟩
      | some y =>
        have hy := hb3 y hvb
        obtain ⟨e5, ⟨z2, e6, e7⟩, _, _⟩ := byte_at hx hy
        obtain ⟨e8, _⟩ := byte_at hy hy
        have hl1 : (done ++ UInt8.ofNat x :: List.replicate n 0) = done ++ UInt8.ofNat x :: List.replicate n 0 := rfl
        have hg1 : (done ++ UInt8.ofNat x :: List.replicate n 0)[((done.length : Nat) : Int).toNat]? = some (UInt8.ofNat x) := by rw [Int.toNat_natCast, List.getElem?_append_right (Nat.le_refl _)]; simp
        have hs1 : (done ++ UInt8.ofNat x :: List.replicate n 0).set (((done.length : Nat) : Int).toNat) (UInt8.ofNat (16 * x + y)) = (done ++ [UInt8.ofNat (16 * x + y)]) ++ List.replicate n 0 := by rw [Int.toNat_natCast, List.set_append_right _ _ (Nat.le_refl _)]; simp
        simp only [Option.isNone_some, bif_ff, q1, bnoS, gix_at hl1, hg1, e6, show hexI (some y) = (y : Int) from rfl, e8, e7, u8_nat (show 16 * x + y < 256 by omega), hs1, w_at h2 (show s.length ≤ 1000000 by omega)]
        obtain ⟨l, c, k1, k2⟩ := text_L hs n r (p ++ [a] ++ [b]) (done ++ [UInt8.ofNat (16 * x + y)]) g hr' (next_at h2) (by simp; omega) (by simp at hf; omega)
        refine ⟨l, c, k1, ?_⟩
        rw [← k2]
        rw [unhex_cons, hva, hvb]
        cases unhexV r with
        | none => rfl
        | some t => simp only [List.append_assoc, List.cons_append, List.nil_append]
theorem text33 {w : List UInt8} (hw : w.length ≤ 100000) : console_text w = some (twoH (textV w)) := by
  unfold console_text textV
  rw [bndD]
  by_cases h1 : w = [45]
  · rw [decide_eq_true h1, if_pos h1]; rfl
  · rw [decide_eq_false h1, if_neg h1, bif_ff, bndD]
    by_cases h2 : w = []
    · rw [decide_eq_true h2, if_pos (.inl h2)]; rfl
    · have hr : remI (w.length : Int) 2 = some ((w.length % 2 : Nat) : Int) := by rw [rem_ok (by omega) (by decide)]; rfl
      rw [decide_eq_false h2, beq_self_eq_true, gdtt, hr, bnoS, bndD, bndD]
      by_cases h3 : w.length % 2 = 1
      · rw [if_pos (.inr h3), decide_eq_true (show ((w.length % 2 : Nat) : Int) = 1 by omega)]; rfl
      · rw [if_neg (fun h => h.elim h2 h3), decide_eq_false (show ¬ ((w.length % 2 : Nat) : Int) = 1 by omega), Bool.or_self, bif_ff]
        have hq : quoI .i64 (w.length : Int) 2 = some ((w.length / 2 : Nat) : Int) := by rw [quo_ok (by omega) (by omega) (by decide)]; rfl
        rw [hq, bnoS, made_ok (by omega) (by omega) (by omega), bnoS, Int.toNat_natCast]
        obtain ⟨l, b, k1, k2⟩ := text_L hw (w.length / 2) w [] [] fuel (by omega) rfl rfl (fuel_gt (by omega))
        refine Eq.trans k1 ?_
        rw [← k2]
        cases unhexV w <;> rfl
/-! Fields. -/
def fieldC (c : UInt8) : Prop := c = 115 ∨ c = 105 ∨ c = 110 ∨ c = 109 ∨ c = 112 ∨ c = 116 ∨ c = 102
instance (c : UInt8) : Decidable (fieldC c) := by unfold fieldC; infer_instance
/-- A word as a field. -/
def putV (s : S33) (c : UInt8) (w : List UInt8) : Option S33 :=
  if c = 116 then (textV w).map fun t => ⟨s.Kind, s.Side, s.ID, s.N, s.M, s.Path, t, s.Flag⟩
  else if c = 102 then (if w = [43] ∨ w = [45] then some ⟨s.Kind, s.Side, s.ID, s.N, s.M, s.Path, s.Text, decide (w = [43])⟩ else none)
  else match numV w with
    | none => none
    | some n =>
      if c = 115 then (if n < 2 then some ⟨s.Kind, n, s.ID, s.N, s.M, s.Path, s.Text, s.Flag⟩ else none)
      else if c = 105 then some ⟨s.Kind, s.Side, n, s.N, s.M, s.Path, s.Text, s.Flag⟩
      else if c = 110 then some ⟨s.Kind, s.Side, s.ID, n, s.M, s.Path, s.Text, s.Flag⟩
      else if c = 109 then some ⟨s.Kind, s.Side, s.ID, s.N, n, s.Path, s.Text, s.Flag⟩
      else some ⟨s.Kind, s.Side, s.ID, s.N, s.M, n, s.Text, s.Flag⟩
theorem put33 {c : UInt8} (hc : fieldC c) {w : List UInt8} (hw : w.length ≤ 100000) (s : S33) : ∃ b s', console_put_h (c.toNat : Int) w s = some (b, s') ∧ putV s c w = bif b then some s' else none := by
  unfold console_put_h
  rcases hc with rfl | rfl | rfl | rfl | rfl | rfl | rfl
  · simp only [bndD, show decide (((115 : UInt8).toNat : Int) = 115) = true from rfl, bif_tt, whole33, bnoS, Bool.not_true, Bool.false_or]
    unfold putV
    rw [if_neg (by decide), if_neg (by decide)]
    cases numV w with
    | none => exact ⟨_, _, rfl, rfl⟩
    | some n =>
      refine ⟨_, _, rfl, ?_⟩
      show (if n < 2 then some (⟨s.Kind, (n : Int), s.ID, s.N, s.M, s.Path, s.Text, s.Flag⟩ : S33) else none) = bif (true && decide ((n : Int) < 2)) then some (⟨s.Kind, (n : Int), s.ID, s.N, s.M, s.Path, s.Text, s.Flag⟩ : S33) else none
      by_cases h : n < 2
      · rw [if_pos h, decide_eq_true (show (n : Int) < 2 by omega)]; rfl
      · rw [if_neg h, decide_eq_false (show ¬ (n : Int) < 2 by omega)]; rfl
  · simp only [bndD, show decide (((105 : UInt8).toNat : Int) = 115) = false from rfl, show decide (((105 : UInt8).toNat : Int) = 105) = true from rfl, bif_ff, bif_tt, whole33, bnoS, Bool.not_false, Bool.true_or, Bool.and_true]
    unfold putV
    rw [if_neg (by decide), if_neg (by decide)]
    cases numV w with
    | none => exact ⟨_, _, rfl, rfl⟩
    | some n => exact ⟨_, _, rfl, rfl⟩
  · simp only [bndD, show decide (((110 : UInt8).toNat : Int) = 115) = false from rfl, show decide (((110 : UInt8).toNat : Int) = 105) = false from rfl, show decide (((110 : UInt8).toNat : Int) = 110) = true from rfl, bif_ff, bif_tt, whole33, bnoS, Bool.not_false, Bool.true_or, Bool.and_true]
    unfold putV
    rw [if_neg (by decide), if_neg (by decide)]
    cases numV w with
    | none => exact ⟨_, _, rfl, rfl⟩
    | some n => exact ⟨_, _, rfl, rfl⟩
  · simp only [bndD, show decide (((109 : UInt8).toNat : Int) = 115) = false from rfl, show decide (((109 : UInt8).toNat : Int) = 105) = false from rfl, show decide (((109 : UInt8).toNat : Int) = 110) = false from rfl, show decide (((109 : UInt8).toNat : Int) = 109) = true from rfl, bif_ff, bif_tt, whole33, bnoS, Bool.not_false, Bool.true_or, Bool.and_true]
    unfold putV
    rw [if_neg (by decide), if_neg (by decide)]
    cases numV w with
    | none => exact ⟨_, _, rfl, rfl⟩
    | some n => exact ⟨_, _, rfl, rfl⟩
  · simp only [bndD, show decide (((112 : UInt8).toNat : Int) = 115) = false from rfl, show decide (((112 : UInt8).toNat : Int) = 105) = false from rfl, show decide (((112 : UInt8).toNat : Int) = 110) = false from rfl, show decide (((112 : UInt8).toNat : Int) = 109) = false from rfl, show decide (((112 : UInt8).toNat : Int) = 112) = true from rfl, bif_ff, bif_tt, whole33, bnoS, Bool.not_false, Bool.true_or, Bool.and_true]
    unfold putV
    rw [if_neg (by decide), if_neg (by decide)]
    cases numV w with
    | none => exact ⟨_, _, rfl, rfl⟩
    | some n => exact ⟨_, _, rfl, rfl⟩
  · simp only [bndD, show decide (((116 : UInt8).toNat : Int) = 115) = false from rfl, show decide (((116 : UInt8).toNat : Int) = 105) = false from rfl, show decide (((116 : UInt8).toNat : Int) = 110) = false from rfl, show decide (((116 : UInt8).toNat : Int) = 109) = false from rfl, show decide (((116 : UInt8).toNat : Int) = 112) = false from rfl, show decide (((116 : UInt8).toNat : Int) = 116) = true from rfl, bif_ff, bif_tt, text33 hw, bnoS]
    unfold putV
    rw [if_pos rfl]
    refine ⟨_, _, rfl, ?_⟩
    cases textV w <;> rfl
  · simp only [bndD, show decide (((102 : UInt8).toNat : Int) = 115) = false from rfl, show decide (((102 : UInt8).toNat : Int) = 105) = false from rfl, show decide (((102 : UInt8).toNat : Int) = 110) = false from rfl, show decide (((102 : UInt8).toNat : Int) = 109) = false from rfl, show decide (((102 : UInt8).toNat : Int) = 112) = false from rfl, show decide (((102 : UInt8).toNat : Int) = 116) = false from rfl, bif_ff]
    unfold putV
    rw [if_neg (by decide), if_pos rfl]
    refine ⟨_, _, rfl, ?_⟩
    by_cases h : w = [43] ∨ w = [45]
    · rw [if_pos h]
      have : (decide (w = [43]) || decide (w = [45])) = true := by rw [Bool.or_eq_true, decide_eq_true_iff, decide_eq_true_iff]; exact h
      rw [this]; rfl
    · rw [if_neg h]
      have : (decide (w = [43]) || decide (w = [45])) = false := by rw [← Bool.not_eq_true, Bool.or_eq_true, decide_eq_true_iff, decide_eq_true_iff]; exact h
      rw [this]; rfl
end Go.Fn
set_option linter.unusedSimpArgs false
set_option linter.unusedVariables false
open Go Go.IL
namespace Go.Fn
/-! Console: both ways to read a line tell the same. -/
theorem u8_eq_int (b : UInt8) (n : Nat) (hn : n < 256) : decide ((b.toNat : Int) = (n : Int)) = decide (b = UInt8.ofNat n) := by
  by_cases h : b = UInt8.ofNat n
  · rw [decide_eq_true h, h, UInt8.toNat_ofNat', Nat.mod_eq_of_lt (by omega)]; exact decide_eq_true rfl
  · rw [decide_eq_false h]
    refine decide_eq_false fun e => h ?_
    have e : b.toNat = n := by omega
    rw [← e]; exact UInt8.ofNat_toNat.symm
/-! Kinds. -/
def forms33 : List T_console_form := (console_forms).getD []
theorem forms_is : console_forms = some forms33 := rfl
theorem forms_len : forms33.length = 16 := rfl
def names33 : List (List UInt8) := forms33.map (·.name)
theorem names_is : console_Names = some names33 := by kernel_rfl
/-- The number of a name; 16 for none. -/
def kx (w : List UInt8) : Nat := names33.idxOf w
theorem sidx_L (l : List (List UInt8)) (hl : l.length ≤ 1000000) (a : List UInt8) : ∀ (r p : List (List UInt8)) (f : Nat), l = p ++ r → r.length < f → slices_Index_string_string_L0 l a f (p.length : Int) = some (if r.idxOf a < r.length then ((p.length + r.idxOf a : Nat) : Int) else -1)
  | [], p, f + 1, h, _ => by
    rw [List.append_nil] at h
    rw [slices_Index_string_string_L0]
    simp only [bndD, h, lt_len, bif_ff]; rfl
  | b :: r, p, f + 1, h, hf => by
    rw [slices_Index_string_string_L0]
    simp only [bndD, lt_at h, bif_tt, gix_at h, bnoS, w_at h hl]
    by_cases hb : a = b
    · subst hb
      rw [decide_eq_true rfl, bif_tt, List.idxOf_cons_self, if_pos (by simp)]; rfl
    · rw [decide_eq_false hb, bif_ff, sidx_L l hl a r (p ++ [b]) f (next_at h) (by simpa using hf), List.idxOf_cons, show (b == a) = false from beq_false_of_ne (fun e => hb e.symm), cond_false]
      simp only [List.length_append, List.length_cons, List.length_nil]
      by_cases h2 : r.idxOf a < r.length
      · rw [if_pos h2, if_pos (by omega)]; congr 1; omega
      · rw [if_neg h2, if_neg (by omega)]
theorem kind33 (w : List UInt8) : slices_Index_string_string names33 w = some (if kx w < 16 then (kx w : Int) else -1) := by
  have h := sidx_L names33 (by decide) w names33 [] fuel rfl (fuel_gt (by decide))
  refine Eq.trans h ?_
  rw [show names33.length = 16 from rfl, show ([] : List (List UInt8)).length + names33.idxOf w = kx w from Nat.zero_add _]
  rfl
theorem kx_le (w : List UInt8) : kx w ≤ 16 := List.idxOf_le_length
/-- What a kind has. -/
def hasK (k : Nat) : List UInt8 := (forms33.getD k ⟨[], []⟩).has
def formK (k : Nat) : T_console_form := forms33.getD k ⟨[], []⟩
theorem fields_rt : ((List.range 16).all fun i => (match sennitref33_fields (i : Int) with | some l => decide (l = hasK i) | none => false) && decide (gix forms33 (i : Int) = some (formK i)) && decide ((hasK i).length ≤ 5) && (hasK i).all (fun c => decide (fieldC c)) && decide (IntKind.wrap .u8 (i : Int) = (i : Int)) && decide ((hasK i).Nodup)) = true := by kernel_rfl
theorem fields_at {i : Nat} (hi : i < 16) : sennitref33_fields (i : Int) = some (hasK i) ∧ gix forms33 (i : Int) = some (formK i) ∧ (hasK i).length ≤ 5 ∧ (∀ c ∈ hasK i, fieldC c) ∧ IntKind.wrap .u8 (i : Int) = (i : Int) ∧ (hasK i).Nodup := by
  have h := List.all_eq_true.1 fields_rt i (List.mem_range.2 hi)
  simp only [Bool.and_eq_true, decide_eq_true_iff, List.all_eq_true] at h
  obtain ⟨⟨⟨⟨⟨h1, h2⟩, h3⟩, h4⟩, h5⟩, h6⟩ := h
  refine ⟨?_, h2, h3, h4, h5, h6⟩
  revert h1
  cases sennitref33_fields (i : Int) with
  | none => intro h; cases h
  | some l => intro h; rw [of_decide_eq_true h]
/-! Fields. -/
def parF : List UInt8 → List (List UInt8) → S33 → Option S33
  | c :: cs, w :: ws, s => (putV s c w).bind (parF cs ws)
  | _, _, s => some s
def S0 : S33 := ⟨0, 0, 0, 0, 0, 0, [], false⟩
def fin33 : Option S33 → S33 × Int
  | none => (S0, 60)
  | some s => if 300 < s.Text.length then (S0, 5) else (s, 0)
theorem fin_some (s : S33) : (bif decide (300 < (s.Text.length : Int)) then some (S0, 5) else some (s, 0)) = some (fin33 (some s)) := by
  unfold fin33
  by_cases h : 300 < s.Text.length
  · rw [decide_eq_true (by omega), bif_tt]; simp only [if_pos h]
  · rw [decide_eq_false (by omega), bif_ff]; simp only [if_neg h]
theorem parse_L {W : List (List UInt8)} {F : T_console_form} (hF : F.has.length ≤ 5) (hc : ∀ c ∈ F.has, fieldC c) (hW : ∀ w ∈ W, w.length ≤ 100000) : ∀ (cs pc : List UInt8) (ws pw : List (List UInt8)) (s : S33) (f : Nat), F.has = pc ++ cs → W = pw ++ ws → cs.length = ws.length → pw.length = pc.length + 1 → cs.length < f → console_Parse_L0 W F f (pc.length : Int) s.Kind s.Side s.ID s.N s.M s.Path s.Text s.Flag = some (fin33 (parF cs ws s))
  | [], pc, [], pw, s, f + 1, h, h2, _, _, _ => by
    rw [List.append_nil] at h
    rw [console_Parse_L0]
    simp only [bndD, h, lt_len, bif_ff]
    exact fin_some s
  | c :: cs, pc, w :: ws, pw, s, f + 1, h, h2, h3, h4, hf => by
    obtain ⟨b, s', k1, k2⟩ := put33 (hc c (by rw [h]; simp)) (hW w (by rw [h2]; simp)) s
    rw [console_Parse_L0]
    have e : ((pc ++ [c]).length : Int) = (pw.length : Int) := by simp; omega
    simp only [bndD, lt_at h, bif_tt, gix_at h, bnoS, w_at h (show F.has.length ≤ 1000000 by omega)]
    rw [e, gix_at h2, bnoS]
    rw [show (⟨s.Kind, s.Side, s.ID, s.N, s.M, s.Path, s.Text, s.Flag⟩ : T_world_Step) = s from rfl, k1, bnoS]
    show _ = some (fin33 ((putV s c w).bind (parF cs ws)))
    rw [k2]
    cases b with
    | false => rfl
    | true =>
      show console_Parse_L0 W F f (pw.length : Int) s'.Kind s'.Side s'.ID s'.N s'.M s'.Path s'.Text s'.Flag = _
      rw [← e]
      exact parse_L hF hc hW cs (pc ++ [c]) ws (pw ++ [w]) s' f (next_at h) (next_at h2) (by simpa using h3) (by simp; omega) (by simpa using hf)
/-! Lines. -/
def parseS (s : List UInt8) : S33 × Int :=
  if s = [] ∨ s.head? = some 35 then (S0, 6)
  else if kx ((splitL 32 s).headD []) = 16 then (S0, 12)
  else if (splitL 32 s).length ≠ (hasK (kx ((splitL 32 s).headD []))).length + 1 then (S0, 60)
  else fin33 (parF (hasK (kx ((splitL 32 s).headD []))) (splitL 32 s).tail ⟨(kx ((splitL 32 s).headD []) : Int), 0, 0, 0, 0, 0, [], false⟩)
theorem join_mem {c : UInt8} : ∀ {l : List (List UInt8)} {w : List UInt8}, w ∈ l → w.length ≤ (joinL c l).length
  | [u], w, h => by rw [List.mem_singleton.1 h]; exact Nat.le_refl _
  | u :: v :: l, w, h => by
    rw [joinL_cons (by simp), List.length_append, List.length_cons]
    rcases List.mem_cons.1 h with e | h
    · rw [e]; omega
    · have := join_mem (c := c) h; omega
theorem split_len {c : UInt8} {s w : List UInt8} (h : w ∈ splitL c s) : w.length ≤ s.length := by
  have := join_mem (c := c) h
  rwa [join_split] at this
theorem split_cnt (c : UInt8) : ∀ s : List UInt8, (splitL c s).length ≤ s.length + 1
  | [] => Nat.le_refl _
  | b :: l => by
    have := split_cnt c l
    unfold splitL
    split
    · simp; omega
    · split
      · simp
      · rename_i e; rw [e] at this; simp at this ⊢; omega
theorem parse33 {s : List UInt8} (hs : s.length ≤ 100000) : console_Parse s = some (parseS s) := by
  unfold console_Parse parseS
  rw [bndD]
  by_cases h1 : s = []
  · rw [decide_eq_true h1, if_pos (.inl h1)]; rfl
  · obtain ⟨b, r, rfl⟩ := List.exists_cons_of_ne_nil h1
    rw [decide_eq_false h1, beq_self_eq_true, gdtt, show gix (b :: r) 0 = some b from rfl, bnoS, bndD, bndD, Bool.false_or, show decide ((b.toNat : Int) = 35) = decide (b = 35) from u8_eq_int b 35 (by decide)]
    by_cases h2 : b = 35
    · rw [decide_eq_true h2, bif_tt, if_pos (.inr (by rw [h2]; rfl))]; rfl
    · rw [decide_eq_false h2, bif_ff, if_neg (fun h => h.elim h1 (fun e => h2 (by injection e)))]
      rw [splitA (by omega), bnoS, names_is, bnoS]
      have hm := fun w (h : w ∈ splitL 32 (b :: r)) => Nat.le_trans (split_len h) hs
      have hcn := split_cnt 32 (b :: r)
      cases hW : splitL 32 (b :: r) with
      | nil => exact absurd hW (splitL_ne _ _)
      | cons w ws =>
        rw [hW] at hm hcn
        rw [show gix (w :: ws) 0 = some w from rfl, bnoS, kind33, bnoS, bndD]
        show _ = some (if kx w = 16 then _ else if (w :: ws).length ≠ (hasK (kx w)).length + 1 then _ else _)
        have hk := kx_le w
        by_cases h3 : kx w = 16
        · rw [if_neg (by omega), if_pos h3]; rfl
        · have hk : kx w < 16 := by omega
          obtain ⟨_, f2, f3, f4, f5, _⟩ := fields_at hk
          rw [if_pos hk, if_neg h3, decide_eq_false (by omega), bif_ff, forms_is, bnoS, f2, bnoS, bndD, bndD]
          have hl : (formK (kx w)).has = hasK (kx w) := rfl
          rw [hl, w64 (by omega) (by omega)]
          by_cases h4 : (w :: ws).length = (hasK (kx w)).length + 1
          · rw [decide_eq_true (by omega), Bool.not_true, bif_ff, if_neg (fun h => h h4), bndD, f5]
            exact parse_L (F := formK (kx w)) f3 f4 hm (hasK (kx w)) [] ws [w] ⟨(kx w : Int), 0, 0, 0, 0, 0, [], false⟩ fuel rfl rfl (by simpa using h4.symm) rfl (fuel_gt (by omega))
          · rw [decide_eq_false (by omega), Bool.not_false, bif_tt, if_pos h4]; rfl
end Go.Fn
set_option linter.unusedSimpArgs false
set_option linter.unusedVariables false
open Go Go.IL
namespace Go.Fn
/-! Console: scripts; ConsoleParses. -/
theorem iidx_no {s : List UInt8} {c : UInt8} (h : c ∉ s) : ∃ k, internal_stringslite_Index s [c] = some k ∧ k < 0 := by
  unfold internal_stringslite_Index internal_stringslite_IndexByte
  simp only [bndD, List.length_singleton, show decide (((1 : Nat) : Int) = 0) = false from rfl, show decide (((1 : Nat) : Int) = 1) = true from rfl, Bool.false_or]
  have hne : ([c] : List UInt8) ≠ s := fun e => h (by rw [← e]; simp)
  rw [decide_eq_false hne, bif_ff, bif_tt, show gix [c] 0 = some c from rfl]
  simp only [bnoS, idx_no h]
  exact ⟨_, rfl, by decide⟩
theorem iidx_yes {w r : List UInt8} {c : UInt8} (h : c ∉ w) : internal_stringslite_Index (w ++ c :: r) [c] = some (w.length : Int) := by
  obtain h2 := sidx_yes (r := r) h
  unfold strings_Index at h2
  cases h3 : internal_stringslite_Index (w ++ c :: r) [c] with
  | none => rw [h3] at h2; cases h2
  | some k => rw [h3] at h2; exact h2
theorem cut_no {s : List UInt8} {c : UInt8} (h : c ∉ s) : strings_Cut s [c] = some (s, [], false) := by
  obtain ⟨k, h1, h2⟩ := iidx_no h
  unfold strings_Cut internal_stringslite_Cut
  rw [h1, bnoS, bndD, decide_eq_false (by omega), bif_ff]; rfl
theorem cut_yes {w r : List UInt8} {c : UInt8} (h : c ∉ w) (hl : (w ++ c :: r).length ≤ 1000000) : strings_Cut (w ++ c :: r) [c] = some (w, r, true) := by
  unfold strings_Cut internal_stringslite_Cut
  rw [iidx_yes h, bnoS, bndD, decide_eq_true (by omega), bif_tt, cut_at rfl, bnoS, bndD]
  have e : IntKind.wrap .i64 ((w.length : Int) + (([c] : List UInt8).length : Int)) = ((w ++ [c]).length : Int) := by
    simp at hl
    rw [List.length_singleton, w64 (by omega) (by omega), List.length_append, List.length_singleton]; omega
  rw [e, cut_from (p := w ++ [c]) (r := r) (by simp), bnoS]; rfl
def linesL : List (List UInt8) → List (List UInt8)
  | [] => []
  | [w] => if w = [] then [] else [w]
  | w :: v :: ws => w :: linesL (v :: ws)
def scriptL : List (List UInt8) → List S33 → Nat → List S33 × Int × Int
  | [], acc, _ => (acc, 0, 0)
  | l :: ls, acc, n => if (parseS l).2 = 0 then scriptL ls (acc ++ [(parseS l).1]) (n + 1) else if (parseS l).2 = 6 then scriptL ls acc (n + 1) else ([], (n : Int), (parseS l).2)
theorem wn {n : Nat} (h : n ≤ 1000000) : IntKind.wrap .i64 ((n : Int) + 1) = ((n + 1 : Nat) : Int) := by rw [w64 (by omega) (by omega)]; omega
theorem script_step {t w r : List UInt8} {acc : List S33} {n : Nat} {x : Bool} (f : Nat) (ht : t ≠ []) (hc : strings_Cut t [10] = some (w, r, x)) (hw : w.length ≤ 100000) (hn : n ≤ 1000000) (ha : acc.length ≤ 1000000) :
    console_Script_L0 (f + 1) t acc (n : Int) = if (parseS w).2 = 0 then console_Script_L0 f r (acc ++ [(parseS w).1]) ((n + 1 : Nat) : Int) else if (parseS w).2 = 6 then console_Script_L0 f r acc ((n + 1 : Nat) : Int) else some ([], (n : Int), (parseS w).2) := by
  rw [console_Script_L0]
  rw [bndD, decide_eq_false ht, Bool.not_false, bif_tt, hc, bnoS, parse33 hw, bnoS, bndD]
  by_cases h1 : (parseS w).2 = 0
  · rw [decide_eq_true h1, bif_tt, if_pos h1, app_ok (by simp; omega) (by simp; omega), bnoS, bndD, wn hn]
  · rw [decide_eq_false h1, bif_ff, if_neg h1, bndD]
    by_cases h2 : (parseS w).2 = 6
    · rw [decide_eq_true h2, bif_tt, if_pos h2, bndD, wn hn]
    · rw [decide_eq_false h2, bif_ff, if_neg h2]
theorem script_L : ∀ (ws : List (List UInt8)) (acc : List S33) (n f : Nat), ws ≠ [] → (∀ w ∈ ws, (10 : UInt8) ∉ w) → (joinL 10 ws).length ≤ 100000 → ws.length + 1 < f → n + ws.length ≤ 1000000 → acc.length ≤ n → console_Script_L0 f (joinL 10 ws) acc (n : Int) = some (scriptL (linesL ws) acc n)
  | [w], acc, n, f + 2, _, hf, hl, _, hn, ha => by
    show console_Script_L0 (f + 2) w acc (n : Int) = some (scriptL (if w = [] then [] else [w]) acc n)
    by_cases hw : w = []
    · subst hw; rfl
    · have hl : w.length ≤ 100000 := hl
      simp at hn
      rw [script_step (f + 1) hw (cut_no (hf w (by simp))) hl (by omega) (by omega), if_neg hw]
      show _ = some (if (parseS w).2 = 0 then _ else if (parseS w).2 = 6 then _ else _)
      split
      · rfl
      · split <;> rfl
  | w :: v :: ws, acc, n, f + 1, _, hf, hl, hg, hn, ha => by
    have hl0 := hl
    rw [joinL_cons (by simp)] at hl ⊢
    have hl2 := hl
    simp at hl hn hg
    rw [script_step f (by simp) (cut_yes (hf w (by simp)) (by omega)) (by omega) (by omega) (by omega)]
    show _ = some (if (parseS w).2 = 0 then _ else if (parseS w).2 = 6 then _ else _)
    have hlj : (joinL 10 (v :: ws)).length ≤ 100000 := by omega
    split
    · exact script_L (v :: ws) _ (n + 1) f (by simp) (fun x hx => hf x (by simp [hx])) hlj (by simp; omega) (by simp; omega) (by simp; omega)
    · split
      · exact script_L (v :: ws) _ (n + 1) f (by simp) (fun x hx => hf x (by simp [hx])) hlj (by simp; omega) (by simp; omega) (by omega)
      · rfl
theorem script33 {s : List UInt8} (hs : s.length ≤ 100000) : console_Script s = some (scriptL (linesL (splitL 10 s)) [] 1) := by
  have hc := split_cnt 10 s
  have h := script_L (splitL 10 s) [] 1 fuel (splitL_ne _ _) (split_free 10 s) (by rw [join_split]; exact hs) (fuel_gt (by omega)) (by omega) (by simp)
  rw [join_split] at h
  exact h
theorem lines_cons {w : List UInt8} {l : List (List UInt8)} (h : l ≠ []) : linesL (w :: l) = w :: linesL l := by
  cases l with
  | nil => exact absurd rfl h
  | cons v vs => rfl
theorem back_L {l : List S33} (hl : l.length ≤ 1000000) : ∀ (r p : List S33) (f : Nat), l = p ++ r → r.length < f → sennitlaw33_back_L0 l f p (p.length : Int) = some l
  | [], p, f + 1, h, _ => by
    rw [List.append_nil] at h
    rw [sennitlaw33_back_L0]
    simp only [bndD, h, lt_len, bif_ff]
  | b :: r, p, f + 1, h, hf => by
    have hp : p.length + 1 ≤ 1000000 := by rw [h] at hl; simp at hl; omega
    rw [sennitlaw33_back_L0]
    simp only [bndD, lt_at h, bif_tt, gix_at h, bnoS, w_at h hl]
    rw [app_ok (by simp; omega) (by simp; omega), bnoS]
    exact back_L hl r (p ++ [b]) f (next_at h) (by simpa using hf)
theorem same_L {l : List S33} (hl : l.length ≤ 1000000) : ∀ (r p : List S33) (f : Nat), l = p ++ r → r.length < f → sennitref33_SameSteps_L0 l l f (p.length : Int) = some true
  | [], p, f + 1, h, _ => by
    rw [List.append_nil] at h
    rw [sennitref33_SameSteps_L0]
    simp only [bndD, h, lt_len, bif_ff]
  | b :: r, p, f + 1, h, hf => by
    rw [sennitref33_SameSteps_L0]
    simp only [bndD, lt_at h, bif_tt, gix_at h, bnoS, w_at h hl, decide_true, beq_self_eq_true, Bool.and_self, Bool.not_true, bif_ff]
    exact same_L hl r (p ++ [b]) f (next_at h) (by simpa using hf)
theorem same33 {l : List S33} (hl : l.length ≤ 1000000) : sennitref33_SameSteps l l = some true := by
  unfold sennitref33_SameSteps
  rw [bndD, decide_eq_true rfl, Bool.not_true, bif_ff]
  exact same_L hl l [] fuel rfl (fuel_gt (Nat.lt_of_le_of_lt hl (by decide)))
end Go.Fn
