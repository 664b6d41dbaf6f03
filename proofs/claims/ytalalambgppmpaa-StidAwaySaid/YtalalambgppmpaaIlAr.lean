/-
  A part of the proof: rules and plain facts. No condition.
-/
import Derived.Test.YtalalambgppmpaaIlFl
import Derived.Test.YtalalambgppmpaaIlU2
set_option linter.all false
open Go.RowKit
namespace Go.IL
/-! Arrays at a place that is known only by its number. -/
def At (cs : List D) (size sz : Nat) : Nat → List (List D) → Prop
  | _, [] => True
  | off, c :: L => (cs.drop off).take size = c ∧ At cs size sz (off + sz) L
theorem At.get {cs : List D} {size sz : Nat} : ∀ {L : List (List D)} {off i : Nat} {c : List D}, At cs size sz off L → L[i]? = some c → (cs.drop (off + i * sz)).take size = c
  | [], _, _, _, _, h => by simp at h
  | x :: L, off, 0, c, h, hi => by
    simp only [List.getElem?_cons_zero, Option.some.injEq] at hi
    subst hi; rw [Nat.zero_mul, Nat.add_zero]; exact h.1
  | x :: L, off, i + 1, c, h, hi => by
    simp only [List.getElem?_cons_succ] at hi
    have := At.get h.2 hi
    rw [← this]; congr 2; rw [Nat.add_mul, Nat.one_mul]; omega
def AllTo : Nat → (Nat → Prop) → Prop
  | 0, _ => True
  | n + 1, p => AllTo n p ∧ p n
theorem AllTo.get : ∀ {n : Nat} {p : Nat → Prop}, AllTo n p → ∀ j, j < n → p j
  | 0, _, _, _, h => by omega
  | n + 1, p, h, j, hj => by
    by_cases e : j = n
    · subst e; exact h.2
    · exact AllTo.get h.1 j (by omega)
theorem take_drop_cons {ds : List D} {off : Nat} {d : D} (h : (ds.drop off).take 1 = [d]) : ds.drop off = d :: ds.drop (off + 1) := by
  cases hd : ds.drop off with
  | nil => rw [hd] at h; cases h
  | cons x r =>
    rw [hd] at h
    simp only [List.take_succ_cons, List.take_zero, List.cons.injEq, and_true] at h
    subst h
    have : ds.drop (off + 1) = r := by rw [← List.drop_drop, hd]; rfl
    rw [this]
section
variable {P : Program} {O : Origin} {N : Nat} {S S' : St} {o : Oper} {t : Nat}
/-- A place of a great array that the call owns. -/
theorem iop_idxA {α : Type} (f : Enc0 α) {T e : TypeId} {len : Nat} {x y : Operand} {xs : List α} {a : α} {k : IntKind} {n : Int} {z : Option Value} {bytes : Nat} {id : Nat} (ho : o.op = .indexAddr T x y) (hd : o.dst = some t) (ht : t < N)
    (hu : P.underlying T = some (.array len e)) (hi : TI P e z f.sz bytes) (hx : SV S x (.ref id 0)) (hl : xs.length = len) (hy : SV S y (.int k n)) (hn : gix xs n = some a) :
    IOp P O N o S (S.set t (.ref id (n.toNat * f.sz + 0))) :=
  iop_index_ref ho hd ht hu hi hx hy (gix_e hn).1 (hl ▸ (List.getElem?_eq_some_iff.1 (gix_e hn).2).1) (by omega)
theorem iop_alloc_A {α : Type} (f : Enc0 α) {e : TypeId} {z : Value} {size bytes n : Nat} {a : α} (id : Nat) (ho : o.op = .alloc e) (hd : o.dst = some t) (ht : t < N) (hf : S.ent id = .fresh) (hz : TI P e (some z) size bytes) (hb : (D.ofVal z).boxable = true) (hcs : (D.ofVal z).cells = D.flat ((List.replicate n a).map f.d)) :
    IOp P O N o S ((S.setE id (.blk e (D.flat ((List.replicate n a).map f.d)))).set t (.ref id 0)) := iop_alloc' id ho hd ht hf hz hb hcs
/-- A place of a small array: its number is known to lie within. -/
theorem iop_index_sel {T e : TypeId} {len : Nat} {x y : Operand} {k : IntKind} {n : Int} {z : Option Value} {size bytes : Nat} {id b : Nat} (ho : o.op = .indexAddr T x y) (hd : o.dst = some t) (ht : t < N)
    (hu : P.underlying T = some (.array len e)) (hi : TI P e z size bytes) (hx : SV S x (.ref id b)) (hy : SV S y (.int k n)) (hn : 0 ≤ n ∧ n < (len : Int)) :
    IOp P O N o S (S.set t (.ref id (b + n.toNat * size + 0))) :=
  iop_index_ref ho hd ht hu hi hx hy hn.1 (by omega) (by omega)
theorem iop_field_sel {T : TypeId} {x : Operand} {i : Nat} {fs : Array Field} {F : Field} {z : Option Value} {size bytes : Nat} {id b k k' : Nat} (ho : o.op = .fieldAddr T x i) (hd : o.dst = some t) (ht : t < N)
    (hu : P.underlying T = some (.struct fs)) (hf : fs[i]? = some F) (hi : TI P F.type z size bytes) (hs : 0 < size) (hx : SV S x (.ref id (b + k))) (ho' : k + F.offset = k') : IOp P O N o S (S.set t (.ref id (b + k'))) :=
  iop_fieldAddr_ref ho hd ht hu hf hi hs hx (by omega)
theorem sel_off {b k i sz : Nat} : b + i * sz + k = b + k + i * sz := by omega
theorem iop_load_sel_s {α : Type} (f : Enc α) {T : TypeId} {x : Operand} {u : TypeDesc} {z : Option Value} {bytes : Nat} {id b k sz : Nat} {e : TypeId} {cs : List D} {xs : List α} {a : α} {i : Int} {d : D} (ho : o.op = .load T x) (hd : o.dst = some t) (ht : t < N)
    (hu : P.underlying T = some u) (hg : aggOf P T = false) (hi : TI P T z 1 bytes) (hx : SV S x (.ref id (b + i.toNat * sz + k))) (he : S.ent id = .blk e cs) (hn : gix xs i = some a)
    (hat : At cs 1 sz (b + k) (xs.map fun x => (f.d x).cells)) (hdd : (f.d a).cells = [d]) : IOp P O N o S (S.set t d) := by
  have h1 := hat.get (i := i.toNat) (c := (f.d a).cells) (by rw [List.getElem?_map, (gix_e hn).2]; rfl)
  rw [hdd, ← sel_off] at h1
  have h2 := take_drop_cons h1
  refine iop_load_rs ho hd ht hu hg hi (by decide) hx he ?_ h2
  have h3 := congrArg List.length h2
  simp only [List.length_drop, List.length_cons] at h3; omega
theorem iop_load_sel_a {α : Type} (f : Enc α) {T : TypeId} {x : Operand} {u : TypeDesc} {z : Option Value} {size bytes : Nat} {id b k sz : Nat} {e : TypeId} {cs ds : List D} {xs : List α} {a : α} {i : Int} (ho : o.op = .load T x) (hd : o.dst = some t) (ht : t < N)
    (hu : P.underlying T = some u) (hg : aggOf P T = true) (hi : TI P T z size bytes) (h0 : 0 < size) (hx : SV S x (.ref id (b + i.toNat * sz + k))) (he : S.ent id = .blk e cs) (hn : gix xs i = some a)
    (hat : At cs size sz (b + k) (xs.map fun x => (f.d x).cells)) (hdd : (f.d a).cells = ds) (hsz : ds.length = size) : IOp P O N o S (S.set t (.agg ds)) := by
  have h1 := hat.get (i := i.toNat) (c := (f.d a).cells) (by rw [List.getElem?_map, (gix_e hn).2]; rfl)
  rw [hdd, ← sel_off] at h1
  refine iop_load_ra ho hd ht hu hg hi h0 hx he ?_ h1
  have h3 := congrArg List.length h1
  rw [List.length_take, List.length_drop] at h3; omega
theorem iop_ix_sel_s {α : Type} (f : Enc α) {T e : TypeId} {len : Nat} {x y : Operand} {k : IntKind} {u : TypeDesc} {z : Option Value} {bytes : Nat} {cs : List D} {xs : List α} {a : α} {i : Int} {d : D} (ho : o.op = .index T x y) (hd : o.dst = some t) (ht : t < N)
    (hu : P.underlying T = some (.array len e)) (hue : P.underlying e = some u) (hg : aggOf P e = false) (hi : TI P e z 1 bytes) (hx : SV S x (.agg cs)) (hy : SV S y (.int k i)) (hn : gix xs i = some a) (hlen : xs.length = len)
    (hat : At cs 1 1 0 (xs.map fun x => (f.d x).cells)) (hdd : (f.d a).cells = [d]) : IOp P O N o S (S.set t d) := by
  have h1 := hat.get (i := i.toNat) (c := (f.d a).cells) (by rw [List.getElem?_map, (gix_e hn).2]; rfl)
  rw [hdd, Nat.zero_add] at h1
  have h2 := take_drop_cons h1
  have h4 := (List.getElem?_eq_some_iff.1 (gix_e hn).2).1
  refine iop_index_agg ho hd ht hu hue hi hx hy (gix_e hn).1 (by omega) ?_ (by decide) (by unfold D.load; rw [hg, h2]; rfl)
  have h3 := congrArg List.length h2
  simp only [List.length_drop, List.length_cons] at h3; omega
theorem iop_ix_sel_a {α : Type} (f : Enc α) {T e : TypeId} {len : Nat} {x y : Operand} {k : IntKind} {u : TypeDesc} {z : Option Value} {size bytes : Nat} {cs ds : List D} {xs : List α} {a : α} {i : Int} (ho : o.op = .index T x y) (hd : o.dst = some t) (ht : t < N)
    (hu : P.underlying T = some (.array len e)) (hue : P.underlying e = some u) (hg : aggOf P e = true) (hi : TI P e z size bytes) (h0 : 0 < size) (hx : SV S x (.agg cs)) (hy : SV S y (.int k i)) (hn : gix xs i = some a) (hlen : xs.length = len)
    (hat : At cs size size 0 (xs.map fun x => (f.d x).cells)) (hdd : (f.d a).cells = ds) (hsz : ds.length = size) : IOp P O N o S (S.set t (.agg ds)) := by
  have h1 := hat.get (i := i.toNat) (c := (f.d a).cells) (by rw [List.getElem?_map, (gix_e hn).2]; rfl)
  rw [hdd, Nat.zero_add] at h1
  have h4 := (List.getElem?_eq_some_iff.1 (gix_e hn).2).1
  refine iop_index_agg ho hd ht hu hue hi hx hy (gix_e hn).1 (by omega) ?_ h0 (by simp [D.load, hg, h1])
  have h3 := congrArg List.length h1
  rw [List.length_take, List.length_drop] at h3; omega
theorem row_part {E : Env} {b off : Nat} {vs : List Value} (h : E.row b off vs) (m n : Nat) : E.row b (off + m) ((vs.drop m).take n) := fun k v hk => by
  rw [List.getElem?_take] at hk
  split at hk
  · rw [List.getElem?_drop] at hk
    have := h (m + k) v hk
    rwa [← Nat.add_assoc] at this
  · cases hk
/-- A place of an array that may be looked at alone. -/
theorem iop_index_fsel {α : Type} (f : Enc α) {T e : TypeId} {len : Nat} {x y : Operand} {k : IntKind} {z : Option Value} {size bytes : Nat} {cs ds : List D} {xs : List α} {a : α} {i : Int} (ho : o.op = .indexAddr T x y) (hd : o.dst = some t) (ht : t < N)
    (hu : P.underlying T = some (.array len e)) (hi : TI P e z size bytes) (hx : SV S x (.fptr cs)) (hy : SV S y (.int k i)) (hn : gix xs i = some a) (hlen : xs.length = len)
    (hat : At cs size size 0 (xs.map fun x => (f.d x).cells)) (hdd : (f.d a).cells = ds) : IOp P O N o S (S.set t (.fptr ds)) :=
  iop_of hd ht fun E β ac hr => by
    obtain ⟨b, off, vs, hev, hrow, hl⟩ := rd_fptr (hx.rd hr)
    have h1 := hat.get (i := i.toNat) (c := (f.d a).cells) (by rw [List.getElem?_map, (gix_e hn).2]; rfl)
    rw [hdd, Nat.zero_add] at h1
    have h4 := (List.getElem?_eq_some_iff.1 (gix_e hn).2).1
    have h0 := (gix_e hn).1
    have h5 : i < (len : Int) := by omega
    have h6 := rd_int (hy.rd hr)
    refine ⟨.pointer (some ⟨b, off + i.toNat * size, none⟩), ?_, ?_⟩
    · simp [execOp, ho, hev, h6, Instr.indexAt, asIntOf, run_underlying hu, h0, h5, hi.run_size, add_none, Instr.sureAddr]
    · exact .fptr _ b _ _ _ (row_part hrow _ size) (by rw [← h1]; exact (hl.drop _).take _)
theorem iop_index_fc {T e : TypeId} {len : Nat} {x y : Operand} {k : IntKind} {z : Option Value} {size bytes : Nat} {cs ds : List D} {i : Int} (ho : o.op = .indexAddr T x y) (hd : o.dst = some t) (ht : t < N)
    (hu : P.underlying T = some (.array len e)) (hi : TI P e z size bytes) (hx : SV S x (.fptr cs)) (hy : SV S y (.int k i)) (h0 : 0 ≤ i) (h5 : i < (len : Int)) (h1 : (cs.drop (i.toNat * size)).take size = ds) : IOp P O N o S (S.set t (.fptr ds)) :=
  iop_of hd ht fun E β ac hr => by
    obtain ⟨b, off, vs, hev, hrow, hl⟩ := rd_fptr (hx.rd hr)
    have h6 := rd_int (hy.rd hr)
    refine ⟨.pointer (some ⟨b, off + i.toNat * size, none⟩), ?_, ?_⟩
    · simp [execOp, ho, hev, h6, Instr.indexAt, asIntOf, run_underlying hu, h0, h5, hi.run_size, add_none, Instr.sureAddr]
    · exact .fptr _ b _ _ _ (row_part hrow _ size) (by rw [← h1]; exact (hl.drop _).take _)
theorem iop_store_sel {T : TypeId} {x y : Operand} {z : Option Value} {size bytes : Nat} {id b k sz n : Nat} {e : TypeId} {cs cs' : List D} {d : D} {i : Int} (ho : o.op = .store T x y) (hd : o.dst = none)
    (hi : TI P T z size bytes) (hx : SV S x (.ref id (b + i.toNat * sz + k))) (he : S.ent id = .blk e cs) (hy : SV S y d) (hb : d.boxable = true) (hsz : d.cells.length = size) (h1 : d.cells.all D.one = true)
    (hn : 0 ≤ i ∧ i < (n : Int)) (hlen : Nat.ble (b + (n - 1) * sz + k + size) cs.length = true) (hall : AllTo n fun j => i = (j : Int) → splice cs (b + j * sz + k) d.cells = cs') : IOp P O N o S (S.setE id (.blk e cs')) := by
  have h2 := hall.get i.toNat (by omega) (by omega)
  refine iop_store_ref ho hd hi hx he hy hb hsz h1 ?_ h2
  have h3 := Nat.le_of_ble_eq_true hlen
  have h4 : i.toNat * sz ≤ (n - 1) * sz := Nat.mul_le_mul_right _ (by omega)
  omega
theorem iop_eqE {α : Type} {f : Enc0 α} {e : TypeId} {xs zs : List α} {id : Nat} {r : D} (h : xs = zs) (k : IOp P O N o S ((S.setE id (.blk e (D.flat (xs.map f.d)))).set t r)) : IOp P O N o S ((S.setE id (.blk e (D.flat (zs.map f.d)))).set t r) := h ▸ k
end
end Go.IL
