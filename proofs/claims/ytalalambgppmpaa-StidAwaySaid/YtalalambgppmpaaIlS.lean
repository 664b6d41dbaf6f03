/-
  A part of the proof: rules and plain facts. No condition.
-/
import Derived.Test.YtalalambgppmpaaIlR
set_option linter.all false
namespace Go.IL
section
variable {P : Program} {O : Origin} {N : Nat} {S S' : St} {o : Oper} {t : Nat} {Q : Exit → St → Prop}

theorem iwp_reg {id : Nat} {l : List Oper} {y : Code} (h : ILS P O N l.toArray l S (fun e S' => e = .normal ∧ IWP P O N y S' Q)) : IWP P O N (.seq (.region id l.toArray false) y) S Q :=
  iwp_seq (iwp_mono (iwp_region h) fun e S' ⟨h1, h2⟩ => by subst h1; exact h2)
theorem ils_end {ops : Array Oper} {y : Code} (h : IWP P O N y S Q) : ILS P O N ops [] S (fun e S' => e = .normal ∧ IWP P O N y S' Q) := ils_nil ⟨rfl, h⟩
theorem iwp_drw {id : Nat} {l : List Oper} {y : Code} (hm : P.follows .mixedOrders = true) (nds : List Node) (hlen : nds.length = l.length)
    (hd : DSeq P O N l.toArray 0 S nds) (hchk : lexIL l.toArray nds l.length 0 (Array.replicate l.length false) = true) (h : IWP P O N y (seqS S nds) Q) : IWP P O N (.seq (.region id l.toArray true) y) S Q :=
  iwp_seq (iwp_draw hm nds hlen hd hchk h)
theorem thenQ_n {k : St → Prop} (h : k S) : thenQ k Q .normal S := h
theorem thenQ_r {k : St → Prop} (h : Q .ret S) : thenQ k Q .ret S := h
theorem thenQ_e {k : St → Prop} {i : Nat} (h : Q (.exit i) S) : thenQ k Q (.exit i) S := h
theorem blockQ_n {i : Nat} (h : Q .normal S) : blockQ i Q .normal S := h
theorem blockQ_r {i : Nat} (h : Q .ret S) : blockQ i Q .ret S := h
theorem blockQ_e {i : Nat} (h : Q .normal S) : blockQ i Q (.exit i) S := by simp only [blockQ, if_true]; exact h
theorem blockQ_x {i j : Nat} (hn : (j == i) = false) (h : Q (.exit j) S) : blockQ i Q (.exit j) S := by
  have : ¬ j = i := by simpa using hn
  simp only [blockQ, if_neg this]; exact h

theorem iwp_cond {c : Operand} {x y : Code} {b : Bool} (hc : S.op c = .bool b) (h1 : b = true → IWP P O N x S Q) (h2 : b = false → IWP P O N y S Q) : IWP P O N (.cond c x y) S Q :=
  fun E β a hr => by
    have := rd_bool (show Rd E β (a.eval c) (.bool b) from hc ▸ hr.op c)
    exact wpIn_cond_split this (fun h => h1 h E β a hr) (fun h => h2 h E β a hr)
theorem iwp_cond_t {c : Operand} {x y : Code} {b : Bool} (hc : S.op c = .bool b) (hb : b = true) (h1 : IWP P O N x S Q) : IWP P O N (.cond c x y) S Q :=
  iwp_cond hc (fun _ => h1) (fun h => by rw [hb] at h; cases h)
theorem iwp_cond_f {c : Operand} {x y : Code} {b : Bool} (hc : S.op c = .bool b) (hb : b = false) (h1 : IWP P O N y S Q) : IWP P O N (.cond c x y) S Q :=
  iwp_cond hc (fun h => by rw [hb] at h; cases h) (fun _ => h1)

theorem agr {n : Node} {S0 : St} {s : Nat} {d : D} (hA : Agree n S S0) (hm : n.rs.elem s = true) (h : S0.get s = d) : S.op (.tmp s) = d := (hA.1 s (List.elem_iff.1 hm)).trans h
theorem agi {n : Node} {S0 : St} {i : Nat} {e : Ent} (hA : Agree n S S0) (hm : n.ri.elem i = true) (h : S0.ent i = e) : S.ent i = e := (hA.2 i (List.elem_iff.1 hm)).trans h
theorem lop {ops : Array Oper} {i : Nat} {S0 : St} {n : Node} (ho : ops[i]? = some o) (hg : quiet o = true) (h : ∀ S, Agree n S S0 → IOp P O N o S (S.upd n)) : LOp P O N ops i S0 n :=
  fun S hA => gop_plain ho hg (h S hA)
theorem grd1 {n : Node} {S0 : St} {tj : Nat} {want b : Bool} (hA : Agree n S S0) (hm : n.rs.elem tj = true) (h : S0.get tj = .bool b) : Grd S tj want (b == want) := .one ((hA.1 tj (List.elem_iff.1 hm)).trans h)
theorem grd2 {n : Node} {S0 : St} {tj : Nat} {want c b : Bool} (hA : Agree n S S0) (hm : n.rs.elem tj = true) (h : S0.get tj = .cnd c (.bool b)) : Grd S tj want (c && (b == want)) := .two ((hA.1 tj (List.elem_iff.1 hm)).trans h)
theorem lopg {ops : Array Oper} {i : Nat} {S0 : St} {rs ri : List Nat} {d : D} {j tj : Nat} {want g : Bool} (ho : ops[i]? = some o) (hg : o.guard = some (j, want)) (hj : (ops[j]?).bind (·.dst) = some tj)
    (hd : (o.dst, noDefer o.op) = (some t, true)) (ht : t < N) (hb : ∀ S, Agree ⟨rs, ri, [(t, .cnd g d)], []⟩ S S0 → Grd S tj want g) (h : ∀ S, Agree ⟨rs, ri, [(t, .cnd g d)], []⟩ S S0 → g = true → IOp P O N o S (S.set t d)) : LOp P O N ops i S0 ⟨rs, ri, [(t, .cnd g d)], []⟩ :=
  fun S hA => gop_guard ho hg hj (hb S hA) hd ht (h S hA)

theorem map_at {α : Type} [Inhabited α] {f : α → D} {xs : List α} {i : Nat} (h : i < xs.length) : (xs.map f)[i]? = some (f (xs.getD i default)) := by
  simp [h]

theorem wrap64 {n : Int} (h1 : -9223372036854775808 ≤ n) (h2 : n ≤ 9223372036854775807) : IntKind.i64.wrap n = n := by
  rw [IntKind.wrap_i64]; omega

theorem iop_add64 {xt yt : TypeId} {x y : Operand} {a b : Int} (ho : o.op = .binOp .add xt x y yt) (hd : o.dst = some t) (ht : t < N)
    (hx : SV S x (.int .i64 a)) (hy : SV S y (.int .i64 b)) (h1 : -9223372036854775808 ≤ a + b) (h2 : a + b ≤ 9223372036854775807) : IOp P O N o S (S.set t (.int .i64 (a + b))) :=
  iop_int2 ho hd ht hx hy (by simp only [int2, wrap64 h1 h2])
theorem iop_sub64 {xt yt : TypeId} {x y : Operand} {a b : Int} (ho : o.op = .binOp .sub xt x y yt) (hd : o.dst = some t) (ht : t < N)
    (hx : SV S x (.int .i64 a)) (hy : SV S y (.int .i64 b)) (h1 : -9223372036854775808 ≤ a - b) (h2 : a - b ≤ 9223372036854775807) : IOp P O N o S (S.set t (.int .i64 (a - b))) :=
  iop_int2 ho hd ht hx hy (by simp only [int2, wrap64 h1 h2])
theorem iop_mul64 {xt yt : TypeId} {x y : Operand} {a b : Int} (ho : o.op = .binOp .mul xt x y yt) (hd : o.dst = some t) (ht : t < N)
    (hx : SV S x (.int .i64 a)) (hy : SV S y (.int .i64 b)) (h1 : -9223372036854775808 ≤ a * b) (h2 : a * b ≤ 9223372036854775807) : IOp P O N o S (S.set t (.int .i64 (a * b))) :=
  iop_int2 ho hd ht hx hy (by simp only [int2, wrap64 h1 h2])
theorem iop_rem64 {xt yt : TypeId} {x y : Operand} {k : IntKind} {a b : Int} (ho : o.op = .binOp .rem xt x y yt) (hd : o.dst = some t) (ht : t < N)
    (hx : SV S x (.int k a)) (hy : SV S y (.int k b)) (h1 : 0 ≤ a) (h2 : 0 < b) : IOp P O N o S (S.set t (.int k (a % b))) :=
  iop_int2 ho hd ht hx hy (by
    have : ¬ b = 0 := by omega
    simp only [int2, if_neg this, Int.tmod_eq_emod_of_nonneg h1])
theorem iop_quo64 {xt yt : TypeId} {x y : Operand} {a b : Int} (ho : o.op = .binOp .quo xt x y yt) (hd : o.dst = some t) (ht : t < N)
    (hx : SV S x (.int .i64 a)) (hy : SV S y (.int .i64 b)) (h1 : 0 ≤ a) (h1' : a ≤ 9223372036854775807) (h2 : 0 < b) : IOp P O N o S (S.set t (.int .i64 (a / b))) :=
  iop_int2 ho hd ht hx hy (by
    have : ¬ b = 0 := by omega
    have h3 : a / b ≤ a := Int.ediv_le_self b h1
    have h4 : 0 ≤ a / b := Int.ediv_nonneg h1 (by omega)
    simp only [int2, if_neg this, Int.tdiv_eq_ediv_of_nonneg h1, wrap64 (n := a / b) (by omega) (by omega)])
theorem iop_shr {xt yt : TypeId} {x y : Operand} {k k' : IntKind} {a b : Int} {n : Nat} (ho : o.op = .binOp .shr xt x y yt) (hd : o.dst = some t) (ht : t < N)
    (hx : SV S x (.int k a)) (hy : SV S y (.int k' b)) (hb : b = n) (hn : n ≤ k.bits) : IOp P O N o S (S.set t (.int k (a / 2 ^ n))) :=
  iop_shift ho hd ht hx hy (by
    subst hb
    have h1 : ¬ ((n : Int) < 0) := by omega
    simp only [shift2, if_neg h1, Int.toNat_natCast, Nat.min_eq_left hn]
    rw [Int.fdiv_eq_ediv_of_nonneg _ (Int.le_of_lt (Int.pow_pos (by decide)))])
theorem iop_shl {xt yt : TypeId} {x y : Operand} {k k' : IntKind} {a b : Int} {n : Nat} (ho : o.op = .binOp .shl xt x y yt) (hd : o.dst = some t) (ht : t < N)
    (hx : SV S x (.int k a)) (hy : SV S y (.int k' b)) (hb : b = n) (hn : n ≤ k.bits) : IOp P O N o S (S.set t (.int k (k.wrap (a * 2 ^ n)))) :=
  iop_shift ho hd ht hx hy (by
    subst hb
    have h1 : ¬ ((n : Int) < 0) := by omega
    simp only [shift2, if_neg h1, Int.toNat_natCast, Nat.min_eq_left hn])

theorem iop_eqb {xt yt : TypeId} {x y : Operand} {a b : Bool} (ho : o.op = .binOp .eql xt x y yt) (hd : o.dst = some t) (ht : t < N) (hu : P.underlying xt = some .bool)
    (hx : SV S x (.bool a)) (hy : SV S y (.bool b)) : IOp P O N o S (S.set t (.bool (a == b))) := iop_bool2 ho hd ht hu hx hy (.inl ⟨rfl, rfl⟩)
theorem iop_neb {xt yt : TypeId} {x y : Operand} {a b : Bool} (ho : o.op = .binOp .neq xt x y yt) (hd : o.dst = some t) (ht : t < N) (hu : P.underlying xt = some .bool)
    (hx : SV S x (.bool a)) (hy : SV S y (.bool b)) : IOp P O N o S (S.set t (.bool !(a == b))) := iop_bool2 ho hd ht hu hx hy (.inr ⟨rfl, rfl⟩)

theorem iop_conv_same {st dt : TypeId} {x : Operand} {k : IntKind} {a : Int} (ho : o.op = .convert st dt x) (hd : o.dst = some t) (ht : t < N) (hs : ∃ u, P.underlying st = some u) (hu : P.underlying dt = some (.int k)) (hx : SV S x (.int k a)) (h1 : k.min ≤ a) (h2 : a ≤ k.max) :
    IOp P O N o S (S.set t (.int k a)) := iop_int_conv ho hd ht hs hu hx (by
  cases k <;> simp [IntKind.min, IntKind.max, IntKind.signed, IntKind.bits, IntKind.wrap] at h1 h2 ⊢ <;> omega)

theorem iop_load_rs {T : TypeId} {x : Operand} {u : TypeDesc} {z : Option Value} {size bytes : Nat} {id off : Nat} {e : TypeId} {ds r : List D} {d : D} (ho : o.op = .load T x) (hd : o.dst = some t) (ht : t < N)
    (hu : P.underlying T = some u) (hg : aggOf P T = false) (hi : TI P T z size bytes) (h1 : 0 < size) (hx : SV S x (.ref id off)) (he : S.ent id = .blk e ds) (hn : off + size ≤ ds.length)
    (hdd : ds.drop off = d :: r) : IOp P O N o S (S.set t d) :=
  iop_load_ref ho hd ht hu hi hx he hn h1 (by simp [D.load, hg, hdd])
theorem iop_load_ra {T : TypeId} {x : Operand} {u : TypeDesc} {z : Option Value} {size bytes : Nat} {id off : Nat} {e : TypeId} {ds cs : List D} (ho : o.op = .load T x) (hd : o.dst = some t) (ht : t < N)
    (hu : P.underlying T = some u) (hg : aggOf P T = true) (hi : TI P T z size bytes) (h1 : 0 < size) (hx : SV S x (.ref id off)) (he : S.ent id = .blk e ds) (hn : off + size ≤ ds.length)
    (hdd : (ds.drop off).take size = cs) : IOp P O N o S (S.set t (.agg cs)) :=
  iop_load_ref ho hd ht hu hi hx he hn h1 (by simp [D.load, hg, hdd])
theorem iop_load_fs {T : TypeId} {x : Operand} {u : TypeDesc} {z : Option Value} {size bytes : Nat} {r : List D} {d : D} (ho : o.op = .load T x) (hd : o.dst = some t) (ht : t < N)
    (hu : P.underlying T = some u) (hg : aggOf P T = false) (hi : TI P T z size bytes) (h1 : 0 < size) (hx : SV S x (.fptr (d :: r))) (hn : size ≤ (d :: r).length) : IOp P O N o S (S.set t d) :=
  iop_load_fptr ho hd ht hu hi hx hn h1 (by simp [D.load, hg])
theorem iop_load_fa {T : TypeId} {x : Operand} {u : TypeDesc} {z : Option Value} {size bytes : Nat} {ds cs : List D} (ho : o.op = .load T x) (hd : o.dst = some t) (ht : t < N)
    (hu : P.underlying T = some u) (hg : aggOf P T = true) (hi : TI P T z size bytes) (h1 : 0 < size) (hx : SV S x (.fptr ds)) (hn : size ≤ ds.length) (hdd : ds.take size = cs) : IOp P O N o S (S.set t (.agg cs)) :=
  iop_load_fptr ho hd ht hu hi hx hn h1 (by simp [D.load, hg, hdd])
theorem iop_field_s {T : TypeId} {x : Operand} {i : Nat} {fs : Array Field} {F : Field} {u : TypeDesc} {z : Option Value} {size bytes : Nat} {cs r : List D} {d : D} (ho : o.op = .field T x i) (hd : o.dst = some t) (ht : t < N)
    (hu : P.underlying T = some (.struct fs)) (hf : fs[i]? = some F) (huF : P.underlying F.type = some u) (hg : aggOf P F.type = false) (hi : TI P F.type z size bytes) (h1 : 0 < size) (hx : SV S x (.agg cs)) (hn : F.offset + size ≤ cs.length)
    (hdd : cs.drop F.offset = d :: r) : IOp P O N o S (S.set t d) :=
  iop_field ho hd ht hu hf huF hi hx hn h1 (by simp [D.load, hg, hdd])
theorem iop_field_a {T : TypeId} {x : Operand} {i : Nat} {fs : Array Field} {F : Field} {u : TypeDesc} {z : Option Value} {size bytes : Nat} {cs r : List D} (ho : o.op = .field T x i) (hd : o.dst = some t) (ht : t < N)
    (hu : P.underlying T = some (.struct fs)) (hf : fs[i]? = some F) (huF : P.underlying F.type = some u) (hg : aggOf P F.type = true) (hi : TI P F.type z size bytes) (h1 : 0 < size) (hx : SV S x (.agg cs)) (hn : F.offset + size ≤ cs.length)
    (hdd : (cs.drop F.offset).take size = r) : IOp P O N o S (S.set t (.agg r)) :=
  iop_field ho hd ht hu hf huF hi hx hn h1 (by simp [D.load, hg, hdd])

/-- A store of known form. -/
theorem iop_store {T : TypeId} {x y : Operand} {z : Option Value} {size bytes : Nat} {id off : Nat} {e : TypeId} {ds ds' : List D} {d : D} (ho : o.op = .store T x y) (hd : o.dst = none)
    (hi : TI P T z size bytes) (hx : SV S x (.ref id off)) (he : S.ent id = .blk e ds) (hy : SV S y d) (hb : d.boxable = true) (hsz : d.cells.length = size) (h1 : d.cells.all D.one = true)
    (hn : off + size ≤ ds.length) (hds : splice ds off d.cells = ds') : IOp P O N o S (S.setE id (.blk e ds')) :=
  iop_store_ref ho hd hi hx he hy hb hsz h1 hn hds

theorem iop_box' {e : TypeId} {x : Operand} {d : D} {cs : List D} (id : Nat) (ho : o.op = .box e x) (hd : o.dst = some t) (ht : t < N) (hf : S.ent id = .fresh) (hx : SV S x d) (hb : d.boxable = true) (hcs : d.cells = cs) :
    IOp P O N o S ((S.setE id (.blk e cs)).set t (.ref id 0)) := hcs ▸ iop_box id ho hd ht hf hx hb
theorem iop_alloc' {e : TypeId} {z : Value} {size bytes : Nat} {cs : List D} (id : Nat) (ho : o.op = .alloc e) (hd : o.dst = some t) (ht : t < N) (hf : S.ent id = .fresh) (hz : TI P e (some z) size bytes) (hb : (D.ofVal z).boxable = true) (hcs : (D.ofVal z).cells = cs) :
    IOp P O N o S ((S.setE id (.blk e cs)).set t (.ref id 0)) := hcs ▸ iop_alloc id ho hd ht hf hz hb


theorem nle {a b : Nat} (h : Nat.ble a b = true) : a ≤ b := Nat.le_of_ble_eq_true h

theorem iop_idx {T e : TypeId} {x y : Operand} {f : Bool} {l : List D} {k : IntKind} {n : Int} {i : Nat} {z : Option Value} {size bytes : Nat} {d : D} {cs : List D} (ho : o.op = .indexAddr T x y) (hd : o.dst = some t) (ht : t < N)
    (hu : P.underlying T = some (.slice e)) (hi : TI P e z size bytes) (hx : SV S x (.slice f l)) (hy : SV S y (.int k n)) (h0 : n = (i : Int)) (hn : l[i]? = some d) (hcs : d.cells = cs) (hsz : cs.length = size) :
    IOp P O N o S (S.set t (.fptr cs)) := by
  subst h0
  exact iop_index_slice ho hd ht hu hi hx hy (by omega) (by simpa using hn) hcs hsz

theorem svg_of {x : Operand} {id sz : Nat} {l m : List D} (h : S.op x = .gsl id sz l) (e : l = m) : SV S x (.slice false m) := e ▸ svg h
theorem svn_of {x : Operand} {f : Bool} {l : List D} (h : S.op x = .nils) (e : l = []) : SV S x (.slice f l) := e ▸ svn h

theorem resv_a {x : Nat} {T : TypeId} {id off : Nat} {e : TypeId} {ds cs : List D} {u : TypeDesc} {z : Option Value} {size bytes : Nat} (hx : S.get x = .ref id off) (he : S.ent id = .blk e ds) (hu : P.underlying T = some u) (hg : aggOf P T = true) (hi : TI P T z size bytes)
    (h1 : 0 < size) (hn : off + size ≤ ds.length) (hd : (ds.drop off).take size = cs) : ResV P S (.cell x T) (.agg cs) :=
  ⟨id, off, e, ds, u, z, size, bytes, sv hx, he, hu, hi, hn, h1, by simp [D.load, hg, hd]⟩
theorem resv_s {x : Nat} {T : TypeId} {id off : Nat} {e : TypeId} {ds : List D} {d : D} {u : TypeDesc} {z : Option Value} {size bytes : Nat} (hx : S.get x = .ref id off) (he : S.ent id = .blk e ds) (hu : P.underlying T = some u) (hg : aggOf P T = false) (hi : TI P T z size bytes)
    (h1 : 0 < size) (hn : off + size ≤ ds.length) (hd : ds[off]? = some d) : ResV P S (.cell x T) d :=
  ⟨id, off, e, ds, u, z, size, bytes, sv hx, he, hu, hi, hn, h1, by simp [D.load, hg, List.headD_eq_head?_getD, List.head?_drop, hd]⟩

def fieldsOf (P : Program) (T : TypeId) : Array Field := match P.underlying T with | some (.struct fs) => fs | _ => #[]

end
end Go.IL
