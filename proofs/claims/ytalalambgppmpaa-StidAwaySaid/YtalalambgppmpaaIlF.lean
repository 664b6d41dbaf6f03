/-
  A part of the proof: rules and plain facts. No condition.
-/
import Derived.Test.YtalalambgppmpaaIlE
set_option linter.all false
namespace Go.IL
section
variable {P : Program} {O : Origin} {N : Nat} {S S' : St} {o : Oper} {t : Nat}

theorem D.cells_flat (l : List D) : D.flat l = l.flatMap D.cells := rfl

theorem rd_ref {E : Env} {β : Names} {v : Value} {id off : Nat} (h : Rd E β v (.ref id off)) : ∃ b, β id = some b ∧ v = .pointer (some ⟨b, off, none⟩) := by
  cases h with | ref _ _ _ b hb => exact ⟨b, hb, rfl⟩
theorem rd_fptr {E : Env} {β : Names} {v : Value} {cs : List D} (h : Rd E β v (.fptr cs)) : ∃ b off vs, v = .pointer (some ⟨b, off, none⟩) ∧ E.row b off vs ∧ RdL E β0 vs cs := by
  cases h with | fptr _ b off vs _ h1 h2 => exact ⟨b, off, vs, rfl, h1, h2⟩
theorem rd_agg {E : Env} {β : Names} {v : Value} {cs : List D} (h : Rd E β v (.agg cs)) : ∃ vs : List Value, v = .agg vs.toArray ∧ RdL E β vs cs := by
  cases h with | agg _ vs _ h => exact ⟨vs, rfl, h⟩
theorem rd_tuple {E : Env} {β : Names} {v : Value} {cs : List D} (h : Rd E β v (.tuple cs)) : ∃ vs : List Value, v = .tuple vs.toArray ∧ RdL E β vs cs := by
  cases h with | tuple _ vs _ h => exact ⟨vs, rfl, h⟩
theorem rd_fn {E : Env} {β : Names} {v : Value} {f : FuncId} {cs : List D} (h : Rd E β v (.fn f cs)) : ∃ vs : List Value, v = .func (.func f) #[] vs.toArray ∧ RdL E β vs cs := by
  cases h with | fn _ _ vs _ h => exact ⟨vs, rfl, h⟩
theorem RdL.up {E : Env} {β : Names} {vs : List Value} {ds : List D} (h : RdL E β0 vs ds) : RdL E β vs ds := RdL.mono (Env.le.refl _) (fun _ _ h => by cases h) h
theorem Rd.up {E : Env} {β : Names} {v : Value} {d : D} (h : Rd E β0 v d) : Rd E β v d := Rd.mono (Env.le.refl _) (fun _ _ h => by cases h) h

theorem iop_nilCheck_ref {x : Operand} {id off : Nat} (ho : o.op = .nilCheck x) (hd : o.dst = some t) (ht : t < N) (hx : SV S x (.ref id off)) : IOp P O N o S (S.set t (.ref id off)) :=
  iop_of hd ht fun E β a hr => by
    obtain ⟨b, hb, hev⟩ := rd_ref (hx.rd hr)
    exact ⟨.pointer (some ⟨b, off, none⟩), by simp [execOp, ho, hev], .ref _ _ _ _ hb⟩
theorem iop_nilCheck_fptr {x : Operand} {cs : List D} (ho : o.op = .nilCheck x) (hd : o.dst = some t) (ht : t < N) (hx : SV S x (.fptr cs)) : IOp P O N o S (S.set t (.fptr cs)) :=
  iop_of hd ht fun E β a hr => by
    have h := hx.rd hr
    obtain ⟨b, off, vs, hev, h1, h2⟩ := rd_fptr h
    exact ⟨.pointer (some ⟨b, off, none⟩), by simp [execOp, ho, hev], .fptr _ _ _ _ _ h1 h2⟩

theorem bs_size (l : List UInt8) : (bs l).size = l.length := by simp [bs, ByteArray.size]

/-- A frozen slice, whatever it is made of. -/
theorem rd_slice {E : Env} {β : Names} {v : Value} {f : Bool} {l : List D} (h : Rd E β v (.slice f l)) :
    (v = .slice none 0 0 ∧ l = []) ∨ (∃ b off cap sz vs, v = .slice (some ⟨b, off, none⟩) l.length cap ∧ l.length ≤ cap ∧ (f = true → cap = l.length) ∧ (∀ d ∈ l, d.cells.length = sz) ∧ 0 < sz ∧ E.row b off vs ∧ RdL E β0 vs (D.flat l)) ∨ ∃ ad cap, v = .slice (some ad) 0 cap ∧ l = [] := by
  cases h with
  | slice _ b off len cap sz _ vs _ hl hc hf hz hsz hr hv => subst hl; exact .inr (.inl ⟨b, off, cap, sz, vs, rfl, hc, hf, hz, hsz, hr, hv⟩)
  | nslice => exact .inl ⟨rfl, rfl⟩
  | eslice _ ad cap => exact .inr (.inr ⟨ad, cap, rfl, rfl⟩)

theorem flat_length {sz : Nat} : ∀ {l : List D}, (∀ d ∈ l, d.cells.length = sz) → (D.flat l).length = l.length * sz
  | [], _ => by simp [D.flat]
  | d :: l, h => by
    have h1 := h d (by simp)
    have h2 := flat_length (l := l) (fun d hd => h d (by simp [hd]))
    simp only [D.flat, List.flatMap_cons, List.length_append, List.length_cons] at h2 ⊢
    rw [h1, h2, Nat.add_mul, Nat.one_mul, Nat.add_comm]

theorem flat_at {sz : Nat} : ∀ {l : List D} (_ : ∀ d ∈ l, d.cells.length = sz) (n : Nat) (d : D), l[n]? = some d → ((D.flat l).drop (n * sz)).take sz = d.cells
  | [], _, n, d, h => by simp at h
  | x :: l, hz, 0, d, h => by
    simp at h; subst h
    have h1 := hz x (by simp)
    simp [D.flat, ← h1]
  | x :: l, hz, n + 1, d, h => by
    have h1 := hz x (by simp)
    have h2 := flat_at (l := l) (fun d hd => hz d (by simp [hd])) n d (by simpa using h)
    simp only [D.flat, List.flatMap_cons] at h2 ⊢
    rw [Nat.add_mul, Nat.one_mul, Nat.add_comm, ← h1, List.drop_length_add_append, h1]
    exact h2

theorem Env.row.drop {E : Env} {b off : Nat} {vs : List Value} (h : E.row b off vs) (n : Nat) : E.row b (off + n) (vs.drop n) := fun k v hk => by
  rw [Nat.add_assoc]; exact h (n + k) v (by simpa [List.getElem?_drop] using hk)
theorem Env.row.take {E : Env} {b off : Nat} {vs : List Value} (h : E.row b off vs) (n : Nat) : E.row b off (vs.take n) := fun k v hk => by
  rw [List.getElem?_take] at hk
  split at hk
  · exact h k v hk
  · cases hk

theorem iop_index_slice {T e : TypeId} {x y : Operand} {f : Bool} {l : List D} {k : IntKind} {n : Int} {z : Option Value} {size bytes : Nat} {d : D} {cs : List D} (ho : o.op = .indexAddr T x y) (hd : o.dst = some t) (ht : t < N)
    (hu : P.underlying T = some (.slice e)) (hi : TI P e z size bytes) (hx : SV S x (.slice f l)) (hy : SV S y (.int k n)) (h0 : 0 ≤ n) (hn : l[n.toNat]? = some d) (hcs : d.cells = cs) (hsz : cs.length = size) :
    IOp P O N o S (S.set t (.fptr cs)) :=
  iop_of hd ht fun E β a hr => by
    have hlt : n.toNat < l.length := (List.getElem?_eq_some_iff.1 hn).1
    rcases rd_slice (hx.rd hr) with ⟨_, rfl⟩ | ⟨b, off, cap, sz, vs, hev, hc, _, hz, hsp, hrow, hl⟩ | ⟨_, _, _, rfl⟩
    · simp at hlt
    rotate_left
    · simp at hlt
    · have hsz' : sz = size := by rw [← hsz, ← hcs]; exact (hz d (List.mem_of_getElem? hn)).symm
      subst hsz'
      refine ⟨.pointer (some ⟨b, off + n.toNat * sz, none⟩), ?_, ?_⟩
      · have h1 := rd_int (hy.rd hr)
        have h2 : n < (l.length : Int) := by omega
        simp [execOp, ho, hev, h1, Instr.indexAt, asIntOf, run_underlying hu, h0, h2, hi.run_size, add_none]
      · rw [← hcs, ← flat_at hz n.toNat d hn]
        exact .fptr _ _ _ _ _ ((hrow.drop _).take _) ((hl.drop _).take _)

theorem iop_fieldAddr_ref {T : TypeId} {x : Operand} {i : Nat} {fs : Array Field} {F : Field} {z : Option Value} {size bytes : Nat} {id off : Nat} (ho : o.op = .fieldAddr T x i) (hd : o.dst = some t) (ht : t < N)
    (hu : P.underlying T = some (.struct fs)) (hf : fs[i]? = some F) (hi : TI P F.type z size bytes) (hs : 0 < size) (hx : SV S x (.ref id off)) {off' : Nat} (ho' : off + F.offset = off') : IOp P O N o S (S.set t (.ref id off')) :=
  iop_of hd ht fun E β a hr => by
    obtain ⟨b, hb, hev⟩ := rd_ref (hx.rd hr)
    refine ⟨.pointer (some ⟨b, off', none⟩), ?_, .ref _ _ _ _ hb⟩
    subst ho'
    have hne : ¬ size = 0 := by omega
    simp [execOp, ho, hev, Instr.fieldAt, run_underlying hu, hf, Instr.sureAddr, fieldPlace, hi.run_size, hne, add_none]

theorem iop_fieldAddr_fptr {T : TypeId} {x : Operand} {i : Nat} {fs : Array Field} {F : Field} {z : Option Value} {size bytes : Nat} {cs cs' : List D} (ho : o.op = .fieldAddr T x i) (hd : o.dst = some t) (ht : t < N)
    (hu : P.underlying T = some (.struct fs)) (hf : fs[i]? = some F) (hi : TI P F.type z size bytes) (hs : 0 < size) (hx : SV S x (.fptr cs)) (hcs : (cs.drop F.offset).take size = cs') : IOp P O N o S (S.set t (.fptr cs')) :=
  iop_of hd ht fun E β a hr => by
    obtain ⟨b, off, vs, hev, hrow, hl⟩ := rd_fptr (hx.rd hr)
    refine ⟨.pointer (some ⟨b, off + F.offset, none⟩), ?_, ?_⟩
    · have hne : ¬ size = 0 := by omega
      simp [execOp, ho, hev, Instr.fieldAt, run_underlying hu, hf, Instr.sureAddr, fieldPlace, hi.run_size, hne, add_none]
    · rw [← hcs]; exact .fptr _ _ _ _ _ ((hrow.drop _).take _) ((hl.drop _).take _)

theorem iop_index_ref {T e : TypeId} {len : Nat} {x y : Operand} {k : IntKind} {n : Int} {z : Option Value} {size bytes : Nat} {id off off' : Nat} (ho : o.op = .indexAddr T x y) (hd : o.dst = some t) (ht : t < N)
    (hu : P.underlying T = some (.array len e)) (hi : TI P e z size bytes) (hx : SV S x (.ref id off)) (hy : SV S y (.int k n)) (h0 : 0 ≤ n) (hn : n.toNat < len) (ho' : off + n.toNat * size = off') :
    IOp P O N o S (S.set t (.ref id off')) :=
  iop_of hd ht fun E β a hr => by
    obtain ⟨b, hb, hev⟩ := rd_ref (hx.rd hr)
    refine ⟨.pointer (some ⟨b, off', none⟩), ?_, .ref _ _ _ _ hb⟩
    have h1 := rd_int (hy.rd hr)
    have h2 : n < (len : Int) := by omega
    subst ho'
    simp [execOp, ho, hev, h1, Instr.indexAt, asIntOf, run_underlying hu, h0, h2, hi.run_size, add_none, Instr.sureAddr]

/-- 'len'. -/
theorem iop_len_str {T : TypeId} {x : Operand} {l : List UInt8} {n : Int} (ho : o.op = .call { callee := .builtin .len, args := #[x], argTypes := #[T] }) (hd : o.dst = some t) (ht : t < N) (hu : P.underlying T = some .string)
    (hx : SV S x (.str l)) (hn : (l.length : Int) = n) : IOp P O N o S (S.set t (.int .i64 n)) :=
  iop_of hd ht fun E β a hr => ⟨.int .i64 n, by
    subst hn
    simp [execOp, ho, resolve, invoke, builtin, Builtin.len_, run_underlying hu, rd_str (hx.rd hr), goInt, bs_size], .int _ _ _⟩
theorem iop_len_slice {T e : TypeId} {x : Operand} {f : Bool} {l : List D} {n : Int} (ho : o.op = .call { callee := .builtin .len, args := #[x], argTypes := #[T] }) (hd : o.dst = some t) (ht : t < N) (hu : P.underlying T = some (.slice e))
    (hx : SV S x (.slice f l)) (hn : (l.length : Int) = n) : IOp P O N o S (S.set t (.int .i64 n)) :=
  iop_of hd ht fun E β a hr => ⟨.int .i64 n, by
    subst hn
    rcases rd_slice (hx.rd hr) with ⟨hev, rfl⟩ | ⟨b, off, cap, sz, vs, hev, _⟩ | ⟨ad, cap, hev, rfl⟩ <;>
    simp [execOp, ho, resolve, invoke, builtin, Builtin.len_, run_underlying hu, hev, goInt], .int _ _ _⟩
theorem iop_len_array {T e : TypeId} {m : Nat} {x : Operand} {n : Int} (ho : o.op = .call { callee := .builtin .len, args := #[x], argTypes := #[T] }) (hd : o.dst = some t) (ht : t < N) (hu : P.underlying T = some (.array m e))
    (hn : (m : Int) = n) : IOp P O N o S (S.set t (.int .i64 n)) :=
  iop_of hd ht fun E β a hr => ⟨.int .i64 n, by
    subst hn
    simp [execOp, ho, resolve, invoke, builtin, Builtin.len_, run_underlying hu, goInt], .int _ _ _⟩

theorem iop_extract {x : Operand} {i : Nat} {cs : List D} {d : D} (ho : o.op = .extract x i) (hd : o.dst = some t) (ht : t < N) (hx : SV S x (.tuple cs)) (hc : cs[i]? = some d) : IOp P O N o S (S.set t d) :=
  iop_of hd ht fun E β a hr => by
    obtain ⟨vs, hev, hl⟩ := rd_tuple (hx.rd hr)
    have hlt : i < vs.length := by rw [hl.length]; exact (List.getElem?_eq_some_iff.1 hc).1
    refine ⟨vs[i], ?_, hl.get i (by simp [hlt]) hc⟩
    simp [execOp, ho, hev, Instr.extract, hlt]

theorem run_part {T : TypeId} {u : TypeDesc} {z : Option Value} {size bytes : Nat} (hu : P.underlying T = some u) (hi : TI P T z size bytes) {E : Env} {β : Names} {vs : List Value} {cs : List D} (h : RdL E β vs cs) {off : Nat} (hn : off + size ≤ cs.length) (h1 : 0 < size) (w : World) :
    ∃ v, (part T vs.toArray off).run P w = .ok v w ∧ Rd E β v (D.load (aggOf P T) size (cs.drop off)) := by
  have hlen := h.length
  simp only [D.load]
  cases hag : aggOf P T with
  | true =>
    refine ⟨.agg ((vs.drop off).take size).toArray, ?_, .agg _ _ _ ((h.drop off).take size)⟩
    simp [part, run_isAgg hu, hag, hi.run_size]
  | false =>
    have hlt : off < vs.length := by omega
    have hlt' : off < cs.length := by omega
    refine ⟨vs[off], ?_, ?_⟩
    · simp [part, run_isAgg hu, hag, hlt]
    · have := h.get off (v := vs[off]) (d := cs[off]) (by simp [hlt]) (by simp [hlt'])
      simpa [List.headD_eq_head?_getD, List.head?_drop, hlt'] using this

theorem iop_field {T : TypeId} {x : Operand} {i : Nat} {fs : Array Field} {F : Field} {u : TypeDesc} {z : Option Value} {size bytes : Nat} {cs : List D} {d : D} (ho : o.op = .field T x i) (hd : o.dst = some t) (ht : t < N)
    (hu : P.underlying T = some (.struct fs)) (hf : fs[i]? = some F) (huF : P.underlying F.type = some u) (hi : TI P F.type z size bytes) (hx : SV S x (.agg cs)) (hn : F.offset + size ≤ cs.length) (h1 : 0 < size)
    (hdd : D.load (aggOf P F.type) size (cs.drop F.offset) = d) : IOp P O N o S (S.set t d) :=
  iop_of hd ht fun E β a hr => by
    obtain ⟨vs, hev, hl⟩ := rd_agg (hx.rd hr)
    obtain ⟨v, h2, h3⟩ := run_part (P := P) huF hi hl hn h1 E.w
    subst hdd
    exact ⟨v, by simp [execOp, ho, hev, Instr.field, run_underlying hu, hf, asAgg, h2], h3⟩

theorem iop_index_agg {T e : TypeId} {len : Nat} {x y : Operand} {k : IntKind} {n : Int} {u : TypeDesc} {z : Option Value} {size bytes : Nat} {cs : List D} {d : D} (ho : o.op = .index T x y) (hd : o.dst = some t) (ht : t < N)
    (hu : P.underlying T = some (.array len e)) (hue : P.underlying e = some u) (hi : TI P e z size bytes) (hx : SV S x (.agg cs)) (hy : SV S y (.int k n)) (h0 : 0 ≤ n) (hn : n.toNat < len) (hc : n.toNat * size + size ≤ cs.length) (h1 : 0 < size)
    (hdd : D.load (aggOf P e) size (cs.drop (n.toNat * size)) = d) : IOp P O N o S (S.set t d) :=
  iop_of hd ht fun E β a hr => by
    obtain ⟨vs, hev, hl⟩ := rd_agg (hx.rd hr)
    obtain ⟨v, h2, h3⟩ := run_part (P := P) hue hi hl hc h1 E.w
    subst hdd
    have h4 := rd_int (hy.rd hr)
    have h5 : n < (len : Int) := by omega
    exact ⟨v, by simp [execOp, ho, hev, h4, Instr.index, asIntOf, run_underlying hu, h0, h5, hi.run_size, h2], h3⟩

theorem iop_index_str {T : TypeId} {x y : Operand} {k : IntKind} {n : Int} {l : List UInt8} {c : UInt8} {m : Int} (ho : o.op = .index T x y) (hd : o.dst = some t) (ht : t < N)
    (hu : P.underlying T = some .string) (hx : SV S x (.str l)) (hy : SV S y (.int k n)) (h0 : 0 ≤ n) (hn : l[n.toNat]? = some c) (hm : (c.toNat : Int) = m) : IOp P O N o S (S.set t (.int .u8 m)) :=
  iop_of hd ht fun E β a hr => by
    refine ⟨.int .u8 m, ?_, .int _ _ _⟩
    have h1 := rd_str (hx.rd hr)
    have h2 := rd_int (hy.rd hr)
    have hlt := (List.getElem?_eq_some_iff.1 hn).1
    have hb : (bs l)[n.toNat]? = some c := by
      have hs : n.toNat < (bs l).size := by simpa [bs, ByteArray.size] using hlt
      rw [getElem?_pos (bs l) n.toNat hs]
      have := (List.getElem?_eq_some_iff.1 hn).2
      simp [bs, ByteArray.getElem_eq_getElem_data, this]
    subst hm
    simp [execOp, ho, h1, h2, Instr.index, asIntOf, run_underlying hu, h0, hb]

end
end Go.IL
