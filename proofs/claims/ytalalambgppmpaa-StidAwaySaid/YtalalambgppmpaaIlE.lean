/-
  A part of the proof: rules and plain facts. No condition.
-/
import Derived.Test.YtalalambgppmpaaIlM
set_option linter.all false
namespace Go.IL

def D.boxable : D → Bool
  | .dead | .tuple _ | .cnd _ _ => false
  | _ => true

theorem add_none (b off k : Nat) : (⟨b, off, none⟩ : Addr).add k = ⟨b, off + k, none⟩ := by
  unfold Addr.add; split
  · rename_i h; subst h; rfl
  · rfl

theorem rd_cells {E : Env} {β : Names} {v : Value} {d : D} (h : Rd E β v d) (hb : d.boxable = true) : RdL E β v.cells.toList d.cells := by
  cases h with
  | dead => cases hb
  | tuple => cases hb
  | cnd => cases hb
  | agg _ vs cs h => simpa [Value.cells, D.cells] using h
  | _ =>
    simp only [Value.cells, D.cells]
    refine .cons ?_ (.nil _)
    constructor <;> assumption

theorem RdL.length {E : Env} {β : Names} : ∀ {vs : List Value} {ds : List D}, RdL E β vs ds → vs.length = ds.length
  | _, _, .nil _ => rfl
  | _, _, .cons _ t => by simp [RdL.length t]
theorem RdL.append {E : Env} {β : Names} {vs us : List Value} {ds es : List D} (h : RdL E β vs ds) (k : RdL E β us es) : RdL E β (vs ++ us) (ds ++ es) := by
  induction vs generalizing ds with
  | nil => cases h; exact k
  | cons v vs ih => cases h with | cons h t => exact .cons h (ih t)
theorem RdL.take {E : Env} {β : Names} (n : Nat) : ∀ {vs : List Value} {ds : List D}, RdL E β vs ds → RdL E β (vs.take n) (ds.take n) := by
  induction n with
  | zero => intro vs ds _; simpa using RdL.nil β
  | succ n ih => intro vs ds h; cases h with
    | nil => simpa using RdL.nil β
    | cons h t => simpa using RdL.cons h (ih t)
theorem RdL.drop {E : Env} {β : Names} (n : Nat) : ∀ {vs : List Value} {ds : List D}, RdL E β vs ds → RdL E β (vs.drop n) (ds.drop n) := by
  induction n with
  | zero => intro vs ds h; simpa using h
  | succ n ih => intro vs ds h; cases h with
    | nil => simpa using RdL.nil β
    | cons h t => simpa using ih t
theorem RdL.get {E : Env} {β : Names} : ∀ {vs : List Value} {ds : List D} (n : Nat) {v : Value} {d : D}, RdL E β vs ds → vs[n]? = some v → ds[n]? = some d → Rd E β v d
  | _, _, n, _, _, .nil _, h, _ => by simp at h
  | _, _, 0, _, _, .cons h _, h1, h2 => by simp at h1 h2; subst h1; subst h2; exact h
  | _, _, n + 1, _, _, .cons _ t, h1, h2 => RdL.get n t (by simpa using h1) (by simpa using h2)
theorem RdL.split {E : Env} {β : Names} : ∀ {ds es : List D} {vs : List Value}, RdL E β vs (ds ++ es) → ∃ us ws, vs = us ++ ws ∧ RdL E β us ds ∧ RdL E β ws es
  | [], _, vs, h => ⟨[], vs, rfl, .nil _, h⟩
  | _ :: ds, es, _, .cons h t => let ⟨us, ws, h1, h2, h3⟩ := RdL.split (ds := ds) t; ⟨_ :: us, ws, by rw [h1]; rfl, .cons h h2, h3⟩

/-- What is stored in one cell is no aggregate. -/
def D.one : D → Bool
  | .agg _ => false
  | d => d.boxable
theorem rd_one {E : Env} {β : Names} {v : Value} {d : D} (h : Rd E β v d) (ho : d.one = true) : v.oneCell' = true := by
  cases h <;> first | rfl | (simp [D.one, D.boxable] at ho)
theorem rdl_one {E : Env} {β : Names} : ∀ {vs : List Value} {ds : List D}, RdL E β vs ds → ds.all D.one = true → ∀ v ∈ vs, v.oneCell' = true
  | _, _, .nil _, _, v, hv => by cases hv
  | _, _, .cons h t, ho, v, hv => by
    simp only [List.all_cons, Bool.and_eq_true] at ho
    cases hv with
    | head => exact rd_one h ho.1
    | tail _ hv => exact rdl_one t ho.2 v hv

/-- What the table says of a type. -/
def TI (P : Program) (t : TypeId) (z : Option Value) (size bytes : Nat) : Prop := (P.info? t).map (fun i => (i.zero, i.size, i.bytes)) = some (z, size, bytes)
theorem TI.at {P : Program} {t : TypeId} {z : Option Value} {size bytes : Nat} (h : TI P t z size bytes) : ∃ i, P.info? t = some i ∧ i.zero = z ∧ i.size = size ∧ i.bytes = bytes := by
  unfold TI at h
  cases hi : P.info? t with
  | none => simp [hi] at h
  | some i => simp [hi] at h; exact ⟨i, rfl, h.1, h.2.1, h.2.2⟩
theorem TI.run_size {P : Program} {t : TypeId} {z : Option Value} {size bytes : Nat} (h : TI P t z size bytes) (w : World) : (sizeOf t).run P w = .ok size w := by
  obtain ⟨i, hi, _, hs, _⟩ := h.at
  simp [sizeOf, typeInfo, hi, hs]

section
variable {P : Program} {O : Origin} {N : Nat} {S S' : St} {o : Oper} {t : Nat}

/-- A new block of the call's own. -/
theorem iop_new {e : TypeId} {id : Nat} {ds : List D} (hd : o.dst = some t) (ht : t < N) (hf : S.ent id = .fresh)
    (h : ∀ E β a, Rel O N S E β a → ∃ vs : List Value, (execOp a.eval o).run P E.w = .ok (.value (.pointer (some ⟨E.w.heap.size, 0, none⟩))) (E.w.alloc (.cells vs.toArray e)) ∧ RdL E β vs ds) :
    IOp P O N o S ((S.setE id (.blk e ds)).set t (.ref id 0)) := by
  intro E β a hr next Q hn
  obtain ⟨vs, hrun, hv⟩ := h E β a hr
  unfold Oper.wp
  rw [hrun]
  simp only [Oper.upon, hd]
  have hfr : β id = none := by have := hr.h.ent id; rw [hf] at this; exact this
  let E' : Env := ⟨E.w.alloc (.cells vs.toArray e), fun b o => b = E.w.heap.size ∨ E.X b o⟩
  let β' : Names := fun j => if j = id then some E.w.heap.size else β j
  have hβ : β.le β' := fun j b hj => by
    by_cases hji : j = id
    · subst hji; rw [hfr] at hj; cases hj
    · simp [β', hji, hj]
  have hs : Step O E E' E.w.heap.size :=
    ⟨rfl, rfl, rfl, by simp [E'], by simp [E'], .inl hr.h.size, fun k hk _ => heap_alloc_old _ _ hk, fun k o hk => by simp [E', hk], fun _ h => Nat.lt_irrefl _ (heap_lt h)⟩
  have hle : E.le E' := hs.le (fun o v h1 _ => by have := World.block_lt_of_cell? _ _ h1; simp at this) (fun c e f h1 => by have := heap_lt h1; simp at this)
  refine hn E' β' _ ⟨by simp [Act.put, hr.n], hr.nd.step hs, ?_, ?_⟩
  · refine HOk.put hr.h hs hle hβ ?_ ?_ (id := id) (by simp [β']) ?_ (fun _ _ => trivial)
    · intro j hj; left; constructor
      · simp [St.ent, entL, St.setE, St.set, look_cons, Ne.symm hj]
      · simp [β', hj]
    · intro j hj hheld hb
      have : (S.ent j).held = true := by simpa [St.ent, entL, St.setE, St.set, look_cons, Ne.symm hj] using hheld
      exact Nat.lt_irrefl _ (hr.h.lt this hb)
    · simp only [St.ent, entL, St.setE, St.set, look_cons, if_true]
      exact ⟨vs, [], by rw [List.append_nil]; exact heap_alloc_new _ _, fun o => .inl rfl, RdL.mono hle hβ hv⟩
  · intro s
    have hts : t < a.tmps.size := hr.n ▸ ht
    by_cases hst : t = s
    · subst hst
      simp only [Act.put, St.get, St.set, look_cons, if_true, Array.getD_eq_getD_getElem?, Array.getElem?_setIfInBounds_self, hts, Option.getD_some]
      exact .ref _ _ _ _ (by simp [β'])
    · have := Rd.mono hle hβ (hr.sl s)
      simpa [Act.put, St.get, St.set, St.setE, look_cons, hst, Array.getElem?_setIfInBounds_ne] using this

theorem iop_box {e : TypeId} {x : Operand} {d : D} (id : Nat) (ho : o.op = .box e x) (hd : o.dst = some t) (ht : t < N) (hf : S.ent id = .fresh) (hx : SV S x d) (hb : d.boxable = true) :
    IOp P O N o S ((S.setE id (.blk e d.cells)).set t (.ref id 0)) :=
  iop_new hd ht hf fun E β a hr => ⟨(a.eval x).cells.toList, by simp [execOp, ho, Instr.box, newVar, newRow], rd_cells (hx.rd hr) hb⟩

theorem iop_alloc {e : TypeId} {z : Value} {size bytes : Nat} (id : Nat) (ho : o.op = .alloc e) (hd : o.dst = some t) (ht : t < N) (hf : S.ent id = .fresh) (hz : TI P e (some z) size bytes) (hb : (D.ofVal z).boxable = true) :
    IOp P O N o S ((S.setE id (.blk e (D.ofVal z).cells)).set t (.ref id 0)) :=
  iop_new hd ht hf fun E β a hr => by
    obtain ⟨i, hi, hz, _⟩ := hz.at
    exact ⟨z.cells.toList, by simp [execOp, ho, Instr.alloc, zeroValue, typeInfo, hi, hz, newVar, newRow], rd_cells (rd_ofVal E β z) hb⟩

/-- Cells of a row that is known whole. -/
theorem run_cells_of {w : World} {b off n : Nat} {vs : List Value} {e : TypeId} {f : Nat × Nat} (h : w.heap[b]? = some (.cells vs.toArray e f)) (hn : off + n ≤ vs.length) :
    (loadCells ⟨b, off, none⟩ n).run P w = .ok ((vs.drop off).take n).toArray w := by
  have := run_loadCells_list (P := P) w ⟨b, off, none⟩ ((vs.drop off).take n) (fun j v hj => by
    rw [add_none, cell_of_row w b _ _ e f h]
    rw [List.getElem?_take] at hj
    split at hj
    · simpa [List.getElem?_drop] using hj
    · cases hj)
  rw [List.length_take, List.length_drop, Nat.min_eq_left (by omega)] at this
  exact this

/-- The cells of a type: one, or an aggregate's. -/
def aggOf (P : Program) (T : TypeId) : Bool := match P.underlying T with | some (.struct _) | some (.array _ _) => true | _ => false
theorem run_isAgg {T : TypeId} {u : TypeDesc} (h : P.underlying T = some u) (w : World) : (isAgg T).run P w = .ok (aggOf P T) w := by
  simp only [isAgg, Sem.run_bind, run_underlying h, Result.andThen_ok, aggOf, h]
  cases u <;> rfl

def D.load (agg : Bool) (n : Nat) (cs : List D) : D := if agg then .agg (cs.take n) else cs.headD .dead

theorem drop_take_app {α : Type} {vs sp : List α} {off n : Nat} (h : off + n ≤ vs.length) : ((vs ++ sp).drop off).take n = (vs.drop off).take n := by
  rw [List.drop_append_of_le_length (by omega), List.take_append_of_le_length (by simp; omega)]

theorem iop_load_ref {T : TypeId} {x : Operand} {u : TypeDesc} {z : Option Value} {size bytes : Nat} {id off : Nat} {e : TypeId} {ds : List D} {d : D} (ho : o.op = .load T x) (hd : o.dst = some t) (ht : t < N)
    (hu : P.underlying T = some u) (hi : TI P T z size bytes) (hx : SV S x (.ref id off)) (he : S.ent id = .blk e ds) (hn : off + size ≤ ds.length) (h1 : 0 < size)
    (hdd : D.load (aggOf P T) size (ds.drop off) = d) : IOp P O N o S (S.set t d) :=
  iop_of hd ht fun E β a hr => by
    have hv := hx.rd hr
    have hent := hr.h.ent id
    rw [he] at hent
    generalize hev : a.eval x = v at hv
    cases hv with
    | ref _ _ _ b' hb' =>
      obtain ⟨vs, sp, _, hh, _, hl⟩ := blk_at hent hb'
      have hb := hb'
      have hlen := hl.length
      subst hdd
      simp only [D.load]
      cases hag : aggOf P T with
      | true =>
        refine ⟨.agg ((vs.drop off).take size).toArray, ?_, ?_⟩
        · have hlc := run_cells_of (P := P) hh (show off + size ≤ (vs ++ sp).length by simp; omega)
          rw [drop_take_app (by omega)] at hlc
          simp [execOp, ho, hev, Instr.loadAt, Instr.sureAddr, loadVar, run_isAgg hu, hag, hi.run_size, hlc]
        · exact .agg _ _ _ ((hl.drop off).take size)
      | false =>
        have hlt : off < vs.length := by omega
        have hcell : E.w.cell? ⟨b', off, none⟩ = some vs[off] := by rw [cell_of_row _ _ _ _ _ _ hh]; simp [List.getElem?_append_left, hlt]
        refine ⟨vs[off], ?_, ?_⟩
        · simp [execOp, ho, hev, Instr.loadAt, Instr.sureAddr, loadVar, run_isAgg hu, hag, hcell]
        · have hlt' : off < ds.length := by omega
          have := hl.get off (v := vs[off]) (d := ds[off]) (by simp [hlt]) (by simp [hlt'])
          simpa [List.headD_eq_head?_getD, List.head?_drop, hlt'] using this

theorem iop_load_fptr {T : TypeId} {x : Operand} {u : TypeDesc} {z : Option Value} {size bytes : Nat} {cs : List D} {d : D} (ho : o.op = .load T x) (hd : o.dst = some t) (ht : t < N)
    (hu : P.underlying T = some u) (hi : TI P T z size bytes) (hx : SV S x (.fptr cs)) (hn : size ≤ cs.length) (h1 : 0 < size)
    (hdd : D.load (aggOf P T) size cs = d) : IOp P O N o S (S.set t d) :=
  iop_of hd ht fun E β a hr => by
    have hv := hx.rd hr
    generalize hev : a.eval x = v at hv
    cases hv with
    | fptr _ b off vs _ hrow hl =>
      have hlen := hl.length
      subst hdd
      simp only [D.load]
      cases hag : aggOf P T with
      | true =>
        refine ⟨.agg (vs.take size).toArray, ?_, ?_⟩
        · have := run_loadCells_list (P := P) E.w ⟨b, off, none⟩ (vs.take size) (fun j v hj => by
            rw [add_none]
            rw [List.getElem?_take] at hj
            split at hj
            · exact (hrow j v hj).1
            · cases hj)
          rw [List.length_take, Nat.min_eq_left (by omega)] at this
          simp [execOp, ho, hev, Instr.loadAt, Instr.sureAddr, loadVar, run_isAgg hu, hag, hi.run_size, this]
        · exact .agg _ _ _ (RdL.mono (Env.le.refl _) (fun _ _ h => by cases h) (hl.take size))
      | false =>
        have hlt : 0 < vs.length := by omega
        have hcell := (hrow 0 vs[0] (by simp [hlt])).1
        refine ⟨vs[0], ?_, ?_⟩
        · simp only [Nat.add_zero] at hcell
          simp [execOp, ho, hev, Instr.loadAt, Instr.sureAddr, loadVar, run_isAgg hu, hag, hcell]
        · have hlt' : 0 < cs.length := by omega
          have := RdL.mono (β' := β) (Env.le.refl E) (fun _ _ h => by cases h) hl
          have := this.get 0 (v := vs[0]) (d := cs[0]) (by simp [hlt]) (by simp [hlt'])
          simpa [List.headD_eq_head?_getD, List.head?_eq_getElem?, hlt'] using this

def splice (ds : List D) (off : Nat) (new : List D) : List D := ds.take off ++ new ++ ds.drop (off + new.length)

theorem iop_store_ref {T : TypeId} {x y : Operand} {z : Option Value} {size bytes : Nat} {id off : Nat} {e : TypeId} {ds ds' : List D} {d : D} (ho : o.op = .store T x y) (hd : o.dst = none)
    (hi : TI P T z size bytes) (hx : SV S x (.ref id off)) (he : S.ent id = .blk e ds) (hy : SV S y d) (hb : d.boxable = true) (hsz : d.cells.length = size) (h1 : d.cells.all D.one = true)
    (hn : off + size ≤ ds.length) (hds : splice ds off d.cells = ds') : IOp P O N o S (S.setE id (.blk e ds')) := by
  intro E β a hr next Q hn'
  have hv := hx.rd hr
  have hent := hr.h.ent id
  rw [he] at hent
  generalize hev : a.eval x = v at hv
  cases hv with
  | ref _ _ _ b hβb =>
    obtain ⟨vs, sp, hown, hh, hX, hl⟩ := blk_at hent hβb
    have hc := rd_cells (hy.rd hr) hb
    generalize hu : (a.eval y).cells.toList = us at hc
    have hus : (a.eval y).cells = us.toArray := by rw [← hu]
    have hlu : us.length = size := by rw [hc.length, hsz]
    have hlen := hl.length
    have hst := run_storeCells_at P b off e us 0 (vs ++ sp).toArray E.w hh (by simp; omega) (rdl_one hc h1)
    simp only [Nat.add_zero] at hst
    unfold Oper.wp
    have hrun : (execOp a.eval o).run P E.w = .ok .skip (E.w.setRow b ((vs.take off ++ us ++ vs.drop (off + us.length)) ++ sp).toArray) := by
      simp [execOp, ho, hev, Instr.storeAt, Instr.sureAddr, storeVar, hus, hi.run_size, hlu]
      have h5 := hst
      have e1 : (vs ++ sp).take off = vs.take off := List.take_append_of_le_length (by omega)
      have e2 : (vs ++ sp).drop (off + size) = vs.drop (off + size) ++ sp := List.drop_append_of_le_length (by omega)
      simp only [hlu] at h5
      rw [e1, e2] at h5
      simp at h5
      simp [h5]
    rw [hrun]
    simp only [Oper.upon, hd, Act.put]
    let E' : Env := ⟨E.w.setRow b ((vs.take off ++ us ++ vs.drop (off + us.length)) ++ sp).toArray, E.X⟩
    have hs : Step O E E' b := ⟨rfl, rfl, rfl, by simp [E'], by simpa [E'] using heap_lt hh, hown, fun k _ hk => setRow_other _ _ _ _ hk, fun _ _ _ => Iff.rfl, fun _ h => by first | (rw [hc] at h; cases h) | (rw [hh] at h; cases h)⟩
    have hle : E.le E' := hs.le (fun o v _ h2 => absurd (hX o) h2) (fun c e' f h3 => by
      rw [hh] at h3; cases h3
      exact ⟨_, _, setRow_heap _ _ _ _ _ _ hh, by simp; omega⟩)
    refine hn' E' β a ⟨hr.n, hr.nd.step hs, ?_, fun s => Rd.mono hle (Names.le.refl _) (hr.sl s)⟩
    refine HOk.put hr.h hs hle (Names.le.refl _) ?_ ?_ hβb ?_ (fun _ _ => trivial)
    · intro j hj; left; exact ⟨by simp [St.ent, entL, St.setE, look_cons, Ne.symm hj], rfl⟩
    · intro j hj hheld hbj
      have : (S.ent j).held = true := by simpa [St.ent, entL, St.setE, look_cons, Ne.symm hj] using hheld
      exact hj (hr.h.inj j id b this (by rw [he]; rfl) hbj hβb)
    · simp only [St.ent, entL, St.setE, look_cons, if_true]
      refine ⟨_, sp, setRow_heap _ _ _ _ _ _ hh, hX, ?_⟩
      rw [← hds, splice]
      have h4 : us.length = d.cells.length := hc.length
      rw [h4]
      exact RdL.mono hle (Names.le.refl _) (((hl.take off).append hc).append (hl.drop _))

end
end Go.IL
