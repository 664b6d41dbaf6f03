/-
  A part of the proof: rules and plain facts. No condition.
-/
import Derived.Test.YtmidijokooidcaaDoorIlPn
import Derived.Test.YtmidijokooidcaaDoorIlP108
import Derived.Test.YtmidijokooidcaaDoorIlY
import Derived.Lib.Builder
import Derived.Lib.UnsafeStr
set_option linter.all false
open Go.Lib
namespace Go.IL
/-! strings.Builder: a pointer turned to unsafe.Pointer and back; a list's own bytes seen as a text. -/
section
variable {P : Program} {O : Origin} {N : Nat} {S S' : St} {o : Oper} {t : Nat} {Q : Exit → St → Prop}
/-- One block turns, and is owned no more. -/
theorem HOk.drop {E E' : Env} {β : Names} {H H' : Nat → Ent} {b id : Nat} (h : HOk O E β H) (hs : Step O E E' b) (hle : E.le E')
    (hother : ∀ j, j ≠ id → H' j = H j) (hid : H' id = .none) (hap : ∀ j, j ≠ id → (H j).held = true → β j ≠ some b) : HOk O E' β H' where
  os := hs.os.trans h.os
  tab := h.tab
  tape := hs.tape.trans h.tape
  output := hs.output.trans h.output
  size := Nat.le_trans h.size hs.size
  block k hk hf := by
    have hne : k ≠ b := by
      rintro rfl
      rcases hs.own with h1 | h1
      · omega
      · exact hf h1
    exact (hs.block k (by have := h.size; omega) hne).trans (h.block k hk hf)
  xlt k o hX := by
    by_cases hk : k = b
    · subst hk; exact hs.lt
    · exact Nat.lt_of_lt_of_le (h.xlt k o ((hs.X k o hk).1 hX)) hs.size
  xold k o hk hf := by
    have hne : k ≠ b := by
      rintro rfl
      rcases hs.own with h1 | h1
      · omega
      · exact hf h1
    exact (hs.X k o hne).trans (h.xold k o hk hf)
  ent j := by
    by_cases hj : j = id
    · subst hj; rw [hid]; trivial
    · rw [hother j hj]
      have hapj := hap j hj
      have he := h.ent j
      cases hH : H j with
      | none => trivial
      | fresh => rw [hH] at he; exact he
      | blk e ds =>
        rw [hH] at he hapj
        rcases he with ⟨h3, h4⟩ | ⟨k, vs, sp, h3, h4, h5, h6, h7⟩
        · exact .inl ⟨h3, h4⟩
        · have hne : k ≠ b := fun e => hapj rfl (e ▸ h3)
          exact .inr ⟨k, vs, sp, h3, h4, (hs.block k (heap_lt h5) hne).trans h5, fun o => (hs.X k o hne).2 (h6 o), RdL.mono hle (Names.le.refl _) h7⟩
      | tail e sz n =>
        rw [hH] at he hapj
        rcases he with ⟨h3, h4⟩ | ⟨k, c, h3, h4, h5, h6⟩
        · exact .inl ⟨h3, h4⟩
        · have hne : k ≠ b := fun e => hapj rfl (e ▸ h3)
          exact .inr ⟨k, c, h3, h4, (hs.block k (heap_lt h5) hne).trans h5, fun o ho => (hs.X k o hne).2 (h6 o ho)⟩
      | loop lk ds st pend =>
        rw [hH] at he hapj
        obtain ⟨k, r, h3, h4, h5, h6, h7, h8, h9, h10, h11, h12⟩ := he
        have hne : k ≠ b := fun e => hapj rfl (e ▸ h3)
        exact ⟨k, r, h3, h4, (hs.block k (heap_lt h5) hne).trans h5, fun o => (hs.X k o hne).2 (h6 o), h7, h8, h9, h10, h11, h12.1, RdL.mono hle (Names.le.refl _) h12.2⟩
      | kept n ds =>
        rw [hH] at he
        refine ⟨RdL.mono hle (Names.le.refl _) he.1, fun c hc => ?_⟩
        have h5 := he.2 c hc
        by_cases hcb : c = b
        · subst hcb; exact absurd h5 (hs.dfr _)
        · exact (hs.block c (heap_lt h5) hcb).trans h5
  le := h.le.trans hle
  gid := h.gid
  given i b hi := h.given i b hi
  inj i j k hi hj h1 h2 := by
    have hii : i ≠ id := fun e => by rw [e, hid] at hi; cases hi
    have hjj : j ≠ id := fun e => by rw [e, hid] at hj; cases hj
    exact h.inj i j k (hother i hii ▸ hi) (hother j hjj ▸ hj) h1 h2
theorem blk_shape {E : Env} {β : Names} {a : Act} (hr : Rel O N S E β a) {id b : Nat} {e : TypeId} {ds : List D} (he : S.ent id = .blk e ds) (hb : β id = some b) : ∃ n, E.w.shape? b = some (e, n) ∧ ds.length ≤ n := by
  have hent := hr.h.ent id
  rw [he] at hent
  obtain ⟨vs, sp, _, hh, _, hl⟩ := blk_at hent hb
  exact ⟨(vs ++ sp).length, by simp [World.shape?, hh], by rw [← hl.length]; simp⟩
/-- *T to unsafe.Pointer. -/
theorem iop_ptou {src dst e : TypeId} {x : Operand} {id size bytes : Nat} {z : Option Value} {ds : List D} (ho : o.op = .convert src dst x) (hd : o.dst = some t) (ht : t < N) (hs : P.underlying src = some (.pointer e)) (hu : P.underlying dst = some .unsafePointer)
    (hi : TI P e z size bytes) (h0 : 0 < size) (hx : SV S x (.ref id 0)) (he : S.ent id = .blk e ds) (hn : size ≤ ds.length) : IOp P O N o S (S.set t (.ref id 0)) :=
  iop_of hd ht fun E β a hr => by
    obtain ⟨b, hb, h1⟩ := rd_ref (hx.rd hr)
    obtain ⟨n, h2, h3⟩ := blk_shape hr he hb
    obtain ⟨i, hi1, _, hi2, _⟩ := hi.at
    exact ⟨_, by simp only [execOp, ho, h1, Sem.run_bind, Lib.run_to_unsafe E.w ⟨b, 0, none⟩ hs hu hi1 (by omega) h2 (show 0 < n by omega), Result.andThen, Sem.run_pure], .ref _ _ _ b hb⟩
theorem liesAt_one {e : TypeId} {size : Nat} (hc : P.cellsOf e = size) (h0 : 0 < size) (n : Nat) (hn : size ≤ n) : liesAt P P.depth e (n / P.cellsOf e) 0 e 1 = true := by
  have hd : P.depth = (2 * (P.types.size + Made.depth) + 1) + 1 := rfl
  have h1 : 1 ≤ n / size := Nat.div_pos hn h0
  rw [hd]
  simp only [liesAt, Bool.or_eq_true]
  left
  rw [hd]
  simp [rowAt, hc, sameLayout, h1]
  omega
/-- unsafe.Pointer back to *T. -/
theorem iop_utop {src dst e : TypeId} {x : Operand} {id size bytes : Nat} {z : Option Value} {ds : List D} (ho : o.op = .convert src dst x) (hd : o.dst = some t) (ht : t < N) (hs : P.underlying src = some .unsafePointer) (hu : P.underlying dst = some (.pointer e))
    (hi : TI P e z size bytes) (h0 : 0 < size) (hx : SV S x (.ref id 0)) (he : S.ent id = .blk e ds) (hn : size ≤ ds.length) : IOp P O N o S (S.set t (.ref id 0)) :=
  iop_of hd ht fun E β a hr => by
    obtain ⟨b, hb, h1⟩ := rd_ref (hx.rd hr)
    obtain ⟨n, h2, h3⟩ := blk_shape hr he hb
    obtain ⟨i, hi1, _, hi2, _⟩ := hi.at
    have hc : P.cellsOf e = size := by simp [Program.cellsOf, hi1, hi2]
    exact ⟨_, by simp only [execOp, ho, h1, Sem.run_bind, Lib.run_from_unsafe E.w ⟨b, 0, none⟩ hs hu hi1 h2 (liesAt_one hc h0 n (by omega)), Result.andThen, Sem.run_pure], .ref _ _ _ b hb⟩
/-- abi.NoEscape. -/
theorem iop_noesc {f : FuncId} {x : Operand} {ts : Array TypeId} {d : D} (ho : o.op = .call { callee := .value (.func f), args := #[x], argTypes := ts }) (hd : o.dst = some t) (ht : t < N)
    (hc : ExternAt P f Extern.AbiNoEscape.same) (hx : SV S x d) : IOp P O N o S (S.set t d) :=
  iop_externR (xs := [x]) ho hd ht hc fun E β a hr => ⟨_, rfl, hx.rd hr⟩
/-- unsafe.SliceData. -/
theorem iop_sdata {T : TypeId} {x : Operand} {id sz n : Nat} (ho : o.op = .call { callee := .builtin .unsafeSliceData, args := #[x], argTypes := #[T] }) (hd : o.dst = some t) (ht : t < N) (hx : S.op x = .osl id sz n) (h0 : n ≠ 0) : IOp P O N o S (S.set t (.ref id 0)) :=
  iop_of hd ht fun E β a hr => by
    have hv := hr.op x
    rw [hx] at hv
    generalize hev : a.eval x = v at hv
    cases hv with
    | nosl => exact absurd rfl h0
    | osl _ _ b _ cap _ hb hc =>
      have := fun ty => Lib.run_unsafeSliceData_row (P := P) E.w #[T] ty ⟨b, 0, none⟩ n cap (by omega)
      exact ⟨_, by simp [execOp, ho, hev, resolve, invoke, builtin, this, Result.andThen], .ref _ _ _ b hb⟩
theorem iop_sdata_nil {T : TypeId} {x : Operand} (ho : o.op = .call { callee := .builtin .unsafeSliceData, args := #[x], argTypes := #[T] }) (hd : o.dst = some t) (ht : t < N) (hx : S.op x = .nils) : IOp P O N o S (S.set t .nilp) :=
  iop_of hd ht fun E β a hr => by
    have hv := hr.op x
    rw [hx] at hv
    generalize hev : a.eval x = v at hv
    cases hv
    have := fun ty => Lib.run_unsafeSliceData_nil (P := P) E.w #[T] ty 0 0
    exact ⟨_, by simp [execOp, ho, hev, resolve, invoke, builtin, this, Result.andThen], .nilp _⟩
theorem iop_ustr0 {pt it : TypeId} {x y : Operand} (ho : o.op = .call { callee := .builtin .unsafeString, args := #[x, y], argTypes := #[pt, it] }) (hd : o.dst = some t) (ht : t < N) (hx : SV S x .nilp) (hy : SV S y (.int .i64 0)) : IOp P O N o S (S.set t (.str [])) :=
  iop_of hd ht fun E β a hr => by
    have h1 := nilp_ev hr hx
    have h2 := rd_int (hy.rd hr)
    have := fun ty => Lib.run_unsafeString_none (P := P) E.w pt it ty none
    exact ⟨.string (bs []), by simp [execOp, ho, h1, h2, resolve, invoke, builtin, this, Result.andThen]; rfl, .str _ _⟩
theorem freeze_heap {w : World} {b n : Nat} {c : Array Value} {e : TypeId} (h : w.heap[b]? = some (.cells c e (0, 0))) (h0 : n ≠ 0) : ∃ f, (w.freeze ⟨b, 0, none⟩ n).heap[b]? = some (.cells c e f) := by
  have hb : b < w.heap.size := heap_lt h
  have h2 : w.heap[b] = .cells c e (0, 0) := by rw [Array.getElem?_eq_getElem hb] at h; exact Option.some.inj h
  refine ⟨(0, 0 + n), ?_⟩
  unfold World.freeze
  rw [if_neg h0, Array.getElem?_modify, if_pos rfl, h]; rfl
theorem freeze_other {w : World} {b k n : Nat} (hk : k ≠ b) : (w.freeze ⟨b, 0, none⟩ n).heap[k]? = w.heap[k]? := by
  unfold World.freeze
  split
  · rfl
  · simp [Array.getElem?_modify, Ne.symm hk]
theorem freeze_size {w : World} {b n : Nat} : (w.freeze ⟨b, 0, none⟩ n).heap.size = w.heap.size := by
  unfold World.freeze
  split
  · rfl
  · simp
theorem freeze_os {w : World} {b n : Nat} : (w.freeze ⟨b, 0, none⟩ n).os = w.os ∧ (w.freeze ⟨b, 0, none⟩ n).tape = w.tape ∧ (w.freeze ⟨b, 0, none⟩ n).output = w.output := by
  unfold World.freeze
  split <;> exact ⟨rfl, rfl, rfl⟩
/-- unsafe.String over a list that is owned: the bytes; the list is owned no more. -/
theorem iop_ustr {pt it e : TypeId} {x y : Operand} {id n : Nat} {z : Option Value} {bytes : Nat} {l : List UInt8} (ho : o.op = .call { callee := .builtin .unsafeString, args := #[x, y], argTypes := #[pt, it] }) (hd : o.dst = some t) (ht : t < N)
    (hu : P.underlying pt = some (.pointer e)) (hi : TI P e z 1 bytes) (hx : SV S x (.ref id 0)) (hy : SV S y (.int .i64 (n : Int))) (hln : l.length = n) (h0 : n ≠ 0) (h63 : n ≤ 9223372036854775807)
    (he : S.ent id = .blk e (D.flat (l.map eByte.d))) : IOp P O N o S ((S.setE id .none).set t (.str l)) := by
  intro E β a hr next Q hn'
  subst hln
  obtain ⟨b, hβb, hev⟩ := rd_ref (hx.rd hr)
  have hey := rd_int (hy.rd hr)
  have hent := hr.h.ent id
  rw [he] at hent
  obtain ⟨vs, sp, hown, hh, hX, hl⟩ := blk_at hent hβb
  have hvs : vs = l.map fun c => Value.int .u8 c.toNat := by
    have h1 : D.flat (l.map eByte.d) = l.map byteD := flat_byteD l
    rw [h1] at hl
    exact rdl_bytes hl
  obtain ⟨i, hi1, _, hi2, _⟩ := hi.at
  have hc : P.cellsOf e = 1 := by simp [Program.cellsOf, hi1, hi2]
  have hsh : E.w.shape? b = some (e, (vs ++ sp).length) := by simp [World.shape?, hh]
  have hl0 : l ≠ [] := fun e => h0 (by rw [e]; rfl)
  have hcell : ∀ j x, l[j]? = some x → E.w.cell? ((⟨b, 0, none⟩ : Addr).add j) = some (.int .u8 x.toNat) := fun j x hj => by
    have hjl : j < l.length := (List.getElem?_eq_some_iff.1 hj).1
    rw [add_none]
    have : (vs ++ sp)[j]? = some (.int .u8 x.toNat) := by
      rw [List.getElem?_append_left (by rw [hvs]; simpa using hjl), hvs, List.getElem?_map, hj]; rfl
    simp only [World.cell?, hh, Nat.zero_add]
    simpa using this
  have hrun := fun ty => Lib.run_unsafeString_row (P := P) E.w pt it ty e hu hc b _ hsh l hl0 (by rw [hvs]; simp) h63 hcell
  unfold Oper.wp
  have hrun2 : (execOp a.eval o).run P E.w = .ok (.value (.string (bs l))) (E.w.freeze ⟨b, 0, none⟩ l.length) := by
    simp [execOp, ho, hev, hey, resolve, invoke, builtin, hrun, Result.andThen]; rfl
  rw [hrun2]
  simp only [Oper.upon, hd]
  obtain ⟨f, hf⟩ := freeze_heap hh h0
  let E' : Env := ⟨E.w.freeze ⟨b, 0, none⟩ l.length, E.X⟩
  have hs : Step O E E' b := ⟨freeze_os.1, freeze_os.2.1, freeze_os.2.2, by simp [E', freeze_size], by simpa [E', freeze_size] using heap_lt hh, hown, fun k _ hk => freeze_other hk, fun _ _ _ => Iff.rfl, fun _ h => by rw [hh] at h; cases h⟩
  have hle : E.le E' := hs.le (fun o v _ h2 => absurd (hX o) h2) (fun c e' f' h3 => by
    rw [hh] at h3; cases h3
    exact ⟨_, _, hf, rfl⟩)
  have hent2 : ∀ j, j ≠ id → ((S.setE id .none).set t (.str l)).ent j = S.ent j := fun j hj => by simp [St.ent, entL, St.setE, St.set, look_cons, Ne.symm hj]
  have hent3 : ((S.setE id .none).set t (.str l)).ent id = .none := by simp [St.ent, entL, St.setE, St.set, look_cons]
  have hr2 : Rel O N (S.setE id .none) E' β a := ⟨hr.n, hr.nd.step hs, HOk.drop hr.h hs hle (fun j hj => hent2 j hj) hent3 (fun j hj hheld hbj => hj (hr.h.inj j id b hheld (by rw [he]; rfl) hbj hβb)), fun s => Rd.mono hle (Names.le.refl _) (hr.sl s)⟩
  exact hn' E' β _ (hr2.set ht (.str _ l))
/-! append of a text. -/
theorem iop_append_score {T Ts e : TypeId} {x y : Operand} {z : Value} {size bytes n m : Nat} {ds es : List D} {l : List UInt8} {S1 : St} (id' : Nat)
    (ho : o.op = .call { callee := .builtin .append, args := #[x, y], argTypes := #[T, Ts] }) (hd : o.dst = some t) (ht : t < N)
    (hu : P.underlying T = some (.slice e)) (huS : P.underlying Ts = some .string) (hi : TI P e (some z) size bytes) (hz : z.cells.size = size) (hsp : 0 < size)
    (hs1 : S1.sl = S.sl) (hs2 : ∀ j, S1.ent j = S.ent j ∨ S1.ent j = .none) (hfr : S.ent id' = .fresh)
    (hx : ∀ E β a, Rel O N S E β a → (a.eval x = .slice none 0 0 ∧ n = 0 ∧ ds = []) ∨ ∃ b cap c vs, a.eval x = .slice (some ⟨b, 0, none⟩) n cap ∧ n ≤ cap ∧ cap ≤ maxLen ∧ E.w.heap[b]? = some (.cells c e (0, 0)) ∧
      cap * size ≤ c.size ∧ c.toList.take vs.length = vs ∧ RdL E β vs ds ∧ O.own b ∧ (∀ o, E.X b o) ∧ ∀ j, (S1.ent j).held = true → β j ≠ some b)
    (hl : ds.length = n * size) (hy : SV S y (.str l)) (hsz1 : size = 1) (hml : l.length = m) (hel : es = l.map byteD)
    (hm : n + m ≤ maxLen) (hb : (n + m) * bytes ≤ 140737488355328) :
    IOp P O N o S ((S1.setE id' (.blk e (ds ++ es))).set t (.osl id' size (n + m))) := by
  intro E β a hr next Q hn
  have hes : es.length = m * size := by rw [hel, List.length_map, hml, hsz1, Nat.mul_one]
  obtain ⟨i, hi1, hi2, hi3, hi4⟩ := hi.at
  have hfre : β id' = none := by have := hr.h.ent id'; rw [hfr] at this; exact this
  have hrun : ∀ v, (Builtin.append_ #[T, Ts] o.type #[a.eval x, a.eval y]).run P E.w = v → (execOp a.eval o).run P E.w = v.andThen fun v w' => .ok (.value v) w' := fun v hv => by
    simp [execOp, ho, resolve, invoke, builtin, hv]
  have hts : t < a.tmps.size := hr.n ▸ ht
  let S2 : St := (S1.setE id' (.blk e (ds ++ es))).set t (.osl id' size (n + m))
  have slots : ∀ (E' : Env) (β' : Names) (v : Value), E.le E' → β.le β' → Rd E' β' v (.osl id' size (n + m)) → ∀ s, Rd E' β' ((a.put (some t) v).tmps.getD s undef) (S2.get s) := by
    intro E' β' v hle hβ hv s
    by_cases hst : t = s
    · subst hst
      simpa [S2, Act.put, St.get, St.set, look_cons, hts] using hv
    · have := Rd.mono hle hβ (hr.sl s)
      simpa [S2, Act.put, St.get, St.set, St.setE, look_cons, hst, Array.getElem?_setIfInBounds_ne, hs1] using this
  let β' : Nat → Names := fun b j => if j = id' then some b else β j
  have hβ : ∀ b, β.le (β' b) := fun b j k hj => by
    by_cases hji : j = id'
    · subst hji; rw [hfre] at hj; cases hj
    · simp [β', hji, hj]
  have hsame : ∀ j, j ≠ id' → S2.ent j = S1.ent j := fun j hj => by simp [S2, St.ent, entL, St.setE, St.set, look_cons, Ne.symm hj]
  have hother : ∀ b j, j ≠ id' → (S2.ent j = S.ent j ∧ β' b j = β j) ∨ S2.ent j = .none := by
    intro b j hj
    rw [hsame j hj]
    rcases hs2 j with h | h
    · exact .inl ⟨h, by simp [β', hj]⟩
    · exact .inr h
  have hheld : ∀ j, j ≠ id' → (S2.ent j).held = true → (S1.ent j).held = true := fun j hj h => by rw [← hsame j hj]; exact h
  have hheld0 : ∀ j, (S1.ent j).held = true → (S.ent j).held = true := fun j h => by
    rcases hs2 j with h1 | h1
    · rw [← h1]; exact h
    · rw [h1] at h; cases h
  have hentid : S2.ent id' = .blk e (ds ++ es) := by simp [S2, St.ent, entL, St.setE, St.set, look_cons]
  have fresh : ∀ (vs us : List Value) (cap : Nat), RdL E β vs ds → RdL E β us es → n + m ≤ cap → cap ≤ maxLen →
      (Builtin.append_ #[T, Ts] o.type #[a.eval x, a.eval y]).run P E.w = .ok (.slice (some ⟨E.w.heap.size, 0, none⟩) (n + m) cap) (E.w.drew.alloc (.cells (vs.toArray ++ us.toArray ++ Builtin.zeroCells z.cells (cap - (n + m))) e)) →
      o.wp P a E.w next Q := by
    intro vs us cap hvs hus hcap hcm hra
    unfold Oper.wp
    rw [hrun _ hra]
    simp only [Result.andThen_ok, Oper.upon, hd]
    let E' : Env := ⟨E.w.drew.alloc (.cells (vs.toArray ++ us.toArray ++ Builtin.zeroCells z.cells (cap - (n + m))) e), fun b o => b = E.w.heap.size ∨ E.X b o⟩
    have hs : Step O E E' E.w.heap.size :=
      ⟨rfl, rfl, rfl, by simp [E'], by simp [E'], .inl hr.h.size, fun k hk _ => heap_alloc_old E.w.drew _ hk, fun k o hk => by simp [E', hk], fun _ h => Nat.lt_irrefl _ (heap_lt h)⟩
    have hle : E.le E' := hs.le (fun o v h1 _ => by have := World.block_lt_of_cell? _ _ h1; simp at this) (fun c e f h1 => by have := heap_lt h1; simp at this)
    have hnew : E'.w.heap[E.w.heap.size]? = some (.cells (vs.toArray ++ us.toArray ++ Builtin.zeroCells z.cells (cap - (n + m))) e (0, 0)) := heap_alloc_new E.w.drew _
    have hvl := hvs.length
    have hul := hus.length
    have hvs' := (RdL.mono hle (hβ E.w.heap.size) hvs).append (RdL.mono hle (hβ E.w.heap.size) hus)
    refine hn E' (β' E.w.heap.size) _ ⟨by simp [Act.put, hr.n], hr.nd.step hs, ?_, slots E' _ _ hle (hβ _) ?_⟩
    · refine HOk.put hr.h hs hle (hβ _) (fun j hj => hother _ j hj) ?_ (id := id') (by simp [β']) ?_ (fun _ _ => trivial)
      · intro j hj hh hbj
        have := hr.h.held_lt (hheld0 j (hheld j hj hh)) hbj
        omega
      · rw [hentid]
        exact ⟨vs ++ us, (Builtin.zeroCells z.cells (cap - (n + m))).toList, by rw [hnew]; simp, fun o => .inl rfl, hvs'⟩
    · exact .osl _ _ E.w.heap.size _ cap size (by simp [β']) hcap hsp _ _ _ hnew
        (by simp only [Array.size_append, List.size_toArray, size_zeroCells, hz, hvl, hul, hl, hes]; rw [← Nat.add_mul, ← Nat.add_mul]; exact Nat.mul_le_mul_right _ (by omega)) hcm
  have hyv : a.eval y = .string (bs l) := rd_str (hy.rd hr)
  have hbl : (bs l).size = m := by rw [bs_size, hml]
  have hsc : strCells (bs l) = l.map fun c => Value.int .u8 c.toNat := by unfold strCells; simp [bs]
  have hus : RdL E β (strCells (bs l)) es := by
    rw [hsc, hel]
    clear hel hes hbl hsc hml hyv hy hentid hother hsame hheld hheld0 slots fresh
    induction l with
    | nil => exact .nil _
    | cons c l ih => exact .cons (.int _ _ _) ih
  rcases hx E β a hr with ⟨hxv, rfl, rfl⟩ | ⟨b, cap, c, vs, hxv, hnc, hcm, hc, hcs, hvt, hvs, hown, hX, hap⟩
  · by_cases hemp : m = 0
    · have hl0 : l = [] := List.length_eq_zero_iff.1 (hml.trans hemp)
      have hra : (Builtin.append_ #[T, Ts] o.type #[a.eval x, a.eval y]).run P E.w = .ok (.slice none 0 0) E.w := by
        have hf := run_firstCells_string (P := P) E.w 1 (bs l)
        rw [hbl, hemp] at hf
        rw [hxv, hyv]
        simp [Builtin.append_, run_underlying hu, run_underlying huS, sizeOf, typeInfo, hi1, hi3, hsz1, Builtin.lenOf, hbl, hemp, hf]
      have hes0 : es = [] := by rw [hel, hl0]; rfl
      subst hes0
      subst hemp
      unfold Oper.wp
      rw [hrun _ hra]
      simp only [Result.andThen_ok, Oper.upon, hd]
      refine hn E β _ ⟨by simp [Act.put, hr.n], hr.nd, ?_, slots E β _ (Env.le.refl _) (Names.le.refl _) (.nosl _ _ _)⟩
      refine { hr.h with ent := fun j => ?_, inj := fun j k b hj hk h1 h2 => ?_ }
      · show EntAt O E β j (S2.ent j)
        by_cases hj : j = id'
        · subst hj; rw [hentid]; exact .inl ⟨hfre, rfl⟩
        · rcases hother 0 j hj with ⟨h, _⟩ | h
          · rw [h]; exact hr.h.ent j
          · rw [h]; trivial
      · have hnj : ∀ j b, (S2.ent j).held = true → β j = some b → (S.ent j).held = true := by
          intro j b hh hb
          have hj : j ≠ id' := by rintro rfl; rw [hfre] at hb; cases hb
          exact hheld0 j (hheld j hj hh)
        exact hr.h.inj j k b (hnj j b hj h1) (hnj k b hk h2) h1 h2
    · have hra := run_append_nil_string (P := P) E.w T Ts o.type e i z hu huS hi1 hi2 (bs l) (by omega) (by rw [hbl]; simp [maxLen] at hm; omega) (by rw [hi4, hbl]; simp at hb; omega)
      have e1 : ((bs l).data.map fun b => Value.int .u8 b.toNat) = (strCells (bs l)).toArray := by
        apply Array.ext'
        simp [strCells]
      rw [e1, hbl] at hra
      refine fresh [] (strCells (bs l)) (grownCap E.w m 0 e) (.nil _) hus (by simpa using grownCap_ge _ _ _ _) (grownCap_le_maxLen _ _ _ _ (by simpa using hm)) ?_
      rw [hxv, hyv]
      simpa using hra
  · have hvl : vs.length = n * i.size := by rw [hvs.length, hl, hi3]
    by_cases hroom : n + m ≤ cap
    · have hi31 : i.size = 1 := hi3.trans hsz1
      have hvt' : c.toList.take n = vs := by rw [hi31, Nat.mul_one] at hvl; rw [← hvl]; exact hvt
      have hul : (strCells (bs l)).length = m := by rw [strCells_length, hbl]
      have hfit : n + (bs l).size ≤ c.size := by rw [hbl]; rw [hsz1, Nat.mul_one] at hcs; omega
      have hra := run_append_room_string (P := P) E.w T Ts o.type e i hu huS hi1 hi31 b n cap c hc (bs l) (by rw [hbl]; exact hroom) hfit
      rw [hvt', hbl] at hra
      unfold Oper.wp
      rw [← hxv, ← hyv] at hra
      rw [hrun _ hra]
      simp only [Result.andThen_ok, Oper.upon, hd]
      let E' : Env := ⟨E.w.setRow b (vs ++ strCells (bs l) ++ c.toList.drop (n + m)).toArray, E.X⟩
      have hs : Step O E E' b := ⟨rfl, rfl, rfl, by simp [E'], by simpa [E'] using heap_lt hc, hown, fun k _ hk => setRow_other _ _ _ _ hk, fun k o hk => Iff.rfl, fun _ h => by rw [hc] at h; cases h⟩
      have hnew : E'.w.heap[b]? = some (.cells (vs ++ strCells (bs l) ++ c.toList.drop (n + m)).toArray e (0, 0)) := setRow_heap _ _ _ _ _ _ hc
      have hsz : (vs ++ strCells (bs l) ++ c.toList.drop (n + m)).toArray.size = c.size := by
        simp [hvl, hul, hi31]; rw [hbl] at hfit; omega
      have hle : E.le E' := hs.le (fun o v _ h2 => absurd (hX o) h2) (fun c' e' f' h1 => by rw [hc] at h1; cases h1; exact ⟨_, _, hnew, hsz⟩)
      have hvs' := (RdL.mono hle (hβ b) hvs).append (RdL.mono hle (hβ b) hus)
      refine hn E' (β' b) _ ⟨by simp [Act.put, hr.n], hr.nd.step hs, ?_, slots E' _ _ hle (hβ _) ?_⟩
      · refine HOk.put hr.h hs hle (hβ _) (fun j hj => hother _ j hj) (fun j hj hh => hap j (hheld j hj hh)) (id := id') (by simp [β']) ?_ (fun _ _ => trivial)
        rw [hentid]
        exact ⟨vs ++ strCells (bs l), _, hnew, hX, hvs'⟩
      · exact .osl _ _ b _ cap size (by simp [β']) hroom hsp _ _ _ hnew (by rw [hsz]; exact hcs) hcm
    · have hxr : ∀ j u, vs[j]? = some u → E.w.cell? ((⟨b, 0, none⟩ : Addr).add j) = some u := fun j u hj => by
        rw [add_none, Nat.zero_add, cell_of_row _ _ _ _ _ _ hc, ← Array.getElem?_toList]
        have hlt := (List.getElem?_eq_some_iff.1 hj).1
        have h1 : (c.toList.take vs.length)[j]? = some u := by rw [hvt]; exact hj
        rwa [List.getElem?_take, if_pos hlt] at h1
      have hra := run_append_grow_string (P := P) E.w T Ts o.type e i z hu huS hi1 hi2 ⟨b, 0, none⟩ n cap vs hvl hxr (bs l) (by omega) (by rw [hbl]; simp [maxLen] at hm; omega) (growslice_fits (by omega) (by rw [hi4, hbl]; exact hb))
      rw [hbl] at hra
      refine fresh vs (strCells (bs l)) (grownCap E.w (n + m) cap e) hvs hus (grownCap_ge _ _ _ _) (grownCap_le_maxLen _ _ _ _ hm) ?_
      rw [hxv, hyv]
      exact hra
theorem iop_appSO {T Ts e : TypeId} {x y : Operand} {z : Value} {bytes n : Nat} {xs ys zs : List UInt8} {id : Nat} (id' : Nat)
    (ho : o.op = .call { callee := .builtin .append, args := #[x, y], argTypes := #[T, Ts] }) (hd : o.dst = some t) (ht : t < N)
    (hu : P.underlying T = some (.slice e)) (huS : P.underlying Ts = some .string) (hi : TI P e (some z) eByte.sz bytes) (hz : z.cells.size = eByte.sz)
    (hx : S.op x = .osl id eByte.sz n) (hl : xs.length = n) (he : S.ent id = .blk e (D.flat (xs.map eByte.d))) (hfr : S.ent id' = .fresh)
    (hy : SV S y (.str ys)) (ha : app bytes xs ys = some zs) :
    IOp P O N o S (((S.setE id .none).setE id' (.blk e (D.flat (zs.map eByte.d)))).set t (.osl id' eByte.sz zs.length)) := by
  obtain ⟨⟨h1, h2⟩, rfl⟩ := app_e ha
  have h0 : (D.flat (xs.map eByte.d)).length = n * 1 := by rw [show D.flat (xs.map eByte.d) = xs.map byteD from flat_byteD xs, List.length_map, hl, Nat.mul_one]
  have hc : D.flat ((xs ++ ys).map eByte.d) = D.flat (xs.map eByte.d) ++ ys.map byteD := by
    rw [show D.flat ((xs ++ ys).map eByte.d) = (xs ++ ys).map byteD from flat_byteD _, show D.flat (xs.map eByte.d) = xs.map byteD from flat_byteD xs, List.map_append]
  rw [hc, List.length_append, hl]
  refine iop_append_score (S1 := S.setE id .none) id' ho hd ht hu huS hi hz (by decide) rfl ?_ hfr ?_ h0 hy rfl rfl rfl (by rw [← hl]; exact h1) (by rw [← hl]; exact h2)
  · intro j
    by_cases hj : id = j
    · subst hj; right; simp [St.ent, entL, St.setE, look_cons]
    · left; simp [St.ent, entL, St.setE, look_cons, hj]
  · intro E β a hr
    have hv := hr.op x
    rw [hx] at hv
    have hent := hr.h.ent id
    rw [he] at hent
    generalize hev : a.eval x = v at hv
    cases hv with
    | nosl => exact .inl ⟨rfl, rfl, List.length_eq_zero_iff.1 (by rw [h0, Nat.zero_mul])⟩
    | osl _ _ b _ cap _ hβ hc _ c e' f' h1 h2 h3 =>
      right
      obtain ⟨vs, sp, hown, hh, hX, hvs⟩ := blk_at hent hβ
      rw [hh] at h1; cases h1
      refine ⟨b, cap, _, vs, rfl, hc, h3, hh, h2, by simp, hvs, hown, hX, ?_⟩
      intro j hj hb
      by_cases hji : id = j
      · subst hji; simp [St.ent, entL, St.setE, look_cons, Ent.held] at hj
      · have hj' : (S.ent j).held = true := by simpa [St.ent, entL, St.setE, look_cons, hji] using hj
        exact hji (hr.h.inj id j b (by rw [he]; rfl) hj' hβ hb)
theorem iop_appSOn {T Ts e : TypeId} {x y : Operand} {z : Value} {bytes : Nat} {ys zs : List UInt8} (id' : Nat)
    (ho : o.op = .call { callee := .builtin .append, args := #[x, y], argTypes := #[T, Ts] }) (hd : o.dst = some t) (ht : t < N)
    (hu : P.underlying T = some (.slice e)) (huS : P.underlying Ts = some .string) (hi : TI P e (some z) eByte.sz bytes) (hz : z.cells.size = eByte.sz)
    (hx : S.op x = .nils) (hfr : S.ent id' = .fresh) (hy : SV S y (.str ys)) (ha : app bytes [] ys = some zs) :
    IOp P O N o S ((S.setE id' (.blk e (D.flat (zs.map eByte.d)))).set t (.osl id' eByte.sz zs.length)) := by
  obtain ⟨⟨h1, h2⟩, rfl⟩ := app_e ha
  rw [List.nil_append, show D.flat (ys.map eByte.d) = ys.map byteD from flat_byteD ys]
  have := iop_append_score (P := P) (O := O) (N := N) (n := 0) (ds := []) (S1 := S) id' ho hd ht hu huS hi hz (by decide) rfl (fun j => .inl rfl) hfr ?_ (by simp) hy rfl rfl rfl (by simpa using h1) (by simpa using h2)
  · simpa using this
  · intro E β a hr
    have hv := hr.op x
    rw [hx] at hv
    generalize hev : a.eval x = v at hv
    cases hv
    exact .inl ⟨rfl, rfl, rfl⟩
/-! Calls that are walked at once, within such a call. -/
structure Origin.Semi (O : Origin) : Prop where
  round : O.round = none
  foot : ∀ b, O.w.heap.size ≤ b → ¬ O.foot b
theorem Origin.Plain.semi {O : Origin} (h : O.Plain) : O.Semi := ⟨h.round, h.foot⟩
theorem ils_inl2 {ops : Array Oper} {o : Oper} {l : List Oper} {xs : List Operand} {ts : Array TypeId} {f : FuncId} {fn : Func} {c : Code} {t : Nat} {ds : List D} (k2 idK : Nat) (hg : quiet o = true)
    (ho : o.op = .call { callee := .value (.func f), args := xs.toArray, argTypes := ts }) (hd : o.dst = some t) (ht : t < N) (hc : Callable P f) (hf : P.funcs[f]? = some fn) (hb : fn.body = some c) (hxs : SVs S xs ds) {N' : Nat} (hn : fn.ntmps = N') (hN : ds.length ≤ N')
    (hfr : freeX k2 [] S.H = true) (hO : O.Semi)
    (h : ∀ O', O'.Semi → IWP P O' N' c ⟨(List.range ds.length).zip ds, (idK, .kept k2 (allD N S)) :: S.H⟩ (inlQ P O N t k2 fn ops l Q)) : ILS P O N ops (o :: l) S Q := by
  subst hn
  obtain ⟨Ow, OX, Of, Og, Or, Okv, Olv, Odv, Olc⟩ := O
  obtain ⟨hro, hfoot⟩ := hO
  simp only at hro hfoot
  subst hro
  intro E β a hr
  obtain ⟨bs, hbs, hnd, hall⟩ := hr.nd
  refine wpListIn_plain (quiet_iff hg).1 fun K hK' => wp_in _ (quiet_iff hg).2 ?_
  have hrun : (execOp a.eval o).run P E.w = .ok (.enter f (xs.map a.eval).toArray) E.w := by
    simp [execOp, ho, resolve, Deferred.ofValue, Act.eval, invoke, run_callFunc hc]
  unfold Oper.wp
  rw [hrun]
  simp only [Oper.upon, hd]
  let O' : Origin := ⟨Ow, OX, Of, Og, none, fun j => if j = k2 then a.tmps.toList else Okv j, Olv, fun j => if j = k2 then bs else Odv j, Olc⟩
  have hcomp : ∀ e, noK k2 e = true → compat ⟨Ow, OX, Of, Og, none, Okv, Olv, Odv, Olc⟩ O' e ∧ compat O' ⟨Ow, OX, Of, Og, none, Okv, Olv, Odv, Olc⟩ e := fun e he => by
    cases e with
    | kept j ds => have : j ≠ k2 := by simpa [noK] using he
                   simp [compat, O', this]
    | loop j => simp [compat, O']
    | _ => exact ⟨trivial, trivial⟩
  have h0 : HOk O' E β (entL S.H) := hr.h.swap ⟨rfl, rfl, rfl, rfl⟩ fun id => .inl ⟨rfl, (hcomp _ (freeX_ent hfr (by simp))).1⟩
  have h1 : HOk O' E β (entL ((idK, .kept k2 (allD N S)) :: S.H)) := h0.addK (by simpa [O'] using rel_allD hr) fun c hc => (hall c (by simpa [O'] using hc)).2
  have hargs := hxs.rd hr
  have hlen := hargs.length
  have hrel : Rel O' fn.ntmps ⟨(List.range ds.length).zip ds, (idK, .kept k2 (allD N S)) :: S.H⟩ E β { tmps := (xs.map a.eval).toArray ++ Array.replicate (fn.ntmps - (xs.map a.eval).toArray.size) undef, defers := [] } := by
    refine ⟨by simp at hlen ⊢; omega, Marks.nil, h1, fun s => ?_⟩
    have := rdl_slots hargs (fn.ntmps - (xs.map a.eval).toArray.size) s
    show Rd E β _ (look _ _ _)
    simpa using this
  refine calls_of_iwp (E := E) (O := O') hf hb rfl hfoot hrel (h O' ⟨rfl, hfoot⟩) ?_
  rintro e S2 E2 β2 a2 hr2 ⟨he, iK, dk, rs, hres, hentK, hfree, S5, ρ5, hw5, hils⟩
  refine ⟨he, ?_⟩
  obtain ⟨v, hv, hrd⟩ := run_retD hr2 hres
  have hkept := hr2.h.ent iK
  rw [hentK] at hkept
  obtain ⟨k1, k2'⟩ := hkept
  have hkv : O'.kv k2 = a.tmps.toList := by simp [O']
  have hdk : O'.dv k2 = bs := by simp [O']
  rw [hkv] at k1; rw [hdk] at k2'
  have hdk3 : dk.length = N := by rw [← k1.length]; simpa using hr.n
  suffices hrel5 : Rel ⟨Ow, OX, Of, Og, none, Okv, Olv, Odv, Olc⟩ N ⟨(t, retD rs) :: (List.range N).zip dk, (iK, .none) :: S2.H⟩ E2 β2 (a.put (some t) v) by
    obtain ⟨β5, hr5⟩ := hrel5.weak hw5
    exact ⟨v, hv, hK' _ _ (hils E2 β5 _ hr5)⟩
  refine Rel.set (S := ⟨(List.range N).zip dk, (iK, .none) :: S2.H⟩) ⟨hr.n, ⟨bs, hbs, hnd, fun c hc => ⟨(hall c hc).1, k2' c hc⟩⟩, ?_, fun s => ?_⟩ ht hrd
  · refine HOk.swap (O := O') (H := entL S2.H) hr2.h ⟨rfl, rfl, rfl, rfl⟩ fun id => ?_
    by_cases h5 : iK = id
    · right; show look _ _ _ = _; rw [look_cons, if_pos h5]
    · left
      refine ⟨by show look _ _ _ = look _ _ _; rw [look_cons, if_neg h5], (hcomp _ ?_).2⟩
      exact freeX_ent hfree (by simp; exact Ne.symm h5)
  · have := rdl_slots0 k1 s
    rw [hdk3] at this
    exact this
/-! A loop whose first round is walked by itself. -/
def LG (P : Program) (O : Origin) (N : Nat) (c : Code) (Q : Exit → St → Prop) (S : St) : Prop :=
  ∀ E β a, Rel O N S E β a → ∀ (b : Frame) (k : List Item) (cs : List Frame), b.roundOf = (fen O.round).round → (fen O.round).fn b.fn → (fen O.round).room (cs.length + 1 + 0) →
    ∃ e a' w', (∃ S' E' β', E'.w = w' ∧ Rel O N S' E' β' a' ∧ Q e S') ∧ ArrivesIn (Machine.fenced P (fen O.round)) P (lone (b.atR a (.code c :: .inLoop c :: k)) cs E.w) b k cs e a' w'
theorem lg_round {c : Code} (h : IWP P O N c S (thenQ (LG P O N c Q) Q)) : LG P O N c Q S := by
  intro E β a hr b k cs hro hb hroom
  obtain ⟨e, a₁, w₁, ⟨S₁, E₁, β₁, rfl, hr₁, hq⟩, harr⟩ := h E β a hr b (.inLoop c :: k) cs hro hb hroom
  cases e with
  | normal =>
    obtain ⟨e₂, a₂, w₂, hq₂, harr₂⟩ := hq E₁ β₁ a₁ hr₁ b k cs hro hb hroom
    exact ⟨e₂, a₂, w₂, hq₂, .of_steps (StepsIn.trans harr (.one (fenced_calm hb hroom rfl) stepR_inLoop)) harr₂⟩
  | exit id => exact ⟨_, a₁, _, ⟨S₁, E₁, β₁, rfl, hr₁, hq⟩, .pass (x := .inLoop c) rfl (fun _ _ => .inl (by simp)) harr⟩
  | goto l => exact ⟨_, a₁, _, ⟨S₁, E₁, β₁, rfl, hr₁, hq⟩, .pass (x := .inLoop c) rfl (fun _ _ => .inl (by simp)) harr⟩
  | ret => exact ⟨_, a₁, _, ⟨S₁, E₁, β₁, rfl, hr₁, hq⟩, .pass (x := .inLoop c) rfl (fun _ _ => .inl (by simp)) harr⟩
  | panic ch => exact ⟨_, a₁, _, ⟨S₁, E₁, β₁, rfl, hr₁, hq⟩, .pass (x := .inLoop c) rfl (fun _ _ => .inl (by simp)) harr⟩
  | outgrown => exact ⟨_, a₁, _, ⟨S₁, E₁, β₁, rfl, hr₁, hq⟩, .pass (x := .inLoop c) rfl (fun _ _ => .inl (by simp)) harr⟩
theorem iwp_loop_of {c : Code} (h : LG P O N c Q S) : IWP P O N (.loop c) S Q := by
  intro E β a hr b k cs hro hb hroom
  obtain ⟨e, a', w', hq, harr⟩ := h E β a hr b k cs hro hb hroom
  exact ⟨e, a', w', hq, .of_steps (.one (fenced_calm hb hroom rfl) stepR_loop) harr⟩
theorem lg_loopP {α : Type} {c : Code} (st : α → St) (inv : α → Prop) (m : α → Nat) (a0 : α) (ρ0 : Nat → Nat) (h0 : Weak S (st a0) ρ0) (i0 : inv a0)
    (round : ∀ x, inv x → IWP P O N c (st x) (thenQ (fun S' => ∃ y ρ, Weak S' (st y) ρ ∧ inv y ∧ m y < m x) Q)) : LG P O N c Q S := by
  intro E β a hr b k cs hro hb hroom
  have key : ∀ n x E β a, m x = n → inv x → Rel O N (st x) E β a →
      ∃ e a' w', (∃ S' E' β', E'.w = w' ∧ Rel O N S' E' β' a' ∧ Q e S') ∧ ArrivesIn (Machine.fenced P (fen O.round)) P (lone (b.atR a (.code c :: .inLoop c :: k)) cs E.w) b k cs e a' w' := by
    intro n
    induction n using Nat.strongRecOn with
    | _ n ih =>
      intro x E β a hn hI hr
      obtain ⟨e, a₁, w₁, ⟨S₁, E₁, β₁, rfl, hr₁, hq⟩, harr⟩ := round x hI E β a hr b (.inLoop c :: k) cs hro hb hroom
      cases e with
      | normal =>
        obtain ⟨y, ρ, hw, hI₁, hlt⟩ := hq
        obtain ⟨β₂, hr₂⟩ := hr₁.weak hw
        obtain ⟨e₂, a₂, w₂, hq₂, harr₂⟩ := ih (m y) (hn ▸ hlt) y E₁ β₂ a₁ rfl hI₁ hr₂
        exact ⟨e₂, a₂, w₂, hq₂, .of_steps (StepsIn.trans harr (.one (fenced_calm hb hroom rfl) stepR_inLoop)) harr₂⟩
      | exit id => exact ⟨_, a₁, _, ⟨S₁, E₁, β₁, rfl, hr₁, hq⟩, .pass (x := .inLoop c) rfl (fun _ _ => .inl (by simp)) harr⟩
      | goto l => exact ⟨_, a₁, _, ⟨S₁, E₁, β₁, rfl, hr₁, hq⟩, .pass (x := .inLoop c) rfl (fun _ _ => .inl (by simp)) harr⟩
      | ret => exact ⟨_, a₁, _, ⟨S₁, E₁, β₁, rfl, hr₁, hq⟩, .pass (x := .inLoop c) rfl (fun _ _ => .inl (by simp)) harr⟩
      | panic ch => exact ⟨_, a₁, _, ⟨S₁, E₁, β₁, rfl, hr₁, hq⟩, .pass (x := .inLoop c) rfl (fun _ _ => .inl (by simp)) harr⟩
      | outgrown => exact ⟨_, a₁, _, ⟨S₁, E₁, β₁, rfl, hr₁, hq⟩, .pass (x := .inLoop c) rfl (fun _ _ => .inl (by simp)) harr⟩
  obtain ⟨β₀, hr₀⟩ := hr.weak h0
  exact key _ a0 E β₀ a rfl i0 hr₀
end
end Go.IL
