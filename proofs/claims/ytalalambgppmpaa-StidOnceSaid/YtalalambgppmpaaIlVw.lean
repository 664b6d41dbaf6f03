/-
  A part of the proof: rules and plain facts. No condition.
-/
import Derived.Test.YtalalambgppmpaaIlAr
import Derived.Lib.AppendZerosOnto
import Derived.Laws.CopyRow
set_option linter.all false
open Go.RowKit (Below)
namespace Go.IL
/-! Views of lists that are owned: their room is known, too. -/
section
variable {P : Program} {O : Origin} {N : Nat} {S S' : St} {o : Oper} {t : Nat} {Q : Exit → St → Prop}
theorem rd_rsl {E : Env} {β : Names} {v : Value} {id sz off len cap : Nat} (h : Rd E β v (.rsl id sz off len cap)) :
    ∃ b p c e f, v = .slice (some ⟨b, p, none⟩) len cap ∧ β id = some b ∧ len ≤ cap ∧ 0 < sz ∧ (0 < cap → p = off) ∧ p ≤ off ∧ E.w.heap[b]? = some (Obj.cells c e f) ∧ off + cap * sz ≤ c.size ∧ cap ≤ maxLen := by
  cases h with
  | rsl _ _ _ _ _ _ b p h1 h2 h3 h4 c e f h5 h6 h7 => exact ⟨b, p, c, e, f, rfl, h1, h2, h3, h4.1, h4.2, h5, h6, h7⟩
theorem ent_setE_self {S : St} {id t : Nat} {e : Ent} {d : D} : ((S.setE id e).set t d).ent id = e := by simp [St.ent, entL, St.setE, St.set, look_cons]
theorem ent_setE_other {S : St} {id t j : Nat} {e : Ent} {d : D} (h : j ≠ id) : ((S.setE id e).set t d).ent j = S.ent j := by simp [St.ent, entL, St.setE, St.set, look_cons, Ne.symm h]
/-- A block's reading turns, and a slot's; the world does not. -/
theorem Rel.turn {E : Env} {β : Names} {a : Act} (h : Rel O N S E β a) {id b : Nat} {e : TypeId} {ds ds' : List D} {d : D} (he : S.ent id = .blk e ds) (hb : β id = some b)
    (hk : ∀ vs sp, E.w.heap[b]? = some (.cells (List.toArray (vs ++ sp)) e (0, 0)) → RdL E β vs ds → ∃ vs' sp', vs' ++ sp' = vs ++ sp ∧ RdL E β vs' ds') (hd : Rd E β (a.tmps.getD t undef) d) :
    Rel O N ((S.setE id (.blk e ds')).set t d) E β a := by
  have hent := h.h.ent id
  rw [he] at hent
  obtain ⟨vs, sp, h1, h2, h3, h4⟩ := blk_at hent hb
  obtain ⟨vs', sp', h5, h6⟩ := hk vs sp h2 h4
  have held : ∀ j, (((S.setE id (.blk e ds')).set t d).ent j).held = (S.ent j).held := fun j => by
    by_cases hj : j = id
    · subst hj; rw [ent_setE_self, he]; rfl
    · rw [ent_setE_other hj]
  refine ⟨h.n, h.nd, ?_, fun s => ?_⟩
  · refine { h.h with ent := fun j => ?_, inj := fun i j k hi hj => h.h.inj i j k (held i ▸ hi) (held j ▸ hj) }
    by_cases hj : j = id
    · subst hj; rw [ent_setE_self]; exact .inr ⟨b, vs', sp', hb, h1, by rw [h5]; exact h2, h3, h6⟩
    · rw [ent_setE_other hj]; exact h.h.ent j
  · by_cases hst : t = s
    · subst hst; simpa [St.get, St.set, look_cons] using hd
    · have := h.sl s
      simpa [St.get, St.set, St.setE, look_cons, hst] using this
theorem Rel.opened {E : Env} {β : Names} {a : Act} (h : Rel O N S E β a) {id sz n : Nat} {e : TypeId} {ds : List D} (hS : S.get t = .osl id sz n) (he : S.ent id = .blk e ds) (hl : ds.length = n * sz) :
    (n = 0 ∧ Rel O N (S.set t .nils) E β a) ∨ ∃ cap, n ≤ cap ∧ cap ≤ maxLen ∧ Rel O N ((S.setE id (.blk e (ds ++ List.replicate ((cap - n) * sz) .dead))).set t (.rsl id sz 0 n cap)) E β a := by
  have h1 := h.sl t
  rw [hS] at h1
  generalize hv : a.tmps.getD t undef = v at h1
  cases h1 with
  | nosl =>
    left
    refine ⟨rfl, h.n, h.nd, ?_, fun s => ?_⟩
    · exact h.h
    · by_cases hst : t = s
      · subst hst; simp only [St.get, St.set, look_cons, if_true]; rw [hv]; exact .nils _
      · have := h.sl s
        simpa [St.get, St.set, look_cons, hst] using this
  | osl _ _ b _ cap _ hb hc hsz c e' f hcap hcs hcm =>
    right
    refine ⟨cap, hc, hcm, h.turn he hb (fun vs sp hh hvs => ?_) ?_⟩
    · rw [hh] at hcap; cases hcap
      have hvl := hvs.length
      have hle : (cap - n) * sz ≤ sp.length := by
        simp only [List.size_toArray, List.length_append, hvl, hl] at hcs
        have : cap * sz = n * sz + (cap - n) * sz := by rw [← Nat.add_mul]; congr 1; omega
        omega
      refine ⟨vs ++ sp.take ((cap - n) * sz), sp.drop ((cap - n) * sz), by rw [List.append_assoc, List.take_append_drop], hvs.append ?_⟩
      have := rdl_dead E β (sp.take ((cap - n) * sz))
      rwa [List.length_take, Nat.min_eq_left hle] at this
    · rw [hv]; exact .rsl _ _ _ _ _ _ b 0 hb hc hsz ⟨fun _ => rfl, Nat.le_refl _⟩ c e' f hcap (by rw [Nat.zero_add]; exact hcs) hcm
theorem Rel.closed {E : Env} {β : Names} {a : Act} (h : Rel O N S E β a) {id sz n cap : Nat} {e : TypeId} {ds j : List D} (hS : S.get t = .rsl id sz 0 n cap) (he : S.ent id = .blk e (ds ++ j)) (hl : ds.length = n * sz) :
    Rel O N ((S.setE id (.blk e ds)).set t (.osl id sz n)) E β a := by
  have h1 := h.sl t
  rw [hS] at h1
  obtain ⟨b, p, c, e', f, hv, hb, hc, hsz, hp, hp', hcap, hcs, hcm⟩ := rd_rsl h1
  refine h.turn he hb (fun vs sp hh hvs => ?_) ?_
  · refine ⟨vs.take ds.length, vs.drop ds.length ++ sp, by rw [← List.append_assoc, List.take_append_drop], ?_⟩
    have := hvs.take ds.length
    rwa [List.take_append_of_le_length (Nat.le_refl _), List.take_length] at this
  · rw [hv]
    have : p = 0 := by omega
    subst this
    exact .osl _ _ b n cap sz hb hc hsz c e' f hcap (by omega) hcm
theorem iwp_open {c : Code} (t : Nat) {id sz n : Nat} {e : TypeId} {ds : List D} (hS : S.get t = .osl id sz n) (he : S.ent id = .blk e ds) (hl : ds.length = n * sz) (h0 : n = 0 → IWP P O N c (S.set t .nils) Q)
    (h1 : ∀ cap, n ≤ cap → cap ≤ maxLen → IWP P O N c ((S.setE id (.blk e (ds ++ List.replicate ((cap - n) * sz) .dead))).set t (.rsl id sz 0 n cap)) Q) : IWP P O N c S Q := by
  intro E β a hr
  rcases hr.opened hS he hl with ⟨h2, h3⟩ | ⟨cap, h2, h3, h4⟩
  · exact h0 h2 E β a h3
  · exact h1 cap h2 h3 E β a h4
theorem iwp_close {c : Code} (t : Nat) {id sz n cap : Nat} {e : TypeId} {ds j : List D} (hS : S.get t = .rsl id sz 0 n cap) (he : S.ent id = .blk e (ds ++ j)) (hl : ds.length = n * sz) (h : IWP P O N c ((S.setE id (.blk e ds)).set t (.osl id sz n)) Q) : IWP P O N c S Q :=
  fun E β a hr => h E β a (hr.closed hS he hl)
theorem ils_close {ops : Array Oper} {c : List Oper} (t : Nat) {id sz n cap : Nat} {e : TypeId} {ds j : List D} (hS : S.get t = .rsl id sz 0 n cap) (he : S.ent id = .blk e (ds ++ j)) (hl : ds.length = n * sz) (h : ILS P O N ops c ((S.setE id (.blk e ds)).set t (.osl id sz n)) Q) : ILS P O N ops c S Q :=
  fun E β a hr => h E β a (hr.closed hS he hl)
theorem iop_cap_rsl {T e : TypeId} {x : Operand} {id sz off len cap : Nat} {n : Int} (ho : o.op = .call { callee := .builtin .cap, args := #[x], argTypes := #[T] }) (hd : o.dst = some t) (ht : t < N) (hu : P.underlying T = some (.slice e))
    (hx : SV S x (.rsl id sz off len cap)) (hn : (cap : Int) = n) : IOp P O N o S (S.set t (.int .i64 n)) :=
  iop_of hd ht fun E β a hr => ⟨.int .i64 n, by
    subst hn
    obtain ⟨b, p, c, e', f, hv, _⟩ := rd_rsl (hx.rd hr)
    simp [execOp, ho, resolve, invoke, builtin, Builtin.cap_, run_underlying hu, hv, goInt], .int _ _ _⟩
theorem iop_len_rsl {T e : TypeId} {x : Operand} {id sz off len cap : Nat} {n : Int} (ho : o.op = .call { callee := .builtin .len, args := #[x], argTypes := #[T] }) (hd : o.dst = some t) (ht : t < N) (hu : P.underlying T = some (.slice e))
    (hx : SV S x (.rsl id sz off len cap)) (hn : (len : Int) = n) : IOp P O N o S (S.set t (.int .i64 n)) :=
  iop_of hd ht fun E β a hr => ⟨.int .i64 n, by
    subst hn
    obtain ⟨b, p, c, e', f, hv, _⟩ := rd_rsl (hx.rd hr)
    simp [execOp, ho, resolve, invoke, builtin, Builtin.len_, run_underlying hu, hv, goInt], .int _ _ _⟩
/-- A view of a view. -/
theorem run_bounds3 {E : Env} {β : Names} {a : Act} (hr : Rel O N S E β a) {len cap : Nat} {lo hi mx : Option Operand} {l h m : Int} (hlo : Bound S 0 lo l) (hhi : Bound S len hi h) (hmx : Bound S cap mx m) (hs : mx.isSome = true → hi.isSome = true) (h0 : 0 ≤ l) (h1 : l ≤ h) (h2 : h ≤ m) (h3 : m ≤ cap) :
    (Instr.sliceBounds true len cap (lo.map a.eval) (hi.map a.eval) (mx.map a.eval)).run P E.w = .ok (l.toNat, h.toNat, m.toNat) E.w := by
  have e1 : 0 ≤ h := by omega
  have e0 : 0 ≤ m := by omega
  have e2 : l ≤ (h.toNat : Int) := by omega
  have e3 : h ≤ (m.toNat : Int) := by omega
  have m1 : max h 0 = h := Int.max_eq_left e1
  have m2 : max m 0 = m := Int.max_eq_left e0
  cases mx with
  | none =>
    have hmx : m = cap := hmx
    subst hmx
    cases lo with
    | none =>
      have hlo : l = 0 := hlo
      subst hlo
      cases hi with
      | none => have hhi : h = len := hhi; subst hhi; simp [Instr.sliceBounds]
      | some y => obtain ⟨k, hy⟩ := hhi; simp [Instr.sliceBounds, Instr.sliceBound, rd_int (hy.rd hr), asIntOf, e1, h2]
    | some x =>
      obtain ⟨k, hx⟩ := hlo
      cases hi with
      | none => have hhi : h = len := hhi; subst hhi; simp [Instr.sliceBounds, Instr.sliceBound, rd_int (hx.rd hr), asIntOf, h0, h1]
      | some y => obtain ⟨k', hy⟩ := hhi; simp [Instr.sliceBounds, Instr.sliceBound, rd_int (hx.rd hr), rd_int (hy.rd hr), asIntOf, h0, e1, e2, h2, m1, h1]
  | some z =>
    obtain ⟨kz, hz⟩ := hmx
    cases hi with
    | none => exact absurd (hs rfl) (by simp)
    | some y =>
      obtain ⟨k', hy⟩ := hhi
      cases lo with
      | none =>
        have hlo : l = 0 := hlo
        subst hlo
        simp [Instr.sliceBounds, Instr.sliceBound, rd_int (hy.rd hr), rd_int (hz.rd hr), asIntOf, e0, e1, e3, h3, m2, h2]
      | some x =>
        obtain ⟨k, hx⟩ := hlo
        simp [Instr.sliceBounds, Instr.sliceBound, rd_int (hx.rd hr), rd_int (hy.rd hr), rd_int (hz.rd hr), asIntOf, h0, e0, e1, e2, e3, h3, m1, m2, h1, h2]
theorem iop_slice_rsl {T e : TypeId} {x : Operand} {lo hi mx : Option Operand} {id sz off len cap : Nat} {l h m : Int} {z : Option Value} {bytes : Nat} {d : D} (ho : o.op = .slice T x lo hi mx) (hd : o.dst = some t) (ht : t < N) (hu : P.underlying T = some (.slice e)) (hi' : TI P e z sz bytes)
    (hx : SV S x (.rsl id sz off len cap)) (hlo : Bound S 0 lo l) (hhi : Bound S len hi h) (hmx : Bound S cap mx m) (hs : mx.isSome = true → hi.isSome = true) (h0 : 0 ≤ l) (h1 : l ≤ h) (h2 : h ≤ m) (h3 : m ≤ cap)
    (hdd : D.rsl id sz (off + l.toNat * sz) (h.toNat - l.toNat) (m.toNat - l.toNat) = d) : IOp P O N o S (S.set t d) :=
  iop_of hd ht fun E β a hr => by
    subst hdd
    obtain ⟨b, p, c, e', f, hv, hb, hlc, hsz, hp, hp', hcap, hcs, hcm⟩ := rd_rsl (hx.rd hr)
    have hbd := run_bounds3 (P := P) hr hlo hhi hmx hs h0 h1 h2 h3
    have hmc : m.toNat ≤ cap := by omega
    have hlm : l.toNat ≤ m.toNat := by omega
    have hfit : off + l.toNat * sz + (m.toNat - l.toNat) * sz ≤ c.size := by
      have : l.toNat * sz + (m.toNat - l.toNat) * sz ≤ cap * sz := by rw [← Nat.add_mul]; exact Nat.mul_le_mul_right _ (by omega)
      omega
    refine ⟨.slice (if m.toNat = l.toNat then some ⟨b, p, none⟩ else some ⟨b, p + l.toNat * sz, none⟩) (h.toNat - l.toNat) (m.toNat - l.toNat), ?_, ?_⟩
    · simp only [execOp, ho, hv, Instr.sliceAt, Instr.slice, Sem.run_bind, run_underlying hu, Result.andThen_ok, hbd, hi'.run_size, Sem.run_pure]
      split <;> simp [add_none]
    · split
      · rename_i hml
        exact .rsl _ _ _ _ _ _ b p hb (by omega) hsz ⟨fun h => by omega, by omega⟩ c e' f hcap hfit (by omega)
      · rename_i hml
        have hpo := hp (by omega)
        exact .rsl _ _ _ _ _ _ b _ hb (by omega) hsz ⟨fun _ => by rw [hpo], by omega⟩ c e' f hcap hfit (by omega)
theorem src_rsl {y : Operand} {id sz off len cap : Nat} {e : TypeId} {ds : List D} (hy : SV S y (.rsl id sz off len cap)) (he : S.ent id = .blk e ds) (hl : off + len * sz ≤ ds.length) : ∀ E β a, Rel O N S E β a → Src E β (a.eval y) len ((ds.drop off).take (len * sz)) := by
  intro E β a hr
  obtain ⟨b, p, c, e', f, hv, hb, hlc, hsz, hp, hp', hcap, hcs, hcm⟩ := rd_rsl (hy.rd hr)
  have hent := hr.h.ent id
  rw [he] at hent
  obtain ⟨vs, sp, _, hh, _, hvs⟩ := blk_at hent hb
  by_cases h0 : len = 0
  · subst h0; exact .inl ⟨.inr ⟨_, _, hv⟩, rfl, by simp⟩
  · have hpo := hp (by omega)
    subst hpo
    have hvl := hvs.length
    refine .inr ⟨b, p, cap, (vs.drop p).take (len * sz), hv, fun j u hj => ?_, (hvs.drop p).take _⟩
    rw [add_none, cell_of_row _ _ _ _ _ _ hh]
    rw [List.getElem?_take] at hj
    split at hj
    · rename_i hjl
      rw [List.getElem?_drop] at hj
      have hlt := (List.getElem?_eq_some_iff.1 hj).1
      simpa [List.getElem?_append_left hlt] using hj
    · cases hj
/-- A part of a block is written anew: the world behind it. -/
theorem splice_app {vs us sp : List Value} {off : Nat} (h : off + us.length ≤ vs.length) : ((vs ++ sp).take off ++ us ++ (vs ++ sp).drop (off + us.length)) = (vs.take off ++ us ++ vs.drop (off + us.length)) ++ sp := by
  rw [List.take_append_of_le_length (by omega), List.drop_append_of_le_length h]; simp
theorem put_part {E : Env} {β : Names} {a : Act} (hr : Rel O N S E β a) {id b off : Nat} {e : TypeId} {ds es : List D} {vs us sp : List Value} (he : S.ent id = .blk e ds) (hb : β id = some b) (hown : O.own b) (hh : E.w.heap[b]? = some (.cells (List.toArray (vs ++ sp)) e (0, 0))) (hX : ∀ o, E.X b o)
    (hl : RdL E β vs ds) (hc : RdL E β us es) (hn : off + es.length ≤ ds.length) :
    ∃ E' : Env, E'.w = E.w.setRow b ((vs ++ sp).take off ++ us ++ (vs ++ sp).drop (off + us.length)).toArray ∧ E'.X = E.X ∧ E.le E' ∧ Rel O N (S.setE id (.blk e (splice ds off es))) E' β a := by
  have hvl := hl.length
  have hul := hc.length
  have e1 := splice_app (sp := sp) (show off + us.length ≤ vs.length by omega)
  let E' : Env := ⟨E.w.setRow b ((vs ++ sp).take off ++ us ++ (vs ++ sp).drop (off + us.length)).toArray, E.X⟩
  have hs : Step O E E' b := ⟨rfl, rfl, rfl, by simp [E'], by simpa [E'] using heap_lt hh, hown, fun k _ hk => setRow_other _ _ _ _ hk, fun _ _ _ => Iff.rfl, fun _ h => by rw [hh] at h; cases h⟩
  have hle : E.le E' := hs.le (fun o v _ h2 => absurd (hX o) h2) (fun c e' f h3 => by
    rw [hh] at h3; cases h3
    exact ⟨_, _, setRow_heap _ _ _ _ _ _ hh, by rw [e1]; simp; omega⟩)
  refine ⟨E', rfl, rfl, hle, hr.n, hr.nd.step hs, ?_, fun s => Rd.mono hle (Names.le.refl _) (hr.sl s)⟩
  refine HOk.put hr.h hs hle (Names.le.refl _) ?_ ?_ hb ?_ (fun _ _ => trivial)
  · intro j hj; left; exact ⟨by simp [St.ent, entL, St.setE, look_cons, Ne.symm hj], rfl⟩
  · intro j hj hheld hbj
    have : (S.ent j).held = true := by simpa [St.ent, entL, St.setE, look_cons, Ne.symm hj] using hheld
    exact hj (hr.h.inj j id b this (by rw [he]; rfl) hbj hb)
  · simp only [St.ent, entL, St.setE, look_cons, if_true]
    refine ⟨_, sp, by rw [← e1]; exact setRow_heap _ _ _ _ _ _ hh, hX, ?_⟩
    rw [splice, ← hul]
    exact RdL.mono hle (Names.le.refl _) (((hl.take off).append hc).append (hl.drop _))
theorem all_take' {es : List D} (h : es.all D.one = true) (k : Nat) : (es.take k).all D.one = true := by
  rw [List.all_eq_true] at h ⊢
  exact fun x hx => h x (List.mem_of_mem_take hx)
/-- 'copy' into a view. -/
theorem iop_copy_rsl {T T2 e : TypeId} {x y : Operand} {id sz off len cap m : Nat} {e' : TypeId} {ds es ds' : List D} {z : Option Value} {bytes : Nat} {k : Int} (ho : o.op = .call { callee := .builtin .copy, args := #[x, y], argTypes := #[T, T2] }) (hd : o.dst = some t) (ht : t < N)
    (hu : P.underlying T = some (.slice e)) (hi : TI P e z sz bytes) (hx : SV S x (.rsl id sz off len cap)) (he : S.ent id = .blk e' ds) (hy : ∀ E β a, Rel O N S E β a → Src E β (a.eval y) m es) (hes : es.length = m * sz) (hone : (es.take (min m len * sz)).all D.one = true)
    (hfit : off + len * sz ≤ ds.length) (hk : ((min m len : Nat) : Int) = k) (hds : splice ds off (es.take (min m len * sz)) = ds') : IOp P O N o S ((S.setE id (.blk e' ds')).set t (.int .i64 k)) := by
  intro E β a hr next Q hn
  subst hk hds
  obtain ⟨b, p, c, e'', f, hv, hb, hlc, hsz, hp, hp', hcap, hcs, hcm⟩ := rd_rsl (hx.rd hr)
  have hent := hr.h.ent id
  rw [he] at hent
  obtain ⟨vs, sp, hown, hh, hX, hvs⟩ := blk_at hent hb
  obtain ⟨i, hi1, hi2, hi3, hi4⟩ := hi.at
  have hvl := hvs.length
  have hrun0 : ∀ r, (Builtin.copy_ #[T, T2] o.type #[a.eval x, a.eval y]).run P E.w = r → (execOp a.eval o).run P E.w = r.andThen fun v w' => .ok (.value v) w' := fun r hr' => by
    simp [execOp, ho, resolve, invoke, builtin, hr']
  have key : ∀ us : List Value, RdL E β us (es.take (min m len * sz)) → (0 < min m len → p = off) → (Builtin.copy_ #[T, T2] o.type #[a.eval x, a.eval y]).run P E.w = .ok (goInt ((min m len : Nat) : Int)) (E.w.setRow b ((vs ++ sp).take p ++ us ++ (vs ++ sp).drop (p + us.length)).toArray) →
      o.wp P a E.w next Q := by
    intro us hus hpo hra
    unfold Oper.wp
    rw [hrun0 _ hra]
    have hul := hus.length
    rw [List.length_take, hes] at hul
    have hmin : min (min m len * sz) (m * sz) = min m len * sz := Nat.min_eq_left (Nat.mul_le_mul_right _ (Nat.min_le_left _ _))
    rw [hmin] at hul
    have hle2 : min m len * sz ≤ len * sz := Nat.mul_le_mul_right _ (Nat.min_le_right _ _)
    have hlt : (es.take (min m len * sz)).length = min m len * sz := by rw [List.length_take, hes, hmin]
    have heq : E.w.setRow b ((vs ++ sp).take p ++ us ++ (vs ++ sp).drop (p + us.length)).toArray = E.w.setRow b ((vs ++ sp).take off ++ us ++ (vs ++ sp).drop (off + us.length)).toArray := by
      by_cases h0 : 0 < min m len
      · rw [hpo h0]
      · have : us = [] := List.length_eq_zero_iff.1 (by rw [hul, show min m len = 0 by omega, Nat.zero_mul])
        subst this
        simp
    rw [heq]
    obtain ⟨E', h1, h2, h3, h4⟩ := put_part hr he hb hown hh hX hvs hus (off := off) (by rw [hlt]; omega)
    simp only [Result.andThen_ok, Oper.upon, hd]
    rw [← h1]
    have := h4.set ht (v := goInt ((min m len : Nat) : Int)) (d := .int .i64 ((min m len : Nat) : Int)) (by unfold goInt; exact .int _ _ _)
    exact hn E' β _ this
  have none_ : m = 0 ∨ len = 0 → ∀ yo sc, a.eval y = .slice yo m sc → o.wp P a E.w next Q := by
    intro h0 yo sc hyv
    have hm0 : min m len = 0 := by omega
    refine key [] (by rw [hm0, Nat.zero_mul]; exact .nil _) (fun h => by omega) ?_
    have e1 : E.w.setRow b ((vs ++ sp).take p ++ [] ++ (vs ++ sp).drop (p + ([] : List Value).length)).toArray = E.w := by
      simp only [List.append_nil, List.length_nil, Nat.add_zero, List.take_append_drop]
      exact setRow_self _ _ _ _ _ hh
    rw [e1, hm0, hv, hyv]
    have hl0 : ∀ q : Addr, (loadCells q 0).run P E.w = .ok #[] E.w := fun q => by simpa using run_loadCells_list (P := P) E.w q [] (by simp)
    have hmn : Nat.min m len = 0 := hm0
    cases yo <;> simp [Builtin.copy_, run_underlying hu, Builtin.lenOf, Builtin.firstCells, hi.run_size, hmn, storeCells, hl0]
  rcases hy E β a hr with ⟨hyv, hm0, he0⟩ | ⟨yb, yoff, ycap, us, hyv, hyr, hus⟩
  · subst hm0
    rcases hyv with hyv | ⟨ad, sc, hyv⟩
    · exact none_ (.inl rfl) _ _ hyv
    · exact none_ (.inl rfl) _ _ hyv
  · by_cases h0 : m = 0 ∨ len = 0
    · exact none_ h0 _ _ hyv
    · have hmin : min m len * sz ≤ m * sz := Nat.mul_le_mul_right _ (Nat.min_le_left _ _)
      have hle2 : min m len * sz ≤ len * sz := Nat.mul_le_mul_right _ (Nat.min_le_right _ _)
      have hul : us.length = m * sz := by rw [hus.length, hes]
      have hpo := hp (by omega)
      have hus' := hus.take (min m len * sz)
      have hlt : (us.take (min m len * sz)).length = min m len * sz := by rw [List.length_take, hul]; omega
      refine key _ hus' (fun _ => hpo) ?_
      have hl := run_loadCells_list (P := P) E.w ⟨yb, yoff, none⟩ (us.take (min m len * sz)) (fun j u hj => by
        rw [List.getElem?_take] at hj
        split at hj
        · exact hyr j u hj
        · cases hj)
      have hst := run_storeCells_at P b p e' (us.take (min m len * sz)) 0 (vs ++ sp).toArray E.w hh (by simp; omega) (rdl_one hus' hone)
      simp only [Nat.add_zero] at hst
      rw [hv, hyv]
      have hmm : Nat.min m len = min m len := rfl
      rw [hlt] at hl hst ⊢
      simp [Builtin.copy_, run_underlying hu, Builtin.lenOf, Builtin.firstCells, hi.run_size, hmm, hl, hst]
end
end Go.IL
