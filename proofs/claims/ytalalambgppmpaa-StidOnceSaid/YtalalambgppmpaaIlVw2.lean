/-
  A part of the proof: rules and plain facts. No condition.
-/
import Derived.Test.YtalalambgppmpaaIlVw
import Derived.Lib.Overlaps
set_option linter.all false
open Go.RowKit (Below)
namespace Go.IL
section
variable {P : Program} {O : Origin} {N : Nat} {S S' : St} {o : Oper} {t : Nat} {Q : Exit → St → Prop}
/-- 'append' to a view that has room. -/
theorem iop_app_room {T e : TypeId} {x y : Operand} {id sz l cap m : Nat} {ds es ds' : List D} {z : Option Value} {bytes : Nat} {d : D} (ho : o.op = .call { callee := .builtin .append, args := #[x, y], argTypes := #[T, T] }) (hd : o.dst = some t) (ht : t < N)
    (hu : P.underlying T = some (.slice e)) (hi : TI P e z sz bytes) (hx : SV S x (.rsl id sz 0 l cap)) (he : S.ent id = .blk e ds) (hy : ∀ E β a, Rel O N S E β a → Src E β (a.eval y) m es) (hes : es.length = m * sz) (hone : es.all D.one = true)
    (hroom : l + m ≤ cap) (hfit : (l + m) * sz ≤ ds.length) (hds : splice ds (l * sz) es = ds') (hdd : D.rsl id sz 0 (l + m) cap = d) : IOp P O N o S ((S.setE id (.blk e ds')).set t d) := by
  intro E β a hr next Q hn
  subst hds hdd
  obtain ⟨b, p, c, e'', f, hv, hb, hlc, hsz, hp, hp', hcap, hcs, hcm⟩ := rd_rsl (hx.rd hr)
  have hp0 : p = 0 := by omega
  subst hp0
  have hent := hr.h.ent id
  rw [he] at hent
  obtain ⟨vs, sp, hown, hh, hX, hvs⟩ := blk_at hent hb
  obtain ⟨i, hi1, hi2, hi3, hi4⟩ := hi.at
  have hvl := hvs.length
  have hrun0 : ∀ r, (Builtin.append_ #[T, T] o.type #[a.eval x, a.eval y]).run P E.w = r → (execOp a.eval o).run P E.w = r.andThen fun v w' => .ok (.value v) w' := fun r hr' => by
    simp [execOp, ho, resolve, invoke, builtin, hr']
  have hmul : (l + m) * sz = l * sz + m * sz := Nat.add_mul _ _ _
  have key : ∀ us : List Value, RdL E β us es → (Builtin.append_ #[T, T] o.type #[a.eval x, a.eval y]).run P E.w = .ok (.slice (some ⟨b, 0, none⟩) (l + m) cap) (E.w.setRow b ((vs ++ sp).take (l * sz) ++ us ++ (vs ++ sp).drop (l * sz + us.length)).toArray) → o.wp P a E.w next Q := by
    intro us hus hra
    unfold Oper.wp
    rw [hrun0 _ hra]
    obtain ⟨E', h1, h2, h3, h4⟩ := put_part hr he hb hown hh hX hvs hus (off := l * sz) (by omega)
    simp only [Result.andThen_ok, Oper.upon, hd]
    rw [← h1]
    rw [hh] at hcap; cases hcap
    obtain ⟨c', f', h5, h6⟩ := h3.size _ _ _ _ hh
    exact hn E' β _ (h4.set ht (.rsl _ _ _ _ _ _ b 0 hb hroom hsz ⟨fun _ => rfl, Nat.le_refl _⟩ _ _ _ h5 (by rw [h6]; exact hcs) hcm))
  have nothing : m = 0 → es = [] → (a.eval y = .slice none 0 0 ∨ ∃ b c', a.eval y = .slice (some b) 0 c') → o.wp P a E.w next Q := by
    intro hm0 he0 hyv
    subst hm0 he0
    refine key [] (.nil _) ?_
    have e1 : E.w.setRow b ((vs ++ sp).take (l * sz) ++ [] ++ (vs ++ sp).drop (l * sz + ([] : List Value).length)).toArray = E.w := by
      simp only [List.append_nil, List.length_nil, Nat.add_zero, List.take_append_drop]
      exact setRow_self _ _ _ _ _ hh
    rw [e1, hv]
    exact run_append_nothing (P := P) (w := E.w) (ty := o.type) hu hi (some ⟨b, 0, none⟩) l cap hlc _ hyv
  rcases hy E β a hr with ⟨hyv, hm0, he0⟩ | ⟨yb, yoff, ycap, us, hyv, hyr, hus⟩
  · exact nothing hm0 he0 hyv
  · by_cases h0 : m = 0
    · exact nothing h0 (List.length_eq_zero_iff.1 (by rw [hes, h0, Nat.zero_mul])) (.inr ⟨_, _, by subst h0; exact hyv⟩)
    · refine key us hus ?_
      rw [hv, hyv]
      have hul : us.length = m * i.size := by rw [hus.length, hes, hi3]
      have := run_append_room (P := P) E.w T o.type e i hu hi1 b l cap (vs ++ sp).toArray hh ⟨yb, yoff, none⟩ m ycap us hul hyr (rdl_one hus hone) hroom (by rw [hul, hi3]; simp; omega)
      rw [this, hi3]
/-- 'append(s, make(..)..)' where there is no room: a new block; what was made is not looked at. -/
theorem iop_app_made {T tn e : TypeId} {x y : Operand} {z : Value} {id sz l cap k bytes : Nat} {ki kn : IntKind} {n : Int} {ds : List D} (id' : Nat)
    (ho : o.op = .call { callee := .builtin .append, args := #[x, y], argTypes := #[T, tn] }) (hd : o.dst = some t) (ht : t < N)
    (hu : P.underlying T = some (.slice e)) (htn : P.underlying tn = some (.int kn)) (hi : TI P e (some z) sz bytes) (hz : z.cells.size = sz)
    (hx : SV S x (.rsl id sz 0 l cap)) (he : S.ent id = .blk e ds) (hfr : S.ent id' = .fresh) (hy : SV S y (.int ki n)) (hn : n = (k : Int)) (hk : 0 < k) (hl : l * sz ≤ ds.length)
    (hg : cap < l + k) (hm : l + k ≤ maxLen) (hb : (l + k) * bytes ≤ 140737488355328) :
    IOp P O N o S ((S.setE id' (.blk e (ds.take (l * sz) ++ List.replicate (k * sz) .dead))).set t (.osl id' sz (l + k))) := by
  intro E β a hr next Q hnx
  subst hn
  obtain ⟨b, p, c, e'', f, hv, hb', hlc, hsz, hp, hp', hcap, hcs, hcm⟩ := rd_rsl (hx.rd hr)
  have hp0 : p = 0 := by omega
  subst hp0
  have hent := hr.h.ent id
  rw [he] at hent
  obtain ⟨vs, sp, hown, hh, hX, hvs⟩ := blk_at hent hb'
  obtain ⟨i, hi1, hi2, hi3, hi4⟩ := hi.at
  have hvl := hvs.length
  have hfre : β id' = none := by have := hr.h.ent id'; rw [hfr] at this; exact this
  have hold : (Builtin.firstCells i.size l (.slice (some ⟨b, 0, none⟩) l cap)).run P E.w.drew = .ok (vs.take (l * sz)).toArray E.w.drew := by
    refine run_firstCells_some (P := P) E.w.drew i.size l ⟨b, 0, none⟩ l cap (vs.take (l * sz)) (by rw [List.length_take, hi3]; omega) fun j u hj => ?_
    rw [add_none, Nat.zero_add]
    have h1 : E.w.drew.cell? ⟨b, j, none⟩ = E.w.cell? ⟨b, j, none⟩ := rfl
    rw [h1, cell_of_row _ _ _ _ _ _ hh]
    rw [List.getElem?_take] at hj
    split at hj
    · have hlt := (List.getElem?_eq_some_iff.1 hj).1
      simpa [List.getElem?_append_left hlt] using hj
    · cases hj
  have hkb : k * i.bytes ≤ 281474976710656 := by
    have : k * i.bytes ≤ (l + k) * i.bytes := Nat.mul_le_mul_right _ (by omega)
    rw [hi4] at this ⊢; omega
  have hra := Go.Lib.run_append_grow_zeros (P := P) E.w T tn o.type e i z ki kn hu htn hi1 hi2 (some ⟨b, 0, none⟩) l cap (vs.take (l * sz)) hold k hk (by rw [hi3]; exact hsz) hg (by simp [maxLen] at hm; omega) hkb (growslice_fits (by omega) (by rw [hi4]; exact hb))
  have hyv := rd_int (hy.rd hr)
  have hrun : (execOp a.eval o).run P E.w = ((Builtin.append_ #[T, tn] o.type #[a.eval x, a.eval y]).run P E.w).andThen fun v w' => .ok (.value v) w' := by
    simp [execOp, ho, resolve, invoke, builtin]
  unfold Oper.wp
  rw [hrun, hv, hyv, hra]
  simp only [Result.andThen_ok, Oper.upon, hd]
  let C : Array Value := (vs.take (l * sz)).toArray ++ Builtin.zeroCells z.cells k ++ Builtin.zeroCells z.cells (grownCap E.w (l + k) cap e - (l + k))
  let E' : Env := ⟨E.w.drew.alloc (.cells C e), fun b o => b = E.w.heap.size ∨ E.X b o⟩
  let β' : Names := fun j => if j = id' then some E.w.heap.size else β j
  have hβ : β.le β' := fun j b hj => by
    by_cases hji : j = id'
    · subst hji; rw [hfre] at hj; cases hj
    · simp [β', hji, hj]
  have hs : Step O E E' E.w.heap.size :=
    ⟨rfl, rfl, rfl, by simp [E'], by simp [E'], .inl hr.h.size, fun k hk _ => heap_alloc_old E.w.drew _ hk, fun k o hk => by simp [E', hk], fun _ h => Nat.lt_irrefl _ (heap_lt h)⟩
  have hle : E.le E' := hs.le (fun o v h1 _ => by have := World.block_lt_of_cell? _ _ h1; simp at this) (fun c e f h1 => by have := heap_lt h1; simp at this)
  have hnew : E'.w.heap[E.w.heap.size]? = some (.cells C e (0, 0)) := heap_alloc_new E.w.drew _
  have hts : t < a.tmps.size := hr.n ▸ ht
  refine hnx E' β' _ ⟨by simp [Act.put, hr.n], hr.nd.step hs, ?_, fun s => ?_⟩
  · refine HOk.put hr.h hs hle hβ ?_ ?_ (id := id') (by simp [β']) ?_ (fun _ _ => trivial)
    · intro j hj; left; constructor
      · simp [St.ent, entL, St.setE, St.set, look_cons, Ne.symm hj]
      · simp [β', hj]
    · intro j hj hheld hbj
      have : (S.ent j).held = true := by simpa [St.ent, entL, St.setE, St.set, look_cons, Ne.symm hj] using hheld
      have := hr.h.held_lt this hbj
      omega
    · simp only [St.ent, entL, St.setE, St.set, look_cons, if_true]
      refine ⟨vs.take (l * sz) ++ (Builtin.zeroCells z.cells k).toList, (Builtin.zeroCells z.cells (grownCap E.w (l + k) cap e - (l + k))).toList, by rw [hnew]; simp [C], fun o => .inl rfl, (RdL.mono hle hβ (hvs.take _)).append ?_⟩
      have := rdl_dead E' β' (Builtin.zeroCells z.cells k).toList
      rwa [show (Builtin.zeroCells z.cells k).toList.length = k * sz by rw [Array.length_toList, size_zeroCells, hz]] at this
  · by_cases hst : t = s
    · subst hst
      simp only [Act.put, St.get, St.set, look_cons, if_true, Array.getD_eq_getD_getElem?, Array.getElem?_setIfInBounds_self, hts, Option.getD_some]
      refine .osl _ _ E.w.heap.size _ (grownCap E.w (l + k) cap e) sz (by simp [β']) (grownCap_ge _ _ _ _) hsz _ _ _ hnew ?_ (grownCap_le_maxLen _ _ _ _ hm)
      have h1 := grownCap_ge E.w (l + k) cap e
      simp only [C, Array.size_append, List.size_toArray, size_zeroCells, hz, List.length_take]
      rw [Nat.min_eq_left (by omega), ← Nat.add_mul, ← Nat.add_mul]
      exact Nat.mul_le_mul_right _ (by omega)
    · have := Rd.mono hle hβ (hr.sl s)
      simpa [Act.put, St.get, St.set, St.setE, look_cons, hst, Array.getElem?_setIfInBounds_ne] using this
/-- 'clear' of a view: what is there behind it is not looked at. -/
theorem iop_clear_rsl {T e : TypeId} {x : Operand} {z : Value} {id sz off len cap bytes : Nat} {e' : TypeId} {ds ds' : List D} (ho : o.op = .call { callee := .builtin .clear, args := #[x], argTypes := #[T] }) (hd : o.dst = none)
    (hu : P.underlying T = some (.slice e)) (hi : TI P e (some z) sz bytes) (hz : z.cells.size = sz) (hz1 : z.cells.toList.all Value.oneCell' = true) (hx : SV S x (.rsl id sz off len cap)) (he : S.ent id = .blk e' ds) (hfit : off + len * sz ≤ ds.length)
    (hds : splice ds off (List.replicate (len * sz) .dead) = ds') : IOp P O N o S (S.setE id (.blk e' ds')) := by
  intro E β a hr next Q hn
  subst hds
  obtain ⟨b, p, c, e'', f, hv, hb, hlc, hsz, hp, hp', hcap, hcs, hcm⟩ := rd_rsl (hx.rd hr)
  have hent := hr.h.ent id
  rw [he] at hent
  obtain ⟨vs, sp, hown, hh, hX, hvs⟩ := blk_at hent hb
  obtain ⟨i, hi1, hi2, hi3, hi4⟩ := hi.at
  have hvl := hvs.length
  have hrun0 : ∀ r, (Builtin.clear_ #[T] o.type #[a.eval x]).run P E.w = r → (execOp a.eval o).run P E.w = r.andThen fun v w' => .ok (.value v) w' := fun r hr' => by
    simp [execOp, ho, resolve, invoke, builtin, hr']
  have key : ∀ us : List Value, us.length = len * sz → (Builtin.clear_ #[T] o.type #[a.eval x]).run P E.w = .ok (.tuple #[]) (E.w.setRow b ((vs ++ sp).take off ++ us ++ (vs ++ sp).drop (off + us.length)).toArray) → o.wp P a E.w next Q := by
    intro us hul hra
    unfold Oper.wp
    rw [hrun0 _ hra]
    have hus := rdl_dead E β us
    rw [hul] at hus
    obtain ⟨E', h1, h2, h3, h4⟩ := put_part hr he hb hown hh hX hvs hus (off := off) (by rw [List.length_replicate]; exact hfit)
    simp only [Result.andThen_ok, Oper.upon, hd, Act.put]
    rw [← h1]
    exact hn E' β _ h4
  by_cases h0 : len = 0
  · subst h0
    refine key [] (by simp) ?_
    have e1 : E.w.setRow b ((vs ++ sp).take off ++ [] ++ (vs ++ sp).drop (off + ([] : List Value).length)).toArray = E.w := by
      simp only [List.append_nil, List.length_nil, Nat.add_zero, List.take_append_drop]
      exact setRow_self _ _ _ _ _ hh
    rw [e1, hv]
    simp [Builtin.clear_, run_underlying hu]
  · have hpo := hp (by omega)
    have hl : (Builtin.zeroCells z.cells len).toList.length = len * sz := by rw [Array.length_toList, size_zeroCells, hz]
    refine key (Builtin.zeroCells z.cells len).toList hl ?_
    have hone : ∀ v ∈ (Builtin.zeroCells z.cells len).toList, v.oneCell' = true := by
      intro v hv
      rw [List.all_eq_true] at hz1
      simp only [Builtin.zeroCells, Array.toList_map, List.mem_map] at hv
      obtain ⟨j, _, rfl⟩ := hv
      have hlt : j % z.cells.size < z.cells.size := Nat.mod_lt _ (by rw [hz]; exact hsz)
      rw [getElem!_pos z.cells (j % z.cells.size) hlt]
      exact hz1 _ (by simp)
    have hst := run_storeCells_at P b p e' (Builtin.zeroCells z.cells len).toList 0 (vs ++ sp).toArray E.w hh (by rw [hl]; simp; omega) hone
    simp only [Nat.add_zero] at hst
    rw [hv]
    subst hpo
    cases len with
    | zero => exact absurd rfl h0
    | succ len => simp [Builtin.clear_, run_underlying hu, zeroValue, typeInfo, hi1, hi2, hst]
/-- A list that may be looked at, and one that is owned, lie apart. -/
theorem iop_externR {f : FuncId} {g : Array Value → Sem Value} {xs : List Operand} {ts : Array TypeId} {d : D} (ho : o.op = .call { callee := .value (.func f), args := xs.toArray, argTypes := ts }) (hd : o.dst = some t) (ht : t < N)
    (hc : ExternAt P f g) (hg : ∀ (E : Env) β a, Rel O N S E β a → ∃ v, (g (xs.map a.eval).toArray).run P E.w = .ok v E.w ∧ Rd E β v d) : IOp P O N o S (S.set t d) :=
  iop_of hd ht fun E β a hr => by
    obtain ⟨fn, h1, h2, h3, h4, h5⟩ := hc
    obtain ⟨v, hv, hrd⟩ := hg E β a hr
    exact ⟨v, by simp [execOp, ho, resolve, Deferred.ofValue, Act.eval, invoke, run_callFunc_extern h1 h2 h3 h4 h5, hv, Result.andThen], hrd⟩
theorem iop_overlaps {f : FuncId} {T tr e : TypeId} {x y : Operand} {ts : Array TypeId} {l : List D} {full : Bool} {id sz off len cap : Nat} {e' : TypeId} {ds : List D} {z : Option Value} {bytes : Nat} (ho : o.op = .call { callee := .value (.func f), args := #[x, y], argTypes := ts }) (hd : o.dst = some t) (ht : t < N)
    (hc : ExternAt P f (Extern.SlicesOverlaps.overlaps #[T, T] #[tr])) (hu : P.underlying T = some (.slice e)) (hi : TI P e z sz bytes) (hx : SV S x (.slice full l)) (hne : l ≠ []) (hy : SV S y (.rsl id sz off len cap)) (he : S.ent id = .blk e' ds) (hlen : ds ≠ []) : IOp P O N o S (S.set t (.bool false)) := by
  refine iop_externR (xs := [x, y]) ho hd ht hc fun E β a hr => ?_
  obtain ⟨b, p, c, e'', f', hv, hb, hlc, hsz, hp, hp', hcap, hcs, hcm⟩ := rd_rsl (hy.rd hr)
  have hent := hr.h.ent id
  rw [he] at hent
  obtain ⟨vs, sp, hown, hh, hX, hvs⟩ := blk_at hent hb
  refine ⟨.bool false, ?_, .bool _ _⟩
  show (Extern.SlicesOverlaps.overlaps #[T, T] #[tr] #[a.eval x, a.eval y]).run P E.w = .ok (.bool false) E.w
  · skip
    rcases rd_slice (hx.rd hr) with ⟨hev, rfl⟩ | ⟨yb, yoff, ycap, ysz, us, hev, hyc, _, hyz, hysp, hyrow, hus⟩ | ⟨ad, ycap, hev, rfl⟩
    · exact absurd rfl hne
    rotate_left
    · exact absurd rfl hne
    · -- a cell of the list
      have hpos : 0 < us.length := by
        rw [hus.length]
        obtain ⟨d, r, rfl⟩ := List.exists_cons_of_ne_nil hne
        have := hyz d (by simp)
        simp [D.flat, this]; omega
      have hcell := hyrow 0 us[0] (List.getElem?_eq_getElem hpos)
      rw [Nat.add_zero] at hcell
      have hbne : yb ≠ b := by rintro rfl; exact hcell.2 (hX _)
      have hybk : ∃ cs te fe, E.w.heap[yb]? = some (.cells cs te fe) ∧ 0 < cs.size := by
        have h6 := hcell.1
        unfold World.cell? at h6
        simp only at h6
        split at h6
        · rename_i cs te fe hhb
          refine ⟨cs, te, fe, hhb, ?_⟩
          have h7 : cs[yoff]? = some us[0] := by simpa using h6
          have := (Array.getElem?_eq_some_iff.1 h7).1
          omega
        · cases h6
      obtain ⟨cs, te, fe, hyh, hys⟩ := hybk
      rw [hev, hv]
      have g1 : (yb != b) = true := by simpa using hbne
      have g2 : (yb == b) = false := by simpa using hbne
      have f1 : E.w.frozen? ⟨b, p, none⟩ = false := by simp [World.frozen?, hh]
      have f2 : E.w.frozen? ⟨b, (vs ++ sp).length, none⟩ = false := by simp [World.frozen?, hh]
      have s1 : E.w.shape? b = some (e', (vs ++ sp).length) := by simp [World.shape?, hh]
      have s2 : E.w.shape? yb = some (te, cs.size) := by simp [World.shape?, hyh]
      change Sem.run P (α := Value) (do
        let some t := (#[T, T] : Array TypeId)[0]? | stuck "slices.overlaps: no parameter types"
        let .slice elem ← underlying t | stuck "slices.overlaps: slice type expected"
        let size ← sizeOf elem
        match (some (⟨yb, yoff, none⟩ : Addr) : Option Addr), (some (⟨b, p, none⟩ : Addr) : Option Addr) with
        | some a, some b =>
          if l.length = 0 ∨ len = 0 ∨ size = 0 then pure (Value.bool false)
          else if a.block != b.block && (← frozen a) && (← frozen b) then unsupported .addressObserved
          else do
            if a.block != b.block then do
              noView a; noView b
              if ← mayBeOne a b then return Value.bool ((← choose (.extern "sameAddr.stringBytes" 2)) == 1)
            pure (Value.bool (a.block == b.block && a.off < b.off + len * size && b.off < a.off + l.length * size))
        | _, _ => pure (Value.bool false)) E.w = _
      by_cases h0 : l.length = 0 ∨ len = 0 ∨ sz = 0
      · simp only [Sem.run_bind, List.getElem?_toArray, run_underlying hu, Result.andThen_ok, hi.run_size, List.getElem?_cons_zero]
        rw [if_pos h0]; rfl
      · obtain ⟨q, hq⟩ : ∃ q, cs.size = q + 1 := ⟨cs.size - 1, by omega⟩
        rw [hq] at s2
        obtain ⟨u, hu1⟩ : ∃ u, (vs ++ sp).length = u + 1 := ⟨(vs ++ sp).length - 1, by
          have := hvs.length
          have h8 : 0 < ds.length := List.length_pos_iff.2 hlen
          simp; omega⟩
        rw [hu1] at s1 f2
        cases hfz : E.w.frozen? ⟨yb, yoff, none⟩ <;> cases hfe : E.w.frozen? ⟨yb, q + 1, none⟩ <;>
        simp [run_underlying hu, hi.run_size, h0, g1, g2, frozen, noView, viewAt, mayBeOne, stringish, shape, Sem.run, s1, s2, f1, f2, hfz, hfe]
end
end Go.IL
