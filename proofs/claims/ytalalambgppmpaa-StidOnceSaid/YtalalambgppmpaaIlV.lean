/-
  A part of the proof: rules and plain facts. No condition.
-/
import Derived.Test.YtalalambgppmpaaIlW
set_option linter.all false
namespace Go.IL
section
variable {P : Program} {O : Origin} {N : Nat} {S S' : St} {o : Oper} {t : Nat} {Q : Exit → St → Prop}

/-- Where an entry that is held points, is no new block. -/
theorem HOk.held_lt {E : Env} {β : Names} {H : Nat → Ent} (h : HOk O E β H) {j b : Nat} (hh : (H j).held = true) (hb : β j = some b) : b < E.w.heap.size := by
  exact h.lt hh hb

/-- What is appended: so many elements, read here. -/
def Src (E : Env) (β : Names) (v : Value) (m : Nat) (es : List D) : Prop :=
  ((v = .slice none 0 0 ∨ ∃ ad cap, v = .slice (some ad) 0 cap) ∧ m = 0 ∧ es = []) ∨ ∃ b off cap us, v = .slice (some ⟨b, off, none⟩) m cap ∧ (∀ j u, us[j]? = some u → E.w.cell? ((⟨b, off, none⟩ : Addr).add j) = some u) ∧ RdL E β us es

theorem iop_append_ocore {T e : TypeId} {x y : Operand} {z : Value} {size bytes n m : Nat} {ds es : List D} {S1 : St} (id' : Nat)
    (ho : o.op = .call { callee := .builtin .append, args := #[x, y], argTypes := #[T, T] }) (hd : o.dst = some t) (ht : t < N)
    (hu : P.underlying T = some (.slice e)) (hi : TI P e (some z) size bytes) (hz : z.cells.size = size) (hsp : 0 < size)
    (hs1 : S1.sl = S.sl) (hs2 : ∀ j, S1.ent j = S.ent j ∨ S1.ent j = .none) (hfr : S.ent id' = .fresh)
    (hx : ∀ E β a, Rel O N S E β a → (a.eval x = .slice none 0 0 ∧ n = 0 ∧ ds = []) ∨ ∃ b cap c vs, a.eval x = .slice (some ⟨b, 0, none⟩) n cap ∧ n ≤ cap ∧ cap ≤ maxLen ∧ E.w.heap[b]? = some (.cells c e (0, 0)) ∧
      cap * size ≤ c.size ∧ c.toList.take vs.length = vs ∧ RdL E β vs ds ∧ O.own b ∧ (∀ o, E.X b o) ∧ ∀ j, (S1.ent j).held = true → β j ≠ some b)
    (hl : ds.length = n * size) (hy : ∀ E β a, Rel O N S E β a → Src E β (a.eval y) m es) (hes : es.length = m * size) (hone : es.all D.one = true)
    (hm : n + m ≤ maxLen) (hb : (n + m) * bytes ≤ 140737488355328) :
    IOp P O N o S ((S1.setE id' (.blk e (ds ++ es))).set t (.osl id' size (n + m))) := by
  intro E β a hr next Q hn
  obtain ⟨i, hi1, hi2, hi3, hi4⟩ := hi.at
  have hfre : β id' = none := by have := hr.h.ent id'; rw [hfr] at this; exact this
  have hrun : ∀ v, (Builtin.append_ #[T, T] o.type #[a.eval x, a.eval y]).run P E.w = v → (execOp a.eval o).run P E.w = v.andThen fun v w' => .ok (.value v) w' := fun v hv => by
    simp [execOp, ho, resolve, invoke, builtin, hv]
  have hts : t < a.tmps.size := hr.n ▸ ht
  let S2 : St := (S1.setE id' (.blk e (ds ++ es))).set t (.osl id' size (n + m))
  have slots : ∀ (E' : Env) (β' : Names) (v : Value), E.le E' → β.le β' → Rd E' β' v (.osl id' size (n + m)) → ∀ s, Rd E' β' ((a.put (some t) v).tmps.getD s undef) (S2.get s) := by
    intro E' β' v hle hβ hv s
    by_cases hst : t = s
    · subst hst
      simpa [S2, Act.put, St.get, St.set, look_cons, hts] using hv
    · have := Rd.mono hle hβ (hr.sl s)
      simpa [S2, Act.put, St.get, St.set, St.setE, look_cons, hst, Array.getElem?_setIfInBounds_ne, hs1] using this
  let β' : Nat → Names := fun b j => if j = id' then some b else β j
  have hβ : ∀ b, β.le (β' b) := fun b j k hj => by
    by_cases hji : j = id'
    · subst hji; rw [hfre] at hj; cases hj
    · simp [β', hji, hj]
  have hsame : ∀ j, j ≠ id' → S2.ent j = S1.ent j := fun j hj => by simp [S2, St.ent, entL, St.setE, St.set, look_cons, Ne.symm hj]
  have hother : ∀ b j, j ≠ id' → (S2.ent j = S.ent j ∧ β' b j = β j) ∨ S2.ent j = .none := by
    intro b j hj
    rw [hsame j hj]
    rcases hs2 j with h | h
    · exact .inl ⟨h, by simp [β', hj]⟩
    · exact .inr h
  have hheld : ∀ j, j ≠ id' → (S2.ent j).held = true → (S1.ent j).held = true := fun j hj h => by rw [← hsame j hj]; exact h
  have hheld0 : ∀ j, (S1.ent j).held = true → (S.ent j).held = true := fun j h => by
    rcases hs2 j with h1 | h1
    · rw [← h1]; exact h
    · rw [h1] at h; cases h
  have hentid : S2.ent id' = .blk e (ds ++ es) := by simp [S2, St.ent, entL, St.setE, St.set, look_cons]
  have fresh : ∀ (vs us : List Value) (cap : Nat), RdL E β vs ds → RdL E β us es → n + m ≤ cap → cap ≤ maxLen →
      (Builtin.append_ #[T, T] o.type #[a.eval x, a.eval y]).run P E.w = .ok (.slice (some ⟨E.w.heap.size, 0, none⟩) (n + m) cap) (E.w.drew.alloc (.cells (vs.toArray ++ us.toArray ++ Builtin.zeroCells z.cells (cap - (n + m))) e)) →
      o.wp P a E.w next Q := by
    intro vs us cap hvs hus hcap hcm hra
    unfold Oper.wp
    rw [hrun _ hra]
    simp only [Result.andThen_ok, Oper.upon, hd]
    let E' : Env := ⟨E.w.drew.alloc (.cells (vs.toArray ++ us.toArray ++ Builtin.zeroCells z.cells (cap - (n + m))) e), fun b o => b = E.w.heap.size ∨ E.X b o⟩
    have hs : Step O E E' E.w.heap.size :=
      ⟨rfl, rfl, rfl, by simp [E'], by simp [E'], .inl hr.h.size, fun k hk _ => heap_alloc_old E.w.drew _ hk, fun k o hk => by simp [E', hk], fun _ h => Nat.lt_irrefl _ (heap_lt h)⟩
    have hle : E.le E' := hs.le (fun o v h1 _ => by have := World.block_lt_of_cell? _ _ h1; simp at this) (fun c e f h1 => by have := heap_lt h1; simp at this)
    have hnew : E'.w.heap[E.w.heap.size]? = some (.cells (vs.toArray ++ us.toArray ++ Builtin.zeroCells z.cells (cap - (n + m))) e (0, 0)) := heap_alloc_new E.w.drew _
    have hvl := hvs.length
    have hul := hus.length
    have hvs' := (RdL.mono hle (hβ E.w.heap.size) hvs).append (RdL.mono hle (hβ E.w.heap.size) hus)
    refine hn E' (β' E.w.heap.size) _ ⟨by simp [Act.put, hr.n], hr.nd.step hs, ?_, slots E' _ _ hle (hβ _) ?_⟩
    · refine HOk.put hr.h hs hle (hβ _) (fun j hj => hother _ j hj) ?_ (id := id') (by simp [β']) ?_ (fun _ _ => trivial)
      · intro j hj hh hbj
        have := hr.h.held_lt (hheld0 j (hheld j hj hh)) hbj
        omega
      · rw [hentid]
        exact ⟨vs ++ us, (Builtin.zeroCells z.cells (cap - (n + m))).toList, by rw [hnew]; simp, fun o => .inl rfl, hvs'⟩
    · exact .osl _ _ E.w.heap.size _ cap size (by simp [β']) hcap hsp _ _ _ hnew
        (by simp only [Array.size_append, List.size_toArray, size_zeroCells, hz, hvl, hul, hl, hes]; rw [← Nat.add_mul, ← Nat.add_mul]; exact Nat.mul_le_mul_right _ (by omega)) hcm
  have nothing : m = 0 → es = [] → (a.eval y = .slice none 0 0 ∨ ∃ b c', a.eval y = .slice (some b) 0 c') → o.wp P a E.w next Q := by
    intro hm0 he0 hyv
    subst hm0 he0
    rcases hx E β a hr with ⟨hxv, rfl, rfl⟩ | ⟨b, cap, c, vs, hxv, hnc, hcm, hc, hcs, hvt, hvs, hown, hX, hap⟩
    · have hra := run_append_nothing (P := P) (w := E.w) (ty := o.type) hu hi none 0 0 (Nat.le_refl _) _ hyv
      unfold Oper.wp
      rw [← hxv] at hra
      rw [hrun _ hra]
      simp only [Result.andThen_ok, Oper.upon, hd]
      refine hn E β _ ⟨by simp [Act.put, hr.n], hr.nd, ?_, slots E β _ (Env.le.refl _) (Names.le.refl _) (by rw [hxv]; exact .nosl _ _ _)⟩
      refine { hr.h with ent := fun j => ?_, inj := fun j k b hj hk h1 h2 => ?_ }
      · show EntAt O E β j (S2.ent j)
        by_cases hj : j = id'
        · subst hj; rw [hentid]; exact .inl ⟨hfre, rfl⟩
        · rcases hother 0 j hj with ⟨h, _⟩ | h
          · rw [h]; exact hr.h.ent j
          · rw [h]; trivial
      · have hnj : ∀ j b, (S2.ent j).held = true → β j = some b → (S.ent j).held = true := by
          intro j b hh hb
          have hj : j ≠ id' := by rintro rfl; rw [hfre] at hb; cases hb
          exact hheld0 j (hheld j hj hh)
        exact hr.h.inj j k b (hnj j b hj h1) (hnj k b hk h2) h1 h2
    · have hra := run_append_nothing (P := P) (w := E.w) (ty := o.type) hu hi (some ⟨b, 0, none⟩) n cap hnc _ hyv
      unfold Oper.wp
      rw [← hxv] at hra
      rw [hrun _ hra]
      simp only [Result.andThen_ok, Oper.upon, hd]
      have hs : Step O E E b := ⟨rfl, rfl, rfl, Nat.le_refl _, heap_lt hc, hown, fun _ _ _ => rfl, fun _ _ _ => Iff.rfl, fun _ h => by first | (rw [hc] at h; cases h) | (rw [hh] at h; cases h)⟩
      refine hn E (β' b) _ ⟨by simp [Act.put, hr.n], hr.nd, ?_, slots E _ _ (Env.le.refl _) (hβ _) ?_⟩
      · refine HOk.put hr.h hs (Env.le.refl _) (hβ _) (fun j hj => hother _ j hj) (fun j hj hh => hap j (hheld j hj hh)) (id := id') (by simp [β']) ?_ (fun _ _ => trivial)
        rw [hentid]
        refine ⟨vs, c.toList.drop vs.length, ?_, hX, by rw [List.append_nil]; exact RdL.mono (Env.le.refl _) (hβ _) hvs⟩
        rw [hc]; congr 2
        apply Array.ext'; simp only [List.toList_toArray]
        conv => lhs; rw [← List.take_append_drop vs.length c.toList]
        rw [hvt]
      · rw [hxv]
        exact .osl _ _ b _ cap size (by simp [β']) hnc hsp _ _ _ hc hcs hcm
  rcases hy E β a hr with ⟨hyv, hm0, he0⟩ | ⟨yb, yoff, ycap, us, hyv, hyr, hus⟩
  · exact nothing hm0 he0 hyv
  · by_cases hemp : m = 0
    · exact nothing hemp (List.length_eq_zero_iff.1 (by rw [hes, hemp, Nat.zero_mul])) (.inr ⟨_, _, by subst hemp; exact hyv⟩)
    · have hne : 0 < m := by omega
      have hul : us.length = m * i.size := by rw [hus.length, hes, hi3]
      rcases hx E β a hr with ⟨hxv, rfl, rfl⟩ | ⟨b, cap, c, vs, hxv, hnc, hcm, hc, hcs, hvt, hvs, hown, hX, hap⟩
      · have hra := run_append_nil (P := P) E.w T o.type e i z hu hi1 hi2 ⟨yb, yoff, none⟩ m ycap us hul hyr hne (by simp [maxLen] at hm; omega) (by rw [hi4]; simp at hb; omega)
        refine fresh [] us (grownCap E.w m 0 e) (.nil _) hus (by simpa using grownCap_ge _ _ _ _) (grownCap_le_maxLen _ _ _ _ (by simpa using hm)) ?_
        rw [hxv, hyv]
        simpa using hra
      · have hvl : vs.length = n * i.size := by rw [hvs.length, hl, hi3]
        by_cases hroom : n + m ≤ cap
        · have hvt' : c.toList.take (n * i.size) = vs := by rw [← hvl]; exact hvt
          have hfit : n * i.size + us.length ≤ c.size := by rw [hul, hi3, ← Nat.add_mul]; exact Nat.le_trans (Nat.mul_le_mul_right _ hroom) hcs
          have hra := run_append_room (P := P) E.w T o.type e i hu hi1 b n cap c hc ⟨yb, yoff, none⟩ m ycap us hul hyr (rdl_one hus hone) hroom hfit
          rw [hvt'] at hra
          unfold Oper.wp
          rw [← hxv, ← hyv] at hra
          rw [hrun _ hra]
          simp only [Result.andThen_ok, Oper.upon, hd]
          let E' : Env := ⟨E.w.setRow b (vs ++ us ++ c.toList.drop (n * i.size + us.length)).toArray, E.X⟩
          have hs : Step O E E' b := ⟨rfl, rfl, rfl, by simp [E'], by simpa [E'] using heap_lt hc, hown, fun k _ hk => setRow_other _ _ _ _ hk, fun k o hk => Iff.rfl, fun _ h => by first | (rw [hc] at h; cases h) | (rw [hh] at h; cases h)⟩
          have hnew : E'.w.heap[b]? = some (.cells (vs ++ us ++ c.toList.drop (n * i.size + us.length)).toArray e (0, 0)) := setRow_heap _ _ _ _ _ _ hc
          have hsz : (vs ++ us ++ c.toList.drop (n * i.size + us.length)).toArray.size = c.size := by
            simp [hvl]; omega
          have hle : E.le E' := hs.le (fun o v _ h2 => absurd (hX o) h2) (fun c' e' f' h1 => by rw [hc] at h1; cases h1; exact ⟨_, _, hnew, hsz⟩)
          have hvs' := (RdL.mono hle (hβ b) hvs).append (RdL.mono hle (hβ b) hus)
          refine hn E' (β' b) _ ⟨by simp [Act.put, hr.n], hr.nd.step hs, ?_, slots E' _ _ hle (hβ _) ?_⟩
          · refine HOk.put hr.h hs hle (hβ _) (fun j hj => hother _ j hj) (fun j hj hh => hap j (hheld j hj hh)) (id := id') (by simp [β']) ?_ (fun _ _ => trivial)
            rw [hentid]
            exact ⟨vs ++ us, _, hnew, hX, hvs'⟩
          · exact .osl _ _ b _ cap size (by simp [β']) hroom hsp _ _ _ hnew (by rw [hsz]; exact hcs) hcm
        · have hxr : ∀ j u, vs[j]? = some u → E.w.cell? ((⟨b, 0, none⟩ : Addr).add j) = some u := fun j u hj => by
            rw [add_none, Nat.zero_add, cell_of_row _ _ _ _ _ _ hc, ← Array.getElem?_toList]
            have hlt := (List.getElem?_eq_some_iff.1 hj).1
            have h1 : (c.toList.take vs.length)[j]? = some u := by rw [hvt]; exact hj
            rwa [List.getElem?_take, if_pos hlt] at h1
          have hra := run_append_grow (P := P) E.w T o.type e i z hu hi1 hi2 ⟨b, 0, none⟩ n cap vs hvl hxr ⟨yb, yoff, none⟩ m ycap us hul hyr (by omega) (by simp [maxLen] at hm; omega) (growslice_fits (by omega) (by rw [hi4]; exact hb))
          refine fresh vs us (grownCap E.w (n + m) cap e) hvs hus (grownCap_ge _ _ _ _) (grownCap_le_maxLen _ _ _ _ hm) ?_
          rw [hxv, hyv]
          exact hra

theorem src_slice {y : Operand} {f : Bool} {ys : List D} (hy : SV S y (.slice f ys)) : ∀ E β a, Rel O N S E β a → Src E β (a.eval y) ys.length (D.flat ys) := by
  intro E β a hr
  rcases rd_slice (hy.rd hr) with ⟨hyv, rfl⟩ | ⟨yb, yoff, ycap, ysz, us, hyv, hyc, _, hyz, hysp, hyrow, hus⟩ | ⟨ad, ycap, hyv, rfl⟩
  · exact .inl ⟨.inl hyv, rfl, rfl⟩
  rotate_left
  · exact .inl ⟨.inr ⟨_, _, hyv⟩, rfl, rfl⟩
  · exact .inr ⟨yb, yoff, ycap, us, hyv, fun j u hj => by rw [add_none]; exact (hyrow j u hj).1, RdL.mono (Env.le.refl _) (fun _ _ h => by cases h) hus⟩
theorem src_osl {y : Operand} {id sz m : Nat} {e : TypeId} {es : List D} (hy : S.op y = .osl id sz m) (he : S.ent id = .blk e es) (hm : es.length = m * sz) (hsz : 0 < sz) : ∀ E β a, Rel O N S E β a → Src E β (a.eval y) m es := by
  intro E β a hr
  have hv := hr.op y
  rw [hy] at hv
  have hent := hr.h.ent id
  rw [he] at hent
  generalize a.eval y = v at hv
  cases hv with
  | nosl => exact .inl ⟨.inl rfl, rfl, List.length_eq_zero_iff.1 (by rw [hm, Nat.zero_mul])⟩
  | osl _ _ b _ cap _ hb hc _ c e' f h1 h2 h3 =>
    obtain ⟨vs, sp, _, hh, _, hl⟩ := blk_at hent hb
    exact .inr ⟨b, 0, cap, vs, rfl, fun j u hj => by
      rw [add_none, Nat.zero_add, cell_of_row _ _ _ _ _ _ hh]
      have hlt := (List.getElem?_eq_some_iff.1 hj).1
      simpa [List.getElem?_append_left hlt] using hj, hl⟩

/-- 'append' to what is owned. -/
theorem iop_append_o {T e : TypeId} {x y : Operand} {z : Value} {size bytes n m k : Nat} {ds es ds' : List D} {id : Nat} (id' : Nat)
    (ho : o.op = .call { callee := .builtin .append, args := #[x, y], argTypes := #[T, T] }) (hd : o.dst = some t) (ht : t < N)
    (hu : P.underlying T = some (.slice e)) (hi : TI P e (some z) size bytes) (hz : z.cells.size = size) (hsp : 0 < size)
    (hx : S.op x = .osl id size n) (he : S.ent id = .blk e ds) (hfr : S.ent id' = .fresh) (hl : ds.length = n * size)
    (hy : ∀ E β a, Rel O N S E β a → Src E β (a.eval y) m es) (hes : es.length = m * size) (hone : es.all D.one = true)
    (hm : n + m ≤ maxLen) (hb : (n + m) * bytes ≤ 140737488355328) (hds : ds ++ es = ds') (hk : n + m = k) :
    IOp P O N o S (((S.setE id .none).setE id' (.blk e ds')).set t (.osl id' size k)) := by
  subst hds hk
  refine iop_append_ocore (S1 := S.setE id .none) id' ho hd ht hu hi hz hsp rfl ?_ hfr ?_ hl hy hes hone hm hb
  · intro j
    by_cases hj : id = j
    · subst hj; right; simp [St.ent, entL, St.setE, look_cons]
    · left; simp [St.ent, entL, St.setE, look_cons, hj]
  · intro E β a hr
    have hv := hr.op x
    rw [hx] at hv
    have hent := hr.h.ent id
    rw [he] at hent
    generalize hev : a.eval x = v at hv
    cases hv with
    | nosl => exact .inl ⟨rfl, rfl, List.length_eq_zero_iff.1 (by rw [hl, Nat.zero_mul])⟩
    | osl _ _ b _ cap _ hβ hc _ c e' f' h1 h2 h3 =>
      right
      obtain ⟨vs, sp, hown, hh, hX, hvs⟩ := blk_at hent hβ
      rw [hh] at h1; cases h1
      refine ⟨b, cap, _, vs, rfl, hc, h3, hh, h2, by simp, hvs, hown, hX, ?_⟩
      intro j hj hb
      by_cases hji : id = j
      · subst hji; simp [St.ent, entL, St.setE, look_cons, Ent.held] at hj
      · have hj' : (S.ent j).held = true := by simpa [St.ent, entL, St.setE, look_cons, hji] using hj
        exact hji (hr.h.inj id j b (by rw [he]; rfl) hj' hβ hb)

theorem iop_append_nilo {T e : TypeId} {x y : Operand} {z : Value} {size bytes m : Nat} {es : List D} (id' : Nat)
    (ho : o.op = .call { callee := .builtin .append, args := #[x, y], argTypes := #[T, T] }) (hd : o.dst = some t) (ht : t < N)
    (hu : P.underlying T = some (.slice e)) (hi : TI P e (some z) size bytes) (hz : z.cells.size = size) (hsp : 0 < size)
    (hx : S.op x = .nils) (hfr : S.ent id' = .fresh)
    (hy : ∀ E β a, Rel O N S E β a → Src E β (a.eval y) m es) (hes : es.length = m * size) (hone : es.all D.one = true)
    (hm : m ≤ maxLen) (hb : m * bytes ≤ 140737488355328) :
    IOp P O N o S ((S.setE id' (.blk e es)).set t (.osl id' size m)) := by
  have := iop_append_ocore (P := P) (O := O) (N := N) (n := 0) (ds := []) (S1 := S) id' ho hd ht hu hi hz hsp rfl (fun j => .inl rfl) hfr ?_ (by simp) hy hes hone (by simpa using hm) (by simpa using hb)
  · simpa using this
  · intro E β a hr
    have hv := hr.op x
    rw [hx] at hv
    generalize hev : a.eval x = v at hv
    cases hv
    exact .inl ⟨rfl, rfl, rfl⟩

theorem iop_index_osl {T e : TypeId} {x y : Operand} {len sz : Nat} {k : IntKind} {n : Int} {z : Option Value} {bytes : Nat} {id off' : Nat} (ho : o.op = .indexAddr T x y) (hd : o.dst = some t) (ht : t < N)
    (hu : P.underlying T = some (.slice e)) (hi : TI P e z sz bytes) (hx : SV S x (.osl id sz len)) (hy : SV S y (.int k n)) (h0 : 0 ≤ n) (hn : n.toNat < len) (ho' : n.toNat * sz = off') :
    IOp P O N o S (S.set t (.ref id off')) :=
  iop_of hd ht fun E β a hr => by
    have hv := hx.rd hr
    generalize hev : a.eval x = v at hv
    cases hv with
    | nosl => omega
    | osl _ _ b _ cap _ hb hc =>
      refine ⟨.pointer (some ⟨b, off', none⟩), ?_, .ref _ _ _ _ hb⟩
      have h1 := rd_int (hy.rd hr)
      have h2 : n < (len : Int) := by omega
      subst ho'
      simp [execOp, ho, hev, h1, Instr.indexAt, asIntOf, run_underlying hu, h0, h2, hi.run_size, add_none]

theorem iop_len_osl {T e : TypeId} {x : Operand} {id sz len : Nat} {n : Int} (ho : o.op = .call { callee := .builtin .len, args := #[x], argTypes := #[T] }) (hd : o.dst = some t) (ht : t < N) (hu : P.underlying T = some (.slice e))
    (hx : SV S x (.osl id sz len)) (hn : (len : Int) = n) : IOp P O N o S (S.set t (.int .i64 n)) :=
  iop_of hd ht fun E β a hr => ⟨.int .i64 n, by
    subst hn
    have hv := hx.rd hr
    generalize hev : a.eval x = v at hv
    cases hv <;> simp [execOp, ho, resolve, invoke, builtin, Builtin.len_, run_underlying hu, hev, goInt], .int _ _ _⟩

theorem svno {x : Operand} {id sz : Nat} (h : S.op x = .nils) : SV S x (.osl id sz 0) := fun E β v k => by
  rw [h] at k; cases k; exact .nosl _ _ _

/-- A new block, as an owned slice. -/
theorem iop_newosl {e : TypeId} {sz n : Nat} {ds : List D} (id : Nat) (hd : o.dst = some t) (ht : t < N) (hf : S.ent id = .fresh) (hlen : ds.length = n * sz) (hsp : 0 < sz) (hmax : n ≤ maxLen)
    (h : ∀ E β a, Rel O N S E β a → ∃ vs : List Value, (execOp a.eval o).run P E.w = .ok (.value (.slice (some ⟨E.w.heap.size, 0, none⟩) n n)) (E.w.alloc (.cells vs.toArray e)) ∧ RdL E β vs ds) :
    IOp P O N o S ((S.setE id (.blk e ds)).set t (.osl id sz n)) := by
  intro E β a hr next Q hn
  obtain ⟨vs, hrun, hv⟩ := h E β a hr
  unfold Oper.wp
  rw [hrun]
  simp only [Oper.upon, hd]
  have hfr : β id = none := by have := hr.h.ent id; rw [hf] at this; exact this
  let E' : Env := ⟨E.w.alloc (.cells vs.toArray e), fun b o => b = E.w.heap.size ∨ E.X b o⟩
  let β' : Names := fun j => if j = id then some E.w.heap.size else β j
  have hβ : β.le β' := fun j b hj => by
    by_cases hji : j = id
    · subst hji; rw [hfr] at hj; cases hj
    · simp [β', hji, hj]
  have hs : Step O E E' E.w.heap.size :=
    ⟨rfl, rfl, rfl, by simp [E'], by simp [E'], .inl hr.h.size, fun k hk _ => heap_alloc_old _ _ hk, fun k o hk => by simp [E', hk], fun _ h => Nat.lt_irrefl _ (heap_lt h)⟩
  have hle : E.le E' := hs.le (fun o v h1 _ => by have := World.block_lt_of_cell? _ _ h1; simp at this) (fun c e f h1 => by have := heap_lt h1; simp at this)
  refine hn E' β' _ ⟨by simp [Act.put, hr.n], hr.nd.step hs, ?_, ?_⟩
  · refine HOk.put hr.h hs hle hβ ?_ ?_ (id := id) (by simp [β']) ?_ (fun _ _ => trivial)
    · intro j hj; left; constructor
      · simp [St.ent, entL, St.setE, St.set, look_cons, Ne.symm hj]
      · simp [β', hj]
    · intro j hj hheld hb
      have : (S.ent j).held = true := by simpa [St.ent, entL, St.setE, St.set, look_cons, Ne.symm hj] using hheld
      have := hr.h.held_lt this hb
      omega
    · simp only [St.ent, entL, St.setE, St.set, look_cons, if_true]
      exact ⟨vs, [], by rw [List.append_nil]; exact heap_alloc_new _ _, fun o => .inl rfl, RdL.mono hle hβ hv⟩
  · intro s
    have hts : t < a.tmps.size := hr.n ▸ ht
    by_cases hst : t = s
    · subst hst
      simp only [Act.put, St.get, St.set, look_cons, if_true, Array.getD_eq_getD_getElem?, Array.getElem?_setIfInBounds_self, hts, Option.getD_some]
      exact .osl _ _ E.w.heap.size _ n sz (by simp [β']) (Nat.le_refl _) hsp _ _ _ (heap_alloc_new E.w _) (by simp [hv.length, hlen]) hmax
    · have := Rd.mono hle hβ (hr.sl s)
      simpa [Act.put, St.get, St.set, St.setE, look_cons, hst, Array.getElem?_setIfInBounds_ne] using this

theorem iop_buildSlice_o {T e : TypeId} {len esz eb : Nat} {ez : Value} {ps : List (Nat × Operand)} {dps : List (Nat × D)} {ds : List D} (id : Nat) (ho : o.op = .buildSlice T len ps.toArray) (hd : o.dst = some t) (ht : t < N)
    (hu : P.underlying T = some (.slice e)) (he : TI P e (some ez) esz eb) (hsp : 0 < esz) (hf : S.ent id = .fresh) (hx : PVs S ps dps)
    (hfill : fillD (fun i => some (i * esz, esz)) (List.replicate (len * esz) .dead) dps = some ds) (hl : ds.length = len * esz) (hb : len * esz ≤ 2 ^ 24) :
    IOp P O N o S ((S.setE id (.blk e ds)).set t (.osl id esz len)) := by
  refine iop_newosl id hd ht hf hl hsp (by have : len ≤ len * esz := Nat.le_mul_of_pos_right _ hsp; simp only [maxLen]; omega) fun E β a hr => ?_
  obtain ⟨i, h1, h2, h3, _⟩ := he.at
  let init : Array Value := (Array.range (len * esz)).map fun k => (if len * esz = 0 then #[] else ez.cells)[k % (if len * esz = 0 then #[] else ez.cells).size]!
  have hinit : RdL E β init.toList (List.replicate (len * esz) .dead) := by
    have := rdl_dead E β init.toList
    rwa [show init.toList.length = len * esz by simp [init]] at this
  obtain ⟨cells, h4, h5⟩ := fill_rd hr hx hinit hfill
  have hcl : cells.size = len * esz := by have := h5.length; rw [hl] at this; simpa using this
  refine ⟨cells.toList, ?_, h5⟩
  have hb' : ¬ (2 ^ 24 < len * esz) := by omega
  simp only [execOp, ho, Instr.buildSlice, Sem.run_bind, run_underlying hu, Result.andThen_ok, he.run_size]
  rw [if_neg (by simpa using hb')]
  by_cases h0 : len * esz = 0
  · have h4' := h4
    simp only [init, h0, if_true] at h4' ⊢
    simp at h4'
    simp [h4', newRow]
  · have h4' := h4
    simp only [init, h0, if_false] at h4' ⊢
    simp [zeroValue, typeInfo, h1, h2, h4', newRow]

/-- 'make([]T, n)', each element one cell, as an owned slice. -/
theorem iop_make_o {T e : TypeId} {x : Operand} {k : IntKind} {n : Int} {m : Nat} {z : Value} {bytes : Nat} {d : D} (id : Nat) (ho : o.op = .makeSlice T x x) (hd : o.dst = some t) (ht : t < N)
    (hu : P.underlying T = some (.slice e)) (hi : TI P e (some z) 1 bytes) (hz : z.cells = #[z]) (hf : S.ent id = .fresh) (hx : SV S x (.int k n)) (hn : n = m) (hb : bytes * m ≤ 281474976710656) (h63 : m ≤ maxLen) (hzd : D.ofVal z = d) :
    IOp P O N o S ((S.setE id (.blk e (List.replicate m d))).set t (.osl id 1 m)) := by
  subst hn hzd
  refine iop_newosl id hd ht hf (by simp) (by decide) h63 fun E β a hr => ⟨List.replicate m z, ?_, rdl_replicate (rd_ofVal _ _ z) m⟩
  obtain ⟨i, h1, h2, h3, h4⟩ := hi.at
  have hxv := rd_int (hx.rd hr)
  have := run_make (P := P) E.w T e i z hu h1 h2 k k (m : Int) (m : Int) (by omega) (by omega) (by rw [h4, ← Int.natCast_mul]; omega) (by simp only [maxLen] at h63; omega)
  simp only [Int.toNat_natCast, h3, Nat.mul_one] at this
  have hm : madeCells z.cells m = (List.replicate m z).toArray := by
    apply Array.ext
    · simp [madeCells]
    · intro j h1 h2
      simp only [madeCells, Array.getElem_map, hz, List.getElem_toArray, List.getElem_replicate]
      have : (Array.range m)[j]'(by simpa [madeCells] using h1) % (#[z] : Array Value).size = 0 := Nat.mod_one _
      rw [this]; rfl
  rw [hm] at this
  simp only [execOp, ho, hxv, Sem.run_bind, this, Result.andThen_ok, Sem.run_pure]

end
end Go.IL
