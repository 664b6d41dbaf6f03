/-
  A part of the proof: rules and plain facts. No condition.
-/
import Derived.Test.YtalalambgppmpaaIlF
set_option linter.all false
namespace Go.IL

/-- Elements of so many cells, each of one value. -/
def Flat (sz : Nat) (l : List D) : Prop := ∀ d ∈ l, d.cells.length = sz ∧ ∀ c ∈ d.cells, c.one = true
theorem Flat.len {sz : Nat} {l : List D} (h : Flat sz l) : ∀ d ∈ l, d.cells.length = sz := fun d hd => (h d hd).1
theorem Flat.all {sz : Nat} {l : List D} (h : Flat sz l) : (D.flat l).all D.one = true := by
  simp only [List.all_eq_true, D.flat, List.mem_flatMap]
  rintro c ⟨d, hd, hc⟩
  exact (h d hd).2 c hc
theorem Flat.nil (sz : Nat) : Flat sz [] := fun d hd => by cases hd
theorem Flat.cons {sz : Nat} {d : D} {l : List D} (h : d.cells.length = sz) (h1 : d.cells.all D.one = true) (k : Flat sz l) : Flat sz (d :: l) := fun x hx => by
  cases hx with
  | head => exact ⟨h, fun c hc => List.all_eq_true.1 h1 c hc⟩
  | tail _ hx => exact k x hx
theorem Flat.append {sz : Nat} {l m : List D} (h : Flat sz l) (k : Flat sz m) : Flat sz (l ++ m) := fun d hd => by
  rcases List.mem_append.1 hd with hd | hd
  · exact h d hd
  · exact k d hd
theorem Flat.map {α : Type} {sz : Nat} {f : α → D} (h : ∀ x, (f x).cells.length = sz ∧ (f x).cells.all D.one = true) (l : List α) : Flat sz (l.map f) := fun d hd => by
  obtain ⟨x, _, rfl⟩ := List.mem_map.1 hd
  exact ⟨(h x).1, fun c hc => List.all_eq_true.1 (h x).2 c hc⟩
theorem Flat.sub {sz : Nat} {l m : List D} (h : Flat sz l) (k : ∀ d ∈ m, d ∈ l) : Flat sz m := fun d hd => h d (k d hd)

theorem toNat_mul_le {n m sz : Nat} : n * sz ≤ (n + m) * sz := Nat.mul_le_mul_right _ (Nat.le_add_right _ _)

section
variable {P : Program} {O : Origin} {N : Nat} {S S' : St} {o : Oper} {t : Nat}

theorem run_append_nothing {w : World} {T ty e : TypeId} {z : Option Value} {size bytes : Nat} (hu : P.underlying T = some (.slice e)) (hi : TI P e z size bytes) (a : Option Addr) (n c : Nat) (hc : n ≤ c) (y : Value) (hy : y = .slice none 0 0 ∨ ∃ b c', y = .slice (some b) 0 c') :
    (Builtin.append_ #[T, T] ty #[.slice a n c, y]).run P w = .ok (.slice a n c) w := by
  obtain ⟨i, h1, _, hs, _⟩ := hi.at
  rcases hy with rfl | ⟨b, c', rfl⟩ <;> cases a <;>
    simp [Builtin.append_, run_underlying hu, sizeOf, typeInfo, h1, Builtin.lenOf, hc, Builtin.firstCells, loadCells, loadCellsFrom, storeCells]

theorem row_toList {w : World} {X : Nat → Nat → Prop} {b : Nat} {vs : List Value} {c : Array Value} {e : TypeId} {f : Nat × Nat} (h : (⟨w, X⟩ : Env).row b 0 vs) (hc : w.heap[b]? = some (.cells c e f)) : c.toList.take vs.length = vs := by
  apply List.ext_getElem?
  intro j
  rw [List.getElem?_take]
  by_cases hj : j < vs.length
  · have h1 := (h j vs[j] (by simp [hj])).1
    simp only [Nat.zero_add] at h1
    rw [cell_of_row w b j c e f hc] at h1
    simp only [hj, if_true, Array.getElem?_toList, h1, List.getElem?_eq_getElem hj]
  · simp [hj, List.getElem?_eq_none (Nat.le_of_not_lt hj)]

theorem iop_append_core {T e : TypeId} {x y : Operand} {z : Value} {size bytes : Nat} {l ys : List D} {f : Bool} {S1 : St} (id' : Nat)
    (ho : o.op = .call { callee := .builtin .append, args := #[x, y], argTypes := #[T, T] }) (hd : o.dst = some t) (ht : t < N)
    (hu : P.underlying T = some (.slice e)) (hi : TI P e (some z) size bytes) (hz : z.cells.size = size) (hsp : 0 < size)
    (hs1 : S1.sl = S.sl) (hs2 : ∀ j, S1.ent j = S.ent j ∨ S1.ent j = .none) (hfr : S.ent id' = .fresh)
    (hx : ∀ E β a, Rel O N S E β a → (a.eval x = .slice none 0 0 ∧ l = []) ∨ ∃ b cap c vs, a.eval x = .slice (some ⟨b, 0, none⟩) l.length cap ∧ l.length ≤ cap ∧ cap ≤ maxLen ∧ E.w.heap[b]? = some (.cells c e (0, 0)) ∧
      c.size = cap * size ∧ E.row b 0 vs ∧ RdL E β0 vs (D.flat l) ∧ O.own b ∧ (∀ o, l.length * size ≤ o → E.X b o) ∧ ∀ j, (S1.ent j).held = true → β j ≠ some b)
    (hl : ∀ d ∈ l, d.cells.length = size)
    (hy : SV S y (.slice f ys)) (hys : Flat size ys) (hm : l.length + ys.length ≤ maxLen) (hb : (l.length + ys.length) * bytes ≤ 140737488355328) :
    IOp P O N o S ((S1.setE id' (.tail e size (l.length + ys.length))).set t (.gsl id' size (l ++ ys))) := by
  intro E β a hr next Q hn
  obtain ⟨i, hi1, hi2, hi3, hi4⟩ := hi.at
  have hfre : β id' = none := by have := hr.h.ent id'; rw [hfr] at this; exact this
  have hrun : ∀ v, (Builtin.append_ #[T, T] o.type #[a.eval x, a.eval y]).run P E.w = v → (execOp a.eval o).run P E.w = v.andThen fun v w' => .ok (.value v) w' := fun v hv => by
    simp [execOp, ho, resolve, invoke, builtin, hv]
  have hts : t < a.tmps.size := hr.n ▸ ht
  have slots : ∀ (E' : Env) (β' : Names) (v : Value), E.le E' → β.le β' → Rd E' β' v (.gsl id' size (l ++ ys)) → ∀ s, Rd E' β' ((a.put (some t) v).tmps.getD s undef) (((S1.setE id' (.tail e size (l.length + ys.length))).set t (.gsl id' size (l ++ ys))).get s) := by
    intro E' β' v hle hβ hv s
    by_cases hst : t = s
    · subst hst
      simpa [Act.put, St.get, St.set, look_cons, hts] using hv
    · have := Rd.mono hle hβ (hr.sl s)
      simpa [Act.put, St.get, St.set, St.setE, look_cons, hst, Array.getElem?_setIfInBounds_ne, hs1] using this
  have hflat : ∀ d ∈ l ++ ys, d.cells.length = size := fun d hd => by
    rcases List.mem_append.1 hd with h | h
    · exact hl d h
    · exact (hys d h).1
  have hfl : D.flat (l ++ ys) = D.flat l ++ D.flat ys := by simp [D.flat]
  have hll : (D.flat l).length = l.length * size := flat_length hl
  have hly : (D.flat ys).length = ys.length * size := flat_length hys.len
  let β' : Nat → Names := fun b j => if j = id' then some b else β j
  have hβ : ∀ b, β.le (β' b) := fun b j k hj => by
    by_cases hji : j = id'
    · subst hji; rw [hfre] at hj; cases hj
    · simp [β', hji, hj]
  have hother : ∀ b j, j ≠ id' → ((((S1.setE id' (.tail e size (l.length + ys.length))).set t (.gsl id' size (l ++ ys))).ent j = S.ent j ∧ β' b j = β j) ∨ ((S1.setE id' (.tail e size (l.length + ys.length))).set t (.gsl id' size (l ++ ys))).ent j = .none) := by
    intro b j hj
    have h1 : ((S1.setE id' (.tail e size (l.length + ys.length))).set t (.gsl id' size (l ++ ys))).ent j = S1.ent j := by simp [St.ent, entL, St.setE, St.set, look_cons, Ne.symm hj]
    rw [h1]
    rcases hs2 j with h | h
    · exact .inl ⟨h, by simp [β', hj]⟩
    · exact .inr h
  have hheld : ∀ j, j ≠ id' → (((S1.setE id' (.tail e size (l.length + ys.length))).set t (.gsl id' size (l ++ ys))).ent j).held = true → (S1.ent j).held = true := by
    intro j hj h
    simpa [St.ent, entL, St.setE, St.set, look_cons, Ne.symm hj] using h
  have hentid : ((S1.setE id' (.tail e size (l.length + ys.length))).set t (.gsl id' size (l ++ ys))).ent id' = .tail e size (l.length + ys.length) := by simp [St.ent, entL, St.setE, St.set, look_cons]
  -- a new block
  have fresh : ∀ (vs us : List Value) (cap : Nat), RdL E β0 vs (D.flat l) → RdL E β0 us (D.flat ys) → l.length + ys.length ≤ cap → cap ≤ maxLen →
      (Builtin.append_ #[T, T] o.type #[a.eval x, a.eval y]).run P E.w = .ok (.slice (some ⟨E.w.heap.size, 0, none⟩) (l.length + ys.length) cap) (E.w.drew.alloc (.cells (vs.toArray ++ us.toArray ++ Builtin.zeroCells z.cells (cap - (l.length + ys.length))) e)) →
      o.wp P a E.w next Q := by
    intro vs us cap hvs hus hcap hcm hra
    unfold Oper.wp
    rw [hrun _ hra]
    simp only [Result.andThen_ok, Oper.upon, hd]
    let E' : Env := ⟨E.w.drew.alloc (.cells (vs.toArray ++ us.toArray ++ Builtin.zeroCells z.cells (cap - (l.length + ys.length))) e), fun b o => (b = E.w.heap.size ∧ (l.length + ys.length) * size ≤ o) ∨ E.X b o⟩
    have hs : Step O E E' E.w.heap.size :=
      ⟨rfl, rfl, rfl, by simp [E'], by simp [E'], .inl hr.h.size, fun k hk _ => heap_alloc_old E.w.drew _ hk, fun k o hk => by simp [E', hk], fun _ h => Nat.lt_irrefl _ (heap_lt h)⟩
    have hle : E.le E' := hs.le (fun o v h1 _ => by have := World.block_lt_of_cell? _ _ h1; simp at this) (fun c e f h1 => by have := heap_lt h1; simp at this)
    have hnew : E'.w.heap[E.w.heap.size]? = some (.cells (vs.toArray ++ us.toArray ++ Builtin.zeroCells z.cells (cap - (l.length + ys.length))) e (0, 0)) := heap_alloc_new E.w.drew _
    have hvl := hvs.length
    have hul := hus.length
    have hrow : E'.row E.w.heap.size 0 (vs ++ us) := fun k v hk => by
      have hlt : k < vs.length + us.length := by have := (List.getElem?_eq_some_iff.1 hk).1; simpa using this
      refine ⟨?_, ?_⟩
      · rw [Nat.zero_add, cell_of_row _ _ _ _ _ _ hnew]
        simp only [← Array.getElem?_toList, Array.toList_append]
        rw [List.getElem?_append_left (by simpa using hlt)]
        simpa using hk
      · rintro (⟨_, h⟩ | h)
        · rw [Nat.add_mul] at h; omega
        · have := hr.h.xlt _ _ h; omega
    have hvs' := (RdL.mono hle (Names.le.refl _) hvs).append (RdL.mono hle (Names.le.refl _) hus)
    rw [← hfl] at hvs'
    refine hn E' (β' E.w.heap.size) _ ⟨by simp [Act.put, hr.n], hr.nd.step hs, ?_, slots E' _ _ hle (hβ _) ?_⟩
    · refine HOk.put hr.h hs hle (hβ _) (fun j hj => hother _ j hj) ?_ (id := id') (by simp [β']) ?_ (fun _ _ => trivial)
      · intro j hj hh hbj
        have hh' := hheld j hj hh
        rcases hs2 j with h | h
        · rw [h] at hh'; exact Nat.lt_irrefl _ (hr.h.lt hh' hbj)
        · rw [h] at hh'; cases hh'
      · rw [hentid]
        exact ⟨_, hnew, fun o ho => .inl ⟨rfl, ho⟩⟩
    · exact .gsl _ _ E.w.heap.size _ cap size (vs ++ us) _ (by simp [β']) (by simp) hcap hflat hsp hrow hvs' _ _ _ hnew
        (by simp only [Array.size_append, List.size_toArray, size_zeroCells, hz, hvl, hul, hll, hly]; rw [← Nat.add_mul, ← Nat.add_mul]; congr 1; omega) hcm
  -- nothing is appended
  have nothing : ys = [] → (a.eval y = .slice none 0 0 ∨ ∃ b c', a.eval y = .slice (some b) 0 c') → o.wp P a E.w next Q := by
    intro hys0 hyv
    subst hys0
    rcases hx E β a hr with ⟨hxv, rfl⟩ | ⟨b, cap, c, vs, hxv, hnc, hcm, hc, hcs, hrow, hvs, hown, hX, hap⟩
    · have hra := run_append_nothing (P := P) (w := E.w) (ty := o.type) hu hi none 0 0 (Nat.le_refl _) _ hyv
      unfold Oper.wp
      rw [← hxv] at hra
      rw [hrun _ hra]
      simp only [Result.andThen_ok, Oper.upon, hd]
      refine hn E β _ ⟨by simp [Act.put, hr.n], hr.nd, ?_, slots E β _ (Env.le.refl _) (Names.le.refl _) (by rw [hxv]; exact .ngsl _ _ _)⟩
      refine { hr.h with ent := fun j => ?_, inj := fun j k b hj hk h1 h2 => ?_ }
      · by_cases hj : j = id'
        · subst hj; rw [hentid]; exact .inl ⟨hfre, rfl⟩
        · rcases hother 0 j hj with ⟨h, _⟩ | h
          · rw [h]; exact hr.h.ent j
          · rw [h]; trivial
      · have hnj : ∀ j b, (((S1.setE id' (.tail e size (([] : List D).length + ([] : List D).length))).set t (.gsl id' size ([] ++ []))).ent j).held = true → β j = some b → j ≠ id' ∧ (S.ent j).held = true := by
          intro j b hh hb
          have hj : j ≠ id' := by rintro rfl; rw [hfre] at hb; cases hb
          refine ⟨hj, ?_⟩
          rcases hother 0 j hj with ⟨h, _⟩ | h
          · rw [← h]; exact hh
          · rw [h] at hh; cases hh
        exact hr.h.inj j k b (hnj j b hj h1).2 (hnj k b hk h2).2 h1 h2
    · have hra := run_append_nothing (P := P) (w := E.w) (ty := o.type) hu hi (some ⟨b, 0, none⟩) l.length cap hnc _ hyv
      unfold Oper.wp
      rw [← hxv] at hra
      rw [hrun _ hra]
      simp only [Result.andThen_ok, Oper.upon, hd]
      have hs : Step O E E b := ⟨rfl, rfl, rfl, Nat.le_refl _, heap_lt hc, hown, fun _ _ _ => rfl, fun _ _ _ => Iff.rfl, fun _ h => by first | (rw [hc] at h; cases h) | (rw [hh] at h; cases h)⟩
      refine hn E (β' b) _ ⟨by simp [Act.put, hr.n], hr.nd, ?_, slots E _ _ (Env.le.refl _) (hβ _) ?_⟩
      · refine HOk.put hr.h hs (Env.le.refl _) (hβ _) (fun j hj => hother _ j hj) (fun j hj hh => hap j (hheld j hj hh)) (id := id') (by simp [β']) ?_ (fun _ _ => trivial)
        rw [hentid]
        exact ⟨_, hc, fun o ho => hX o (by simpa using ho)⟩
      · rw [hxv]
        simp only [List.append_nil] at hfl ⊢
        exact .gsl _ _ b _ cap size vs _ (by simp [β']) rfl hnc hl hsp hrow hvs _ _ _ hc hcs hcm
  rcases rd_slice (hy.rd hr) with ⟨hyv, rfl⟩ | ⟨yb, yoff, ycap, ysz, us, hyv, hyc, _, hyz, hysp, hyrow, hus⟩ | ⟨ad, ycap, hyv, rfl⟩
  · exact nothing rfl (.inl hyv)
  rotate_left
  · exact nothing rfl (.inr ⟨_, _, hyv⟩)
  · by_cases hemp : ys = []
    · exact nothing hemp (.inr ⟨_, _, by subst hemp; exact hyv⟩)
    · have hne : 0 < ys.length := List.length_pos_iff.2 hemp
      have hul : us.length = ys.length * i.size := by rw [hus.length, hly, hi3]
      have hyr : ∀ j u, us[j]? = some u → E.w.cell? ((⟨yb, yoff, none⟩ : Addr).add j) = some u := fun j u hj => by rw [add_none]; exact (hyrow j u hj).1
      rcases hx E β a hr with ⟨hxv, rfl⟩ | ⟨b, cap, c, vs, hxv, hnc, hcm, hc, hcs, hrow, hvs, hown, hX, hap⟩
      · have hra := run_append_nil (P := P) E.w T o.type e i z hu hi1 hi2 ⟨yb, yoff, none⟩ ys.length ycap us hul hyr hne (by simp [maxLen] at hm; omega) (by rw [hi4]; simp at hb; omega)
        refine fresh [] us (grownCap E.w ys.length 0 e) (by simpa [D.flat] using RdL.nil β0) hus (by simpa using grownCap_ge _ _ _ _) (grownCap_le_maxLen _ _ _ _ (by simpa using hm)) ?_
        rw [hxv, hyv]
        simpa using hra
      · have hvl : vs.length = l.length * i.size := by rw [hvs.length, hll, hi3]
        by_cases hroom : l.length + ys.length ≤ cap
        · have hvt : c.toList.take (l.length * i.size) = vs := by rw [← hvl]; exact row_toList (X := E.X) hrow hc
          have hfit : l.length * i.size + us.length ≤ c.size := by rw [hul, hcs, hi3, ← Nat.add_mul]; exact Nat.mul_le_mul_right _ hroom
          have hra := run_append_room (P := P) E.w T o.type e i hu hi1 b l.length cap c hc ⟨yb, yoff, none⟩ ys.length ycap us hul hyr (rdl_one hus hys.all) hroom hfit
          rw [hvt] at hra
          unfold Oper.wp
          rw [← hxv, ← hyv] at hra
          rw [hrun _ hra]
          simp only [Result.andThen_ok, Oper.upon, hd]
          let E' : Env := ⟨E.w.setRow b (vs ++ us ++ c.toList.drop (l.length * i.size + us.length)).toArray, fun k o => if k = b then (l.length + ys.length) * size ≤ o else E.X k o⟩
          have hs : Step O E E' b := ⟨rfl, rfl, rfl, by simp [E'], by simpa [E'] using heap_lt hc, hown, fun k _ hk => setRow_other _ _ _ _ hk, fun k o hk => by simp [E', hk], fun _ h => by first | (rw [hc] at h; cases h) | (rw [hh] at h; cases h)⟩
          have hnew : E'.w.heap[b]? = some (.cells (vs ++ us ++ c.toList.drop (l.length * i.size + us.length)).toArray e (0, 0)) := setRow_heap _ _ _ _ _ _ hc
          have hsz : (vs ++ us ++ c.toList.drop (l.length * i.size + us.length)).toArray.size = c.size := by
            simp [hvl]; omega
          have hle : E.le E' := hs.le (fun o v h1 h2 => by
            have hlt : o < l.length * size := Nat.lt_of_not_le fun h => h2 (hX o h)
            have hlt' : o < vs.length := by rw [hvl, hi3]; exact hlt
            refine ⟨?_, ?_⟩
            · rw [cell_of_row _ _ _ _ _ _ hnew]
              rw [cell_of_row _ _ _ _ _ _ hc] at h1
              have h3 : vs[o]? = some v := by rw [← hvt, List.getElem?_take, if_pos (by rw [hi3]; exact hlt)]; simpa using h1
              simp only [← Array.getElem?_toList, List.append_assoc]
              rw [List.getElem?_append_left hlt']
              exact h3
            · simp only [E', if_true]
              have := @toNat_mul_le l.length ys.length size
              omega) (fun c' e' f' h1 => by rw [hc] at h1; cases h1; exact ⟨_, _, hnew, hsz⟩)
          have hrow' : E'.row b 0 (vs ++ us) := fun k v hk => by
            have hlt : k < vs.length + us.length := by have := (List.getElem?_eq_some_iff.1 hk).1; simpa using this
            refine ⟨?_, ?_⟩
            · rw [Nat.zero_add, cell_of_row _ _ _ _ _ _ hnew]
              simp only [← Array.getElem?_toList]
              rw [List.getElem?_append_left (by simpa using hlt)]
              exact hk
            · simp only [E', if_true, Nat.zero_add]
              rw [Nat.add_mul]; rw [hvl, hul, hi3] at hlt; omega
          have hvs' := (RdL.mono hle (Names.le.refl _) hvs).append (RdL.mono hle (Names.le.refl _) hus)
          rw [← hfl] at hvs'
          refine hn E' (β' b) _ ⟨by simp [Act.put, hr.n], hr.nd.step hs, ?_, slots E' _ _ hle (hβ _) ?_⟩
          · refine HOk.put hr.h hs hle (hβ _) (fun j hj => hother _ j hj) (fun j hj hh => hap j (hheld j hj hh)) (id := id') (by simp [β']) ?_ (fun _ _ => trivial)
            rw [hentid]
            exact ⟨_, hnew, fun o ho => by simpa [E'] using ho⟩
          · exact .gsl _ _ b _ cap size (vs ++ us) _ (by simp [β']) (by simp) hroom hflat hsp hrow' hvs' _ _ _ hnew (by rw [hsz, hcs]) hcm
        · have hxr : ∀ j u, vs[j]? = some u → E.w.cell? ((⟨b, 0, none⟩ : Addr).add j) = some u := fun j u hj => by rw [add_none]; exact (hrow j u hj).1
          have hra := run_append_grow (P := P) E.w T o.type e i z hu hi1 hi2 ⟨b, 0, none⟩ l.length cap vs hvl hxr ⟨yb, yoff, none⟩ ys.length ycap us hul hyr (by omega) (by simp [maxLen] at hm; omega) (growslice_fits (by omega) (by rw [hi4]; exact hb))
          refine fresh vs us (grownCap E.w (l.length + ys.length) cap e) hvs hus (grownCap_ge _ _ _ _) (grownCap_le_maxLen _ _ _ _ hm) ?_
          rw [hxv, hyv]
          exact hra

end
end Go.IL
