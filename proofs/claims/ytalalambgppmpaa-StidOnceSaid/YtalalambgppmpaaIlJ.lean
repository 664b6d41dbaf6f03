/-
  A part of the proof: rules and plain facts. No condition.
-/
import Derived.Test.YtalalambgppmpaaIlH
set_option linter.all false
namespace Go.IL
section
variable {P : Program} {O : Origin} {N : Nat} {S S' : St} {o : Oper} {t : Nat}

theorem iop_append {T e : TypeId} {x y : Operand} {z : Value} {size bytes : Nat} {l ys : List D} {f : Bool} {id : Nat} (id' : Nat)
    (ho : o.op = .call { callee := .builtin .append, args := #[x, y], argTypes := #[T, T] }) (hd : o.dst = some t) (ht : t < N)
    (hu : P.underlying T = some (.slice e)) (hi : TI P e (some z) size bytes) (hz : z.cells.size = size) (hsp : 0 < size)
    (hx : S.op x = .gsl id size l) (he : S.ent id = .tail e size l.length) (hfr : S.ent id' = .fresh) (hl : ∀ d ∈ l, d.cells.length = size)
    (hy : SV S y (.slice f ys)) (hys : Flat size ys) (hm : l.length + ys.length ≤ maxLen) (hb : (l.length + ys.length) * bytes ≤ 140737488355328) :
    IOp P O N o S (((S.setE id .none).setE id' (.tail e size (l.length + ys.length))).set t (.gsl id' size (l ++ ys))) := by
  refine iop_append_core (S1 := S.setE id .none) id' ho hd ht hu hi hz hsp rfl ?_ hfr ?_ hl hy hys hm hb
  · intro j
    by_cases hj : id = j
    · subst hj; right; simp [St.ent, entL, St.setE, look_cons]
    · left; simp [St.ent, entL, St.setE, look_cons, hj]
  · intro E β a hr
    have hv := hr.op x
    rw [hx] at hv
    generalize hev : a.eval x = v at hv
    cases hv with
    | ngsl => exact .inl ⟨rfl, rfl⟩
    | gsl _ _ b len cap _ vs _ hβ hln hc hzz hsz hrow hvs c e' f' h1 h2 h3 =>
      right
      have hent := hr.h.ent id
      rw [he] at hent
      rcases hent with ⟨h4, _⟩ | ⟨b', c', h4, h5, h6, h7⟩
      · rw [hβ] at h4; cases h4
      · rw [hβ] at h4; cases h4
        rw [h6] at h1; cases h1
        subst hln
        refine ⟨b, cap, _, vs, rfl, hc, h3, h6, h2, hrow, hvs, h5, h7, ?_⟩
        intro j hj hb
        by_cases hji : id = j
        · subst hji; simp [St.ent, entL, St.setE, look_cons, Ent.held] at hj
        · have hj' : (S.ent j).held = true := by simpa [St.ent, entL, St.setE, look_cons, hji] using hj
          exact hji (hr.h.inj id j b (by rw [he]; rfl) hj' hβ hb)

theorem iop_append_nils {T e : TypeId} {x y : Operand} {z : Value} {size bytes : Nat} {ys : List D} {f : Bool} (id' : Nat)
    (ho : o.op = .call { callee := .builtin .append, args := #[x, y], argTypes := #[T, T] }) (hd : o.dst = some t) (ht : t < N)
    (hu : P.underlying T = some (.slice e)) (hi : TI P e (some z) size bytes) (hz : z.cells.size = size) (hsp : 0 < size)
    (hx : S.op x = .nils) (hfr : S.ent id' = .fresh)
    (hy : SV S y (.slice f ys)) (hys : Flat size ys) (hm : ys.length ≤ maxLen) (hb : ys.length * bytes ≤ 140737488355328) :
    IOp P O N o S ((S.setE id' (.tail e size ys.length)).set t (.gsl id' size ys)) := by
  have := iop_append_core (P := P) (O := O) (N := N) (l := []) (S1 := S) id' ho hd ht hu hi hz hsp rfl (fun j => .inl rfl) hfr ?_ (by simp) hy hys (by simpa using hm) (by simpa using hb)
  · simpa using this
  · intro E β a hr
    have hv := hr.op x
    rw [hx] at hv
    generalize hev : a.eval x = v at hv
    cases hv
    exact .inl ⟨rfl, rfl⟩


/-! ### literals -/

theorem foldl_set (off : Nat) : ∀ (us : List Value) (k : Nat) (cells : Array Value), off + k + us.length ≤ cells.size →
    ((us.zipIdx k).foldl (fun cs (x : Value × Nat) => cs.setIfInBounds (off + x.2) x.1) cells).toList = cells.toList.take (off + k) ++ us ++ cells.toList.drop (off + k + us.length)
  | [], k, cells, _ => by simp
  | u :: us, k, cells, h => by
    simp only [List.length_cons] at h
    have ih := foldl_set off us (k + 1) (cells.setIfInBounds (off + k) u) (by simp; omega)
    simp only [List.zipIdx_cons, List.foldl_cons]
    rw [ih]
    have h1 : off + k < cells.toList.length := by simp; omega
    simp only [Array.toList_setIfInBounds]
    rw [List.take_set, List.drop_set_of_lt (by omega)]
    have h2 : (cells.toList.take (off + (k + 1))).set (off + k) u = cells.toList.take (off + k) ++ [u] := by
      rw [← Nat.add_assoc, List.take_succ_eq_append_getElem (by simpa using h1)]
      rw [List.set_append_right _ _ (by simp; omega)]
      have : off + k - (List.take (off + k) cells.toList).length = 0 := by simp; simp at h1; omega
      rw [this]; simp
    rw [h2]
    simp only [List.append_assoc, List.singleton_append, List.length_cons, Nat.add_assoc]
    congr 3
    omega

def fillD (place : Nat → Option (Nat × Nat)) (cells : List D) : List (Nat × D) → Option (List D)
  | [] => some cells
  | (i, d) :: rest =>
    match place i with
    | none => none
    | some (off, size) => if d.boxable = false ∨ d.cells.length ≠ size ∨ cells.length < off + size then none else fillD place (splice cells off d.cells) rest

inductive PVs (S : St) : List (Nat × Operand) → List (Nat × D) → Prop
  | nil : PVs S [] []
  | cons {i x d xs ds} (h : SV S x d) (t : PVs S xs ds) : PVs S ((i, x) :: xs) ((i, d) :: ds)

theorem fill_rd {E : Env} {β : Names} {a : Act} (hr : Rel O N S E β a) {place : Nat → Option (Nat × Nat)} : ∀ {ps : List (Nat × Operand)} {ds : List (Nat × D)} {cells : Array Value} {cs cs' : List D}, PVs S ps ds →
    RdL E β cells.toList cs → fillD place cs ds = some cs' → ∃ cells', Instr.fill place cells (ps.map fun p => (p.1, a.eval p.2)) = some cells' ∧ RdL E β cells'.toList cs'
  | _, _, cells, cs, cs', .nil, hc, hf => by simp [fillD] at hf; subst hf; exact ⟨cells, rfl, hc⟩
  | _, _, cells, cs, cs', .cons (i := i) (x := x) (d := d) h t, hc, hf => by
    simp only [fillD] at hf
    split at hf
    · cases hf
    · rename_i off size hp
      split at hf
      · cases hf
      · rename_i hcond
        simp only [not_or] at hcond
        obtain ⟨h1, h2, h3⟩ := hcond
        have h2 : d.cells.length = size := by simpa using h2
        have hv := rd_cells (h.rd hr) (by simpa using h1)
        have hvl : (a.eval x).cells.size = size := by rw [← h2, ← hv.length]; simp
        have hcl := hc.length
        have hset := foldl_set off (a.eval x).cells.toList 0 cells (by simp [hvl] at hcl ⊢; omega)
        simp only [Nat.add_zero] at hset
        have hrd : RdL E β ((a.eval x).cells.toList.zipIdx.foldl (fun cs (x : Value × Nat) => cs.setIfInBounds (off + x.2) x.1) cells).toList (splice cs off d.cells) := by
          rw [hset, splice, hv.length]
          exact ((hc.take _).append hv).append (hc.drop _)
        obtain ⟨cells', h4, h5⟩ := fill_rd hr t hrd hf
        refine ⟨cells', ?_, h5⟩
        simp only [List.map_cons, Instr.fill, hp, hvl]
        rw [if_neg (by simp at hcl ⊢; omega)]
        rw [← h4]
        congr 1
        rw [← Array.foldl_toList, Array.toList_zipIdx]

theorem iop_build_struct {T : TypeId} {fs : Array Field} {places : Array (Nat × Nat)} {ps : List (Nat × Operand)} {z : Value} {size bytes : Nat} {ds : List (Nat × D)} {cs : List D} (ho : o.op = .build T ps.toArray) (hd : o.dst = some t) (ht : t < N)
    (hu : P.underlying T = some (.struct fs)) (hi : TI P T (some z) size bytes) (hp : ∀ w, (fs.mapM fun f => Functor.map (Prod.mk f.offset) (sizeOf f.type)).run P w = .ok places w)
    (hz : (D.ofVal z).boxable = true) (hx : PVs S ps ds) (hf : fillD (places[·]?) (D.ofVal z).cells ds = some cs) : IOp P O N o S (S.set t (.agg cs)) :=
  iop_of hd ht fun E β a hr => by
    obtain ⟨i, h1, h2, _⟩ := hi.at
    obtain ⟨cells, h3, h4⟩ := fill_rd hr hx (rd_cells (rd_ofVal E β z) hz) hf
    refine ⟨.agg cells, ?_, by simpa using Rd.agg β cells.toList cs h4⟩
    simp [execOp, ho, Instr.build, zeroValue, typeInfo, h1, h2, run_underlying hu, hp, h3]

theorem iop_build_array {T e : TypeId} {len esz eb : Nat} {ez : Option Value} {ps : List (Nat × Operand)} {z : Value} {size bytes : Nat} {ds : List (Nat × D)} {cs : List D} (ho : o.op = .build T ps.toArray) (hd : o.dst = some t) (ht : t < N)
    (hu : P.underlying T = some (.array len e)) (hi : TI P T (some z) size bytes) (he : TI P e ez esz eb)
    (hz : (D.ofVal z).boxable = true) (hx : PVs S ps ds) (hf : fillD (fun i => some (i * esz, esz)) (D.ofVal z).cells ds = some cs) : IOp P O N o S (S.set t (.agg cs)) :=
  iop_of hd ht fun E β a hr => by
    obtain ⟨i, h1, h2, _⟩ := hi.at
    obtain ⟨cells, h3, h4⟩ := fill_rd hr hx (rd_cells (rd_ofVal E β z) hz) hf
    refine ⟨.agg cells, ?_, by simpa using Rd.agg β cells.toList cs h4⟩
    simp [execOp, ho, Instr.build, zeroValue, typeInfo, h1, h2, run_underlying hu, he.run_size, h3]

theorem rdl_dead (E : Env) (β : Names) : ∀ (vs : List Value), RdL E β vs (List.replicate vs.length .dead)
  | [] => .nil _
  | v :: vs => .cons (.dead _ v) (rdl_dead E β vs)

end
end Go.IL
