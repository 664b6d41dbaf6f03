/-
  A part of the proof: rules and plain facts. No condition.
-/
import Derived.Test.YtalalambgppmpaaIlJ
import Derived.Laws.BytesArg
import Derived.Laws.MakeOwn
import Derived.Laws.Strings2
set_option linter.all false
namespace Go.IL
open RowKit (Below)
section
variable {P : Program} {O : Origin} {N : Nat} {S S' : St} {o : Oper} {t : Nat}

/-- An operation that makes memory that nobody will write. -/
theorem iop_below {d : D} (hd : o.dst = some t) (ht : t < N)
    (h : ∀ E β a, Rel O N S E β a → ∃ v w', (execOp a.eval o).run P E.w = .ok (.value v) w' ∧ Below E.w.heap.size E.w w' ∧ Rd ⟨w', E.X⟩ β v d) : IOp P O N o S (S.set t d) := by
  intro E β a hr next Q hn
  obtain ⟨v, w', hrun, hb, hrd⟩ := h E β a hr
  unfold Oper.wp
  rw [hrun]
  simp only [Oper.upon, hd]
  have hr' : Rel O N S ⟨w', E.X⟩ β a := ⟨hr.n, hr.nd.below hb, hr.h.below hb, fun s => Rd.mono (below_le hb) (Names.le.refl _) (hr.sl s)⟩
  exact hn ⟨w', E.X⟩ β _ (hr'.set ht hrd)

/-- A new block, all of whose elements are known: it may grow. -/
theorem iop_newgsl {e : TypeId} {sz : Nat} {ds : List D} (id : Nat) (hd : o.dst = some t) (ht : t < N) (hf : S.ent id = .fresh) (hz : ∀ d ∈ ds, d.cells.length = sz) (hsp : 0 < sz)
    (h : ∀ E β a, Rel O N S E β a → ∃ (vs : List Value) (cap : Nat) (c : Array Value) (w1 : World), (execOp a.eval o).run P E.w = .ok (.value (.slice (some ⟨E.w.heap.size, 0, none⟩) ds.length cap)) (w1.alloc (.cells c e)) ∧ w1.heap = E.w.heap ∧
      w1.os = E.w.os ∧ w1.tape = E.w.tape ∧ w1.output = E.w.output ∧ RdL E β0 vs (D.flat ds) ∧ c.toList.take vs.length = vs ∧ c.size = cap * sz ∧ ds.length ≤ cap ∧ cap ≤ maxLen) :
    IOp P O N o S ((S.setE id (.tail e sz ds.length)).set t (.gsl id sz ds)) := by
  intro E β a hr next Q hn
  obtain ⟨vs, cap, c, w1, hrun, hh, hos, htp, hou, hvs, hct, hcs, hlc, hcm⟩ := h E β a hr
  unfold Oper.wp
  rw [hrun]
  simp only [Oper.upon, hd]
  have hfr : β id = none := by have := hr.h.ent id; rw [hf] at this; exact this
  let E' : Env := ⟨w1.alloc (.cells c e), fun b o => (b = E.w.heap.size ∧ ds.length * sz ≤ o) ∨ E.X b o⟩
  let β' : Names := fun j => if j = id then some E.w.heap.size else β j
  have hβ : β.le β' := fun j b hj => by
    by_cases hji : j = id
    · subst hji; rw [hfr] at hj; cases hj
    · simp [β', hji, hj]
  have hsz1 : w1.heap.size = E.w.heap.size := by rw [hh]
  have hs : Step O E E' E.w.heap.size :=
    ⟨hos, htp, hou, by simp [E', hsz1], by simp [E', hsz1], .inl hr.h.size, fun k hk _ => by rw [heap_alloc_old w1 _ (by rw [hsz1]; exact hk), hh], fun k o hk => by simp [E', hk], fun _ h => Nat.lt_irrefl _ (heap_lt h)⟩
  have hle : E.le E' := hs.le (fun o v h1 _ => by have := World.block_lt_of_cell? _ _ h1; simp at this) (fun c e f h1 => by have := heap_lt h1; simp at this)
  have hnew : E'.w.heap[E.w.heap.size]? = some (.cells c e (0, 0)) := by rw [← hsz1]; exact heap_alloc_new w1 _
  have hfl : (D.flat ds).length = ds.length * sz := flat_length hz
  have hvl := hvs.length
  have hrow : E'.row E.w.heap.size 0 vs := fun k v hk => by
    have hlt := (List.getElem?_eq_some_iff.1 hk).1
    refine ⟨?_, ?_⟩
    · rw [Nat.zero_add, cell_of_row _ _ _ _ _ _ hnew, ← Array.getElem?_toList]
      have h1 : (c.toList.take vs.length)[k]? = some v := by rw [hct]; exact hk
      rwa [List.getElem?_take, if_pos hlt] at h1
    · rintro (⟨_, h⟩ | h)
      · omega
      · have := hr.h.xlt _ _ h; omega
  refine hn E' β' _ ⟨by simp [Act.put, hr.n], hr.nd.step hs, ?_, ?_⟩
  · refine HOk.put hr.h hs hle hβ ?_ ?_ (id := id) (by simp [β']) ?_ (fun _ _ => trivial)
    · intro j hj; left; constructor
      · simp [St.ent, entL, St.setE, St.set, look_cons, Ne.symm hj]
      · simp [β', hj]
    · intro j hj hheld hb
      have : (S.ent j).held = true := by simpa [St.ent, entL, St.setE, St.set, look_cons, Ne.symm hj] using hheld
      exact Nat.lt_irrefl _ (hr.h.lt this hb)
    · simp only [St.ent, entL, St.setE, St.set, look_cons, if_true]
      exact ⟨c, hnew, fun o ho => .inl ⟨rfl, ho⟩⟩
  · intro s
    have hts : t < a.tmps.size := hr.n ▸ ht
    by_cases hst : t = s
    · subst hst
      simp only [Act.put, St.get, St.set, look_cons, if_true, Array.getD_eq_getD_getElem?, Array.getElem?_setIfInBounds_self, hts, Option.getD_some]
      exact .gsl _ _ E.w.heap.size _ cap sz vs _ (by simp [β']) rfl hlc hz hsp hrow (RdL.mono hle (Names.le.refl _) hvs) _ _ _ hnew hcs hcm
    · have := Rd.mono hle hβ (hr.sl s)
      simpa [Act.put, St.get, St.set, St.setE, look_cons, hst, Array.getElem?_setIfInBounds_ne] using this

theorem iop_buildSlice {T e : TypeId} {len esz eb : Nat} {ez : Value} {ps : List (Nat × Operand)} {dps : List (Nat × D)} {ds : List D} (id : Nat) (ho : o.op = .buildSlice T len ps.toArray) (hd : o.dst = some t) (ht : t < N)
    (hu : P.underlying T = some (.slice e)) (he : TI P e (some ez) esz eb) (hsp : 0 < esz) (hf : S.ent id = .fresh) (hx : PVs S ps dps)
    (hfill : fillD (fun i => some (i * esz, esz)) (List.replicate (len * esz) .dead) dps = some (D.flat ds)) (hl : ds.length = len) (hz : ∀ d ∈ ds, d.cells.length = esz) (hp : D.refsInL noRef (D.flat ds) = true) (hb : len * esz ≤ 2 ^ 24) :
    IOp P O N o S ((S.setE id (.tail e esz len)).set t (.gsl id esz ds)) := by
  subst hl
  refine iop_newgsl id hd ht hf hz hsp fun E β a hr => ?_
  obtain ⟨i, h1, h2, h3, _⟩ := he.at
  let init : Array Value := (Array.range (ds.length * esz)).map fun k => (if ds.length * esz = 0 then #[] else ez.cells)[k % (if ds.length * esz = 0 then #[] else ez.cells).size]!
  have hinit : RdL E β init.toList (List.replicate (ds.length * esz) .dead) := by
    have := rdl_dead E β init.toList
    rwa [show init.toList.length = ds.length * esz by simp [init]] at this
  obtain ⟨cells, h4, h5⟩ := fill_rd hr hx hinit hfill
  have hcl : cells.size = ds.length * esz := by have := h5.length; rw [flat_length hz] at this; simpa using this
  refine ⟨cells.toList, ds.length, cells, E.w, ?_, rfl, rfl, rfl, rfl, h5.bare hp, by rw [List.take_of_length_le (by simp)], hcl, Nat.le_refl _, ?_⟩
  · have hb' : ¬ (2 ^ 24 < ds.length * esz) := by omega
    simp only [execOp, ho, Instr.buildSlice, Sem.run_bind, run_underlying hu, Result.andThen_ok, he.run_size]
    rw [if_neg (by simpa using hb')]
    by_cases h0 : ds.length * esz = 0
    · have h4' := h4
      simp only [init, h0, if_true] at h4' ⊢
      simp at h4'
      simp [h4', newRow]
    · have h4' := h4
      simp only [init, h0, if_false] at h4' ⊢
      simp [zeroValue, typeInfo, h1, h2, h4', newRow]
  · have : ds.length ≤ ds.length * esz := Nat.le_mul_of_pos_right _ hsp
    simp only [maxLen]; omega

/-- Where a piece of a slice begins and ends. -/
def Bound (S : St) (z : Int) (x : Option Operand) (n : Int) : Prop :=
  match x with
  | none => n = z
  | some x => ∃ k, SV S x (.int k n)

theorem run_bounds {E : Env} {β : Names} {a : Act} (hr : Rel O N S E β a) {isS : Bool} {len cap : Nat} {lo hi : Option Operand} {l h : Int} (hlo : Bound S 0 lo l) (hhi : Bound S len hi h) (h0 : 0 ≤ l) (h1 : l ≤ h) (h2 : h ≤ len) (h3 : len ≤ cap) :
    (Instr.sliceBounds isS len cap (lo.map a.eval) (hi.map a.eval) none).run P E.w = .ok (l.toNat, h.toNat, cap) E.w := by
  have hh : h ≤ (cap : Int) := by omega
  have e1 : 0 ≤ h := by omega
  have e2 : l ≤ (h.toNat : Int) := by omega
  cases lo with
  | none =>
    have hlo : l = 0 := hlo
    subst hlo
    cases hi with
    | none =>
      have hhi : h = len := hhi
      subst hhi
      simp [Instr.sliceBounds]
    | some y =>
      obtain ⟨k, hy⟩ := hhi
      simp [Instr.sliceBounds, Instr.sliceBound, rd_int (hy.rd hr), asIntOf, e1, hh]
  | some x =>
    obtain ⟨k, hx⟩ := hlo
    cases hi with
    | none =>
      have hhi : h = len := hhi
      subst hhi
      have : l ≤ (len : Int) := h1
      simp [Instr.sliceBounds, Instr.sliceBound, rd_int (hx.rd hr), asIntOf, h0, this]
    | some y =>
      obtain ⟨k', hy⟩ := hhi
      simp [Instr.sliceBounds, Instr.sliceBound, rd_int (hx.rd hr), rd_int (hy.rd hr), asIntOf, h0, e1, hh]
      intro _; omega

theorem iop_slice_str {T : TypeId} {x : Operand} {lo hi : Option Operand} {s r : List UInt8} {l h : Int} (ho : o.op = .slice T x lo hi none) (hd : o.dst = some t) (ht : t < N) (hu : P.underlying T = some .string)
    (hx : SV S x (.str s)) (hlo : Bound S 0 lo l) (hhi : Bound S s.length hi h) (h0 : 0 ≤ l) (h1 : l ≤ h) (h2 : h ≤ s.length) (hr' : (s.take h.toNat).drop l.toNat = r) : IOp P O N o S (S.set t (.str r)) :=
  iop_of hd ht fun E β a hr => by
    refine ⟨.string (bs r), ?_, .str _ _⟩
    have hb := run_bounds (P := P) hr (isS := false) hlo hhi h0 h1 h2 (Nat.le_refl _)
    subst hr'
    have he : (bs s).extract l.toNat h.toNat = bs ((s.take h.toNat).drop l.toNat) := by
      simp only [bs]
      rw [ByteArray.extract_mk, List.drop_take]
    simp [execOp, ho, rd_str (hx.rd hr), Instr.sliceAt, Instr.slice, run_underlying hu, bs_size, hb, he]

theorem iop_slice_slice {T e : TypeId} {x : Operand} {lo hi : Option Operand} {s r : List D} {f : Bool} {l h : Int} {z : Option Value} {size bytes : Nat} (ho : o.op = .slice T x lo hi none) (hd : o.dst = some t) (ht : t < N) (hu : P.underlying T = some (.slice e)) (hi' : TI P e z size bytes)
    (hx : SV S x (.slice f s)) (hz : ∀ d ∈ s, d.cells.length = size) (hlo : Bound S 0 lo l) (hhi : Bound S s.length hi h) (h0 : 0 ≤ l) (h1 : l ≤ h) (h2 : h ≤ s.length) (hr' : (s.take h.toNat).drop l.toNat = r) : IOp P O N o S (S.set t (.slice false r)) :=
  iop_of hd ht fun E β a hr => by
    subst hr'
    rcases rd_slice (hx.rd hr) with ⟨hev, rfl⟩ | ⟨b, off, cap, sz, vs, hev, hc, _, hzz, hsp, hrow, hvs⟩ | ⟨ad, cap, hev, rfl⟩
    rotate_right
    · have hb := run_bounds (P := P) hr (isS := true) hlo hhi h0 h1 h2 (Nat.zero_le cap)
      have e1 : h.toNat = 0 := by simp at h2; omega
      have e2 : l.toNat = 0 := by omega
      refine ⟨.slice (some ad) 0 cap, ?_, by simpa using Rd.eslice β ad cap⟩
      simp only [List.length_nil] at hb
      simp [execOp, ho, hev, Instr.sliceAt, Instr.slice, run_underlying hu, hb, hi'.run_size, e1, e2, Addr.add]
    · have hb := run_bounds (P := P) hr (isS := true) hlo hhi h0 h1 h2 (Nat.le_refl _)
      have e1 : h.toNat = 0 := by simp at h2; omega
      have e2 : l.toNat = 0 := by omega
      refine ⟨.slice none 0 0, ?_, by simpa using Rd.nslice β false⟩
      simp only [List.length_nil] at hb
      simp [execOp, ho, hev, Instr.sliceAt, Instr.slice, run_underlying hu, hb, hi'.run_size, e1, e2]
    · have hb := run_bounds (P := P) hr (isS := true) hlo hhi h0 h1 h2 hc
      have hlen : ((s.take h.toNat).drop l.toNat).length = h.toNat - l.toNat := by rw [List.length_drop, List.length_take]; omega
      by_cases hs : s = []
      · subst hs
        have e1 : h.toNat = 0 := by simp at h2; omega
        have e2 : l.toNat = 0 := by omega
        refine ⟨.slice (some ⟨b, off, none⟩) 0 cap, ?_, ?_⟩
        · simp only [List.length_nil] at hb
          simp [execOp, ho, hev, Instr.sliceAt, Instr.slice, run_underlying hu, hb, hi'.run_size, e1, e2, add_none]
        · simp only [List.take_nil, List.drop_nil]
          exact .slice _ b off 0 cap sz false vs [] rfl (Nat.zero_le _) (by simp) (by simp) hsp hrow hvs
      · have hsz : sz = size := by
          obtain ⟨d, hd⟩ := List.exists_mem_of_ne_nil s hs
          rw [← hzz d hd, hz d hd]
        subst hsz
        have hflat : ∀ (s : List D) (n : Nat), (∀ d ∈ s, d.cells.length = sz) → D.flat (s.take n) = (D.flat s).take (n * sz) := by
          intro s
          induction s with
          | nil => intro n _; simp [D.flat]
          | cons d s ih =>
            intro n hz
            cases n with
            | zero => simp [D.flat]
            | succ n =>
              have h1 := hz d (by simp)
              have := ih n (fun d hd => hz d (by simp [hd]))
              simp only [D.flat, List.take_succ_cons, List.flatMap_cons] at this ⊢
              rw [this, Nat.add_mul, Nat.one_mul, Nat.add_comm, ← h1, List.take_length_add_append]
        have hflatd : ∀ (s : List D) (n : Nat), (∀ d ∈ s, d.cells.length = sz) → D.flat (s.drop n) = (D.flat s).drop (n * sz) := by
          intro s
          induction s with
          | nil => intro n _; simp [D.flat]
          | cons d s ih =>
            intro n hz
            cases n with
            | zero => simp
            | succ n =>
              have h1 := hz d (by simp)
              have := ih n (fun d hd => hz d (by simp [hd]))
              simp only [D.flat, List.drop_succ_cons, List.flatMap_cons] at this ⊢
              rw [this, Nat.add_mul, Nat.one_mul, Nat.add_comm, ← h1, List.drop_length_add_append]
        have hsub : ∀ d ∈ (s.take h.toNat).drop l.toNat, d.cells.length = sz := fun d hd => hzz d (List.mem_of_mem_take (List.mem_of_mem_drop hd))
        have hrd : RdL E β0 ((vs.take (h.toNat * sz)).drop (l.toNat * sz)) (D.flat ((s.take h.toNat).drop l.toNat)) := by
          rw [hflatd _ _ (fun d hd => hzz d (List.mem_of_mem_take hd)), hflat _ _ hzz]
          exact (hvs.take _).drop _
        by_cases hcl : cap = l.toNat
        · have e3 : h.toNat = l.toNat := by omega
          refine ⟨.slice (some ⟨b, off, none⟩) (h.toNat - l.toNat) (cap - l.toNat), ?_, ?_⟩
          · simp only [execOp, ho, hev, Instr.sliceAt, Instr.slice, Sem.run_bind, run_underlying hu, Result.andThen_ok, Option.map_none, hb, hi'.run_size, Sem.run_pure]
            rw [if_pos hcl]
          · have hnil : (s.take h.toNat).drop l.toNat = [] := List.eq_nil_of_length_eq_zero (by rw [hlen]; omega)
            rw [hnil]
            exact .slice _ b off _ _ sz false [] [] (by simp; omega) (by omega) (by simp) (by simp) hsp (fun k v hk => by simp at hk) (by simpa [D.flat] using RdL.nil β0)
        · refine ⟨.slice (some ⟨b, off + l.toNat * sz, none⟩) (h.toNat - l.toNat) (cap - l.toNat), ?_, ?_⟩
          · simp [execOp, ho, hev, Instr.sliceAt, Instr.slice, run_underlying hu, hb, hi'.run_size, hcl, add_none]
          · exact .slice _ b _ _ _ sz false _ _ hlen (by omega) (by simp) hsub hsp ((hrow.take _).drop _) hrd

def byteD (c : UInt8) : D := .int .u8 c.toNat

end
end Go.IL
