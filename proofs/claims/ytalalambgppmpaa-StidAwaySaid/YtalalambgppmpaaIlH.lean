/-
  A part of the proof: rules and plain facts. No condition.
-/
import Derived.Test.YtalalambgppmpaaIlG
set_option linter.all false
namespace Go.IL
open RowKit (Below)

mutual
theorem D.ren_id : ∀ (d : D), d.ren (fun i => i) = d
  | .dead | .bool _ | .int _ _ | .float _ _ | .str _ | .slice _ _ | .nils | .fptr _ | .nilp | .nilf | .nili | .ref _ _ | .rsl _ _ _ _ _ | .gsl _ _ _ | .osl _ _ _ | .yld _ => rfl
  | .agg cs => by rw [D.ren, D.renL_id cs]
  | .tuple cs => by rw [D.ren, D.renL_id cs]
  | .fn f cs => by rw [D.ren, D.renL_id cs]
  | .cnd b d => by rw [D.ren, D.ren_id d]
theorem D.renL_id : ∀ (ds : List D), D.renL (fun i => i) ds = ds
  | [] => rfl
  | d :: ds => by rw [D.renL, D.ren_id d, D.renL_id ds]
end

def noRef : Nat → Bool := fun _ => false
theorem Rd.bare {E : Env} {β : Names} {v : Value} {d : D} (h : Rd E β v d) (hp : d.refsIn noRef = true) : Rd E β0 v d :=
  Rd.ren (ρ := fun i => i) (p := noRef) (β := β) (fun _ h => by cases h) d (by rw [D.ren_id]; exact h) hp
theorem RdL.bare {E : Env} {β : Names} {vs : List Value} {ds : List D} (h : RdL E β vs ds) (hp : D.refsInL noRef ds = true) : RdL E β0 vs ds :=
  RdL.ren (ρ := fun i => i) (p := noRef) (β := β) (fun _ h => by cases h) ds (by rw [D.renL_id]; exact h) hp

/-- A call on what reads as 'ds' hands back what reads as 'r', and turns nothing that was there. -/
def PureAt (P : Program) (f : FuncId) (ds : List D) (r : D) : Prop :=
  ∀ (E : Env) (vs : List Value), (∀ b o, E.X b o → b < E.w.heap.size) → RdL E β0 vs ds →
    Calls P f vs.toArray E.w fun e w' => ∃ v, e = .returned v ∧ Below E.w.heap.size E.w w' ∧ Rd ⟨w', E.X⟩ β0 v r

def Callable (P : Program) (f : FuncId) : Prop := ∃ fn, P.funcs[f]? = some fn ∧ (fn.name == "runtime.NumGoroutine") = false ∧ fn.body.isNone = false

theorem below_le {w w' : World} {X : Nat → Nat → Prop} (h : Below w.heap.size w w') : (⟨w, X⟩ : Env).le ⟨w', X⟩ := by
  constructor
  · intro b o v h1 h2
    exact ⟨(World.cell_block (h.block b (World.block_lt_of_cell? _ _ h1))).trans h1, h2⟩
  · intro b c e f h1
    exact ⟨c, f, (h.block b (heap_lt h1)).trans h1, rfl⟩

theorem Marks.below {O : Origin} {E : Env} {ds : List Deferred} (h : Marks O E ds) {w' : World} (hb : Below E.w.heap.size E.w w') : Marks O ⟨w', E.X⟩ ds := h.mono fun k h1 => (hb.block k (heap_lt h1)).trans h1

theorem HOk.below {O : Origin} {E : Env} {β : Names} {H : Nat → Ent} (h : HOk O E β H) {w' : World} (hb : Below E.w.heap.size E.w w') : HOk O ⟨w', E.X⟩ β H where
  os := hb.os.trans h.os
  tape := hb.tape.trans h.tape
  output := hb.output.trans h.output
  size := Nat.le_trans h.size hb.size
  block k hk hf := (hb.block k (Nat.lt_of_lt_of_le hk h.size)).trans (h.block k hk hf)
  xlt b o hX := Nat.lt_of_lt_of_le (h.xlt b o hX) hb.size
  xold := h.xold
  ent id := by
    have he := h.ent id
    cases hH : H id with
    | none => trivial
    | fresh => rw [hH] at he; exact he
    | blk e ds =>
      rw [hH] at he
      rcases he with h1 | ⟨b, vs, sp, h1, h2, h3, h4, h5⟩
      · exact .inl h1
      · exact .inr ⟨b, vs, sp, h1, h2, (hb.block b (heap_lt h3)).trans h3, h4, RdL.mono (below_le hb) (Names.le.refl _) h5⟩
    | tail e sz n =>
      rw [hH] at he
      rcases he with h1 | ⟨b, c, h1, h2, h3, h4⟩
      · exact .inl h1
      · exact .inr ⟨b, c, h1, h2, (hb.block b (heap_lt h3)).trans h3, h4⟩
    | loop lk ds st pend =>
      rw [hH] at he
      obtain ⟨k, r, h3, h4, h5, h6, h7, h8, h9, h10, h11, h12⟩ := he
      exact ⟨k, r, h3, h4, (hb.block k (heap_lt h5)).trans h5, h6, h7, h8, h9, h10, h11, h12.1, RdL.mono (below_le hb) (Names.le.refl _) h12.2⟩
    | kept n ds =>
      rw [hH] at he
      exact ⟨RdL.mono (below_le hb) (Names.le.refl _) he.1, fun c hc => (hb.block c (heap_lt (he.2 c hc))).trans (he.2 c hc)⟩
  inj := h.inj
  le := h.le.trans (below_le hb)
  gid := h.gid
  given := h.given

/-- Operands, and what they read as. -/
inductive SVs (S : St) : List Operand → List D → Prop
  | nil : SVs S [] []
  | cons {x d xs ds} (h : SV S x d) (t : SVs S xs ds) : SVs S (x :: xs) (d :: ds)

section
variable {P : Program} {O : Origin} {N : Nat} {S S' : St} {o : Oper} {t : Nat}

theorem SVs.rd {E : Env} {β : Names} {a : Act} (hr : Rel O N S E β a) : ∀ {xs : List Operand} {ds : List D}, SVs S xs ds → RdL E β (xs.map a.eval) ds
  | _, _, .nil => .nil _
  | _, _, .cons h t => .cons (h.rd hr) (SVs.rd hr t)

theorem iop_enter {f : FuncId} {ds : List D} {r : D} (hd : o.dst = some t) (ht : t < N)
    (h : ∀ E β a, Rel O N S E β a → ∃ vs : List Value, (execOp a.eval o).run P E.w = .ok (.enter f vs.toArray) E.w ∧ RdL E β vs ds) (hp : D.refsInL noRef ds = true) (hf : PureAt P f ds r) : IOp P O N o S (S.set t r) := by
  intro E β a hr next Q hn
  obtain ⟨vs, hrun, hv⟩ := h E β a hr
  unfold Oper.wp
  rw [hrun]
  simp only [Oper.upon, hd]
  refine (hf E vs hr.h.xlt (hv.bare hp)).mono ?_
  rintro e w' ⟨v, rfl, hb, hrd⟩
  have hr' : Rel O N S ⟨w', E.X⟩ β a := ⟨hr.n, hr.nd.below hb, hr.h.below hb, fun s => Rd.mono (below_le hb) (Names.le.refl _) (hr.sl s)⟩
  exact hn ⟨w', E.X⟩ β _ (hr'.set ht hrd.up)

theorem run_callFunc {f : FuncId} (hc : Callable P f) (args : Array Value) (w : World) : (callFunc f args).run P w = .ok (.enter f args) w := by
  obtain ⟨fn, h1, h2, h3⟩ := hc
  simp only [callFunc, Sem.run_bind, run_program, Result.andThen_ok, h1, h2, h3, Bool.false_eq_true, if_false]
  rfl

theorem iop_call {f : FuncId} {xs : List Operand} {ts : Array TypeId} {ds : List D} {r : D} (ho : o.op = .call { callee := .value (.func f), args := xs.toArray, argTypes := ts }) (hd : o.dst = some t) (ht : t < N)
    (hc : Callable P f) (hx : SVs S xs ds) (hp : D.refsInL noRef ds = true) (hf : PureAt P f ds r) : IOp P O N o S (S.set t r) :=
  iop_enter hd ht (fun E β a hr => ⟨xs.map a.eval, by
    simp [execOp, ho, resolve, Deferred.ofValue, Act.eval, invoke, run_callFunc hc], hx.rd hr⟩) hp hf

/-- A function value of known making is called. -/
theorem iop_callv {x : Operand} {f : FuncId} {caps : List D} {xs : List Operand} {ts : Array TypeId} {ds : List D} {r : D} (ho : o.op = .call { callee := .value x, args := xs.toArray, argTypes := ts }) (hd : o.dst = some t) (ht : t < N)
    (hc : Callable P f) (hfx : SV S x (.fn f caps)) (hx : SVs S xs ds) (hp : D.refsInL noRef (ds ++ caps) = true) (hf : PureAt P f (ds ++ caps) r) : IOp P O N o S (S.set t r) :=
  iop_enter hd ht (fun E β a hr => by
    obtain ⟨vs, hev, hl⟩ := rd_fn (hfx.rd hr)
    exact ⟨xs.map a.eval ++ vs, by simp [execOp, ho, resolve, Deferred.ofValue, hev, invoke, run_callFunc hc], (hx.rd hr).append hl⟩) hp hf

theorem iop_makeFunc {f : FuncId} {xs : List Operand} {ds : List D} (ho : o.op = .makeFunc (.func f) #[] xs.toArray) (hd : o.dst = some t) (ht : t < N) (hx : SVs S xs ds) : IOp P O N o S (S.set t (.fn f ds)) :=
  iop_of hd ht fun E β a hr => ⟨.func (.func f) #[] (xs.map a.eval).toArray, by simp [execOp, ho, Instr.makeFunc], .fn _ _ _ _ (hx.rd hr)⟩

/-- What a result reads as. -/
def ResV (P : Program) (S : St) : ResultVar → D → Prop
  | .tmp t, d => SV S (.tmp t) d
  | .cell x T, d => ∃ id off e ds u z size bytes, SV S (.tmp x) (.ref id off) ∧ S.ent id = .blk e ds ∧ P.underlying T = some u ∧ TI P T z size bytes ∧ off + size ≤ ds.length ∧ 0 < size ∧ D.load (aggOf P T) size (ds.drop off) = d
inductive ResVs (P : Program) (S : St) : List ResultVar → List D → Prop
  | nil : ResVs P S [] []
  | cons {x d xs ds} (h : ResV P S x d) (t : ResVs P S xs ds) : ResVs P S (x :: xs) (d :: ds)

theorem run_load_ref {E : Env} {β : Names} {a : Act} (hr : Rel O N S E β a) {T : TypeId} {u : TypeDesc} {z : Option Value} {size bytes : Nat} {id off : Nat} {e : TypeId} {ds : List D} {v : Value}
    (hu : P.underlying T = some u) (hi : TI P T z size bytes) (hv : Rd E β v (.ref id off)) (he : S.ent id = .blk e ds) (hn : off + size ≤ ds.length) (h1 : 0 < size) :
    ∃ y b, v = .pointer (some ⟨b, off, none⟩) ∧ (loadVar T ⟨b, off, none⟩).run P E.w = .ok y E.w ∧ Rd E β y (D.load (aggOf P T) size (ds.drop off)) := by
  obtain ⟨b, hb, rfl⟩ := rd_ref hv
  have hent := hr.h.ent id
  rw [he] at hent
  obtain ⟨vs, sp, _, hh, _, hl⟩ := blk_at hent hb
  have hlen := hl.length
  simp only [D.load]
  cases hag : aggOf P T with
  | true =>
    refine ⟨.agg ((vs.drop off).take size).toArray, b, rfl, ?_, .agg _ _ _ ((hl.drop off).take size)⟩
    have hlc := run_cells_of (P := P) hh (show off + size ≤ (vs ++ sp).length by simp; omega)
    rw [drop_take_app (by omega)] at hlc
    simp [loadVar, run_isAgg hu, hag, hi.run_size, hlc]
  | false =>
    have hlt : off < vs.length := by omega
    have hcell : E.w.cell? ⟨b, off, none⟩ = some vs[off] := by rw [cell_of_row _ _ _ _ _ _ hh]; simp [List.getElem?_append_left, hlt]
    refine ⟨vs[off], b, rfl, by simp [loadVar, run_isAgg hu, hag, hcell], ?_⟩
    have hlt' : off < ds.length := by omega
    have := hl.get off (v := vs[off]) (d := ds[off]) (by simp [hlt]) (by simp [hlt'])
    simpa [List.headD_eq_head?_getD, List.head?_drop, hlt'] using this

def resF (tmps : Array Value) : ResultVar → Sem Value
  | .tmp t => pure (tmps.getD t undef)
  | .cell x t => do loadVar t (← asAddr (tmps.getD x undef))

theorem run_results {E : Env} {β : Names} {a : Act} (hr : Rel O N S E β a) : ∀ {rs : List ResultVar} {ds : List D}, ResVs P S rs ds →
    ∃ vs, (rs.mapM (resF a.tmps)).run P E.w = .ok vs E.w ∧ RdL E β vs ds
  | _, _, .nil => ⟨[], by simp, .nil _⟩
  | _, _, .cons (x := r) h t => by
    obtain ⟨vs, h1, h2⟩ := run_results hr t
    cases r with
    | tmp t =>
      exact ⟨a.tmps.getD t undef :: vs, by simp [List.mapM_cons, resF, h1], .cons (h.rd hr) h2⟩
    | cell x T =>
      obtain ⟨id, off, e, ds, u, z, size, bytes, g1, g2, g3, g4, g5, g6, rfl⟩ := h
      obtain ⟨y, b, e1, e2, e3⟩ := run_load_ref (P := P) hr g3 g4 (g1.rd hr) g2 g5 g6
      have e1' : a.tmps.getD x undef = .pointer (some ⟨b, off, none⟩) := e1
      refine ⟨y :: vs, ?_, .cons e3 h2⟩
      have h4 : (resF a.tmps (.cell x T)).run P E.w = .ok y E.w := by
        simp only [resF, e1']
        simp [asAddr, e2]
      rw [List.mapM_cons]
      simp only [Sem.run_bind, h4, h1, Result.andThen_ok, Sem.run_pure]

def retD : List D → D
  | [d] => d
  | ds => .tuple ds

theorem init_hok {w : World} {X : Nat → Nat → Prop} (hX : ∀ b o, X b o → b < w.heap.size) : HOk ⟨w, X, fun _ => False, β0, none, fun _ => [], fun _ => 0, fun _ => [], fun _ => (#[], .skip, .skip)⟩ ⟨w, X⟩ β0 (entL []) where
  os := rfl
  tape := rfl
  output := rfl
  size := Nat.le_refl _
  block _ _ _ := rfl
  xlt := hX
  xold _ _ _ _ := Iff.rfl
  ent id := by
    show EntAt _ _ _ _ (defE id)
    unfold defE; split
    · trivial
    · rfl
  inj i j b hi := by
    have : (defE i).held = true := hi
    unfold defE at this; split at this <;> cases this
  le := Env.le.refl _
  gid i b h := by cases h
  given i b h := by cases h

/-! What outermost loops over functions left is shut at a function's end. -/
theorem shut_le {w : World} {X : Nat → Nat → Prop} {b : Nat} (hx : w.heap[b]? = some (.deferred (some []))) : (⟨w, X⟩ : Env).le ⟨w.putObj b (.deferred none), X⟩ := by
  constructor
  · intro k o v h1 h2
    by_cases hk : k = b
    · subst hk; simp [World.cell?, hx] at h1
    · exact ⟨(World.cell_block (World.putObj_heap_other hk)).trans h1, h2⟩
  · intro k c e f h1
    by_cases hk : k = b
    · subst hk; rw [hx] at h1; cases h1
    · exact ⟨c, f, (World.putObj_heap_other hk).trans h1, rfl⟩
theorem HOk.shut {O : Origin} {E : Env} {β : Names} {H : Nat → Ent} (h : HOk O E β H) {b : Nat} (hb : O.w.heap.size ≤ b) (hof : ¬ O.foot b) (hdv : ∀ k, b ∉ O.dv k) (hx : E.w.heap[b]? = some (.deferred (some []))) : HOk O ⟨E.w.putObj b (.deferred none), E.X⟩ β H where
  os := h.os
  tape := h.tape
  output := h.output
  size := by simpa [World.putObj] using h.size
  block k hk hf := (World.putObj_heap_other (by omega)).trans (h.block k hk hf)
  xlt k o hX := by simpa [World.putObj] using h.xlt k o hX
  xold := h.xold
  ent id := by
    have hne : ∀ (k : Nat) (o : Obj), E.w.heap[k]? = some o → (∀ ds, o ≠ Obj.deferred ds) → (E.w.putObj b (.deferred none)).heap[k]? = some o := fun k o h1 h2 => by
      have : k ≠ b := by rintro rfl; rw [hx] at h1; cases h1; exact h2 _ rfl
      exact (World.putObj_heap_other this).trans h1
    have he := h.ent id
    cases hH : H id with
    | none => trivial
    | fresh => rw [hH] at he; exact he
    | blk e ds =>
      rw [hH] at he
      rcases he with h1 | ⟨b, vs, sp, h1, h2, h3, h4, h5⟩
      · exact .inl h1
      · exact .inr ⟨b, vs, sp, h1, h2, hne _ _ h3 (fun _ h => by cases h), h4, RdL.mono (shut_le hx) (Names.le.refl _) h5⟩
    | tail e sz n =>
      rw [hH] at he
      rcases he with h1 | ⟨b, c, h1, h2, h3, h4⟩
      · exact .inl h1
      · exact .inr ⟨b, c, h1, h2, hne _ _ h3 (fun _ h => by cases h), h4⟩
    | loop lk ds st pend =>
      rw [hH] at he
      obtain ⟨k, r, h3, h4, h5, h6, h7, h8, h9, h10, h11, h12⟩ := he
      exact ⟨k, r, h3, h4, hne _ _ h5 (fun _ h => by cases h), h6, h7, h8, h9, h10, h11, h12.1, RdL.mono (shut_le hx) (Names.le.refl _) h12.2⟩
    | kept n ds =>
      rw [hH] at he
      exact ⟨RdL.mono (shut_le hx) (Names.le.refl _) he.1, fun c hc => (World.putObj_heap_other (by rintro rfl; exact hdv _ hc)).trans (he.2 c hc)⟩
  inj := h.inj
  le := h.le.trans (shut_le hx)
  gid := h.gid
  given := h.given
theorem leaves_marks {O : Origin} {N : Nat} {S : St} {β : Names} {a : Act} {fn : Func} {R : Ending → World → Prop} {n : Nat} {F : Fence} {P : Program} (ho : ∀ b, O.w.heap.size ≤ b → ¬ O.foot b) : ∀ (bs : List Nat) (E : Env), Rel O N S E β { a with defers := [] } → bs.Nodup → (∀ b ∈ bs, (O.w.heap.size ≤ b ∧ ∀ k, b ∉ O.dv k) ∧ E.w.heap[b]? = some (.deferred (some []))) →
    (∀ E', Rel O N S E' β { a with defers := [] } → ∃ v, (results fn a.tmps).run P E'.w = .ok v E'.w ∧ R (.returned v) E'.w) → LeavesInM F n P fn a.tmps R (bs.map fun b => { target := .collected b, args := #[] }) .returning E.w
  | [], E, hr, _, _, h => h E hr
  | b :: bs, E, hr, hn, hb, h => by
    obtain ⟨⟨h1, hdv⟩, h2⟩ := hb b (by simp)
    rw [List.nodup_cons] at hn
    refine ⟨by simp, .inl ⟨b, _, rfl, run_takeDeferred h2, ?_⟩⟩
    exact leaves_marks ho bs ⟨E.w.putObj b (.deferred none), E.X⟩ ⟨hr.n, Marks.nil, hr.h.shut h1 (ho b h1) hdv h2, fun s => Rd.mono (shut_le h2) (Names.le.refl _) (hr.sl s)⟩ hn.2
      (fun c hc => ⟨(hb c (by simp [hc])).1, (World.putObj_heap_other (by rintro rfl; exact hn.1 hc)).trans (hb c (by simp [hc])).2⟩) h
/-- A call's contract out of the code. -/
theorem calls_of_iwp {P : Program} {f : FuncId} {fn : Func} {c : Code} {args : Array Value} {R : Ending → World → Prop} {O : Origin} {N : Nat} {S : St} {E : Env} {β : Names} {Q : Exit → St → Prop} (hf : P.funcs[f]? = some fn) (hb : fn.body = some c)
    (hO : O.round = none) (ho : ∀ b, O.w.heap.size ≤ b → ¬ O.foot b) (hrel : Rel O N S E β { tmps := args ++ Array.replicate (fn.ntmps - args.size) undef, defers := [] }) (h : IWP P O N c S Q)
    (hq : ∀ e S' E' β' a', Rel O N S' E' β' a' → Q e S' → (e = .normal ∨ e = .ret) ∧ ∃ v, (results fn a'.tmps).run P E'.w = .ok v E'.w ∧ R (.returned v) E'.w) : Calls P f args E.w R := by
  refine callsIn_wide (n := 0) |>.1 (callsIn_of_wp_marks hf hb trivial ?_)
  have h' := h E β _ hrel
  rw [hO] at h'
  refine wpIn_mono h' ?_
  rintro e a' w' ⟨S', E', β', rfl, hr', hQ⟩
  obtain ⟨he, _⟩ := hq e S' E' β' a' hr' hQ
  obtain ⟨bs, hbs, hnd, hall⟩ := hr'.nd
  have hl : LeavesInM Fence.wide 0 P fn a'.tmps R a'.defers .returning E'.w := by
    rw [hbs]
    exact leaves_marks ho bs E' ⟨hr'.n, Marks.nil, hr'.h, hr'.sl⟩ hnd hall fun E'' hr'' => (hq e S' E'' β' _ hr'' hQ).2
  rcases he with rfl | rfl
  · exact hl
  · exact hl

/-- How a function's contract comes out of its code. -/
theorem pure_of_iwp {f : FuncId} {fn : Func} {c : Code} {ds rs : List D} (hf : P.funcs[f]? = some fn) (hb : fn.body = some c) (hN : fn.ntmps = N) (hlen : ds.length ≤ N) (hp : D.refsInL noRef rs = true)
    (h : ∀ O : Origin, O.Plain → IWP P O N c ⟨(List.range ds.length).zip ds, []⟩ (fun e S => (e = .normal ∨ e = .ret) ∧ ResVs P S fn.results.toList rs)) : PureAt P f ds (retD rs) := by
  intro E vs hX hvs
  let O : Origin := ⟨E.w, E.X, fun _ => False, β0, none, fun _ => [], fun _ => 0, fun _ => [], fun _ => (#[], .skip, .skip)⟩
  have hl := hvs.length
  have hrel : Rel O N ⟨(List.range ds.length).zip ds, []⟩ E β0 { tmps := vs.toArray ++ Array.replicate (fn.ntmps - vs.toArray.size) undef, defers := [] } := by
    refine ⟨by simp; omega, Marks.nil, ?_, ?_⟩
    · exact init_hok hX
    · intro s
      have key : ∀ (ds : List D) (vs : List Value) (k : Nat), RdL E β0 vs ds → Rd E β0 (if s < k then undef else vs.getD (s - k) undef) (look .dead s ((List.range' k ds.length).zip ds)) := by
        intro ds
        induction ds with
        | nil => intro vs k _; simp [look]; exact .dead _ _
        | cons d ds ih =>
          intro vs k hv
          cases hv with
          | cons h1 h2 =>
            simp only [List.length_cons, List.range'_succ, List.zip_cons_cons, look_cons]
            by_cases hks : k = s
            · subst hks; simpa using h1
            · rw [if_neg hks]
              have := ih _ (k + 1) h2
              by_cases hlt : s < k
              · simpa [hlt, show s < k + 1 by omega] using this
              · have h3 : ¬ s < k + 1 := by omega
                rw [if_neg hlt]; rw [if_neg h3] at this
                rw [show s - k = (s - (k + 1)) + 1 by omega]
                simpa using this
      have := key ds vs 0 hvs
      rw [List.range_eq_range']
      simp only [Nat.not_lt_zero, if_false, Nat.sub_zero] at this
      have hg : (vs.toArray ++ Array.replicate (fn.ntmps - vs.toArray.size) undef).getD s undef = vs.getD s undef := by
        by_cases hs : s < vs.length
        · simp [hs, Array.getElem?_append]
        · simp [Array.getElem?_append, hs, List.getElem?_eq_none (Nat.le_of_not_lt hs)]
          simp [Array.getElem?_replicate]
          split <;> rfl
      show Rd E β0 (Array.getD _ s undef) _
      rw [hg]
      exact this
  refine calls_of_iwp hf hb rfl (fun _ _ h => h) hrel (h O ⟨rfl, fun _ _ h => h, fun _ => rfl⟩) ?_
  rintro e S' E' β' a' hr' ⟨he, hres⟩
  refine ⟨he, ?_⟩
  have hbelow : Below E.w.heap.size E.w E'.w := ⟨hr'.h.os, hr'.h.tape, hr'.h.output, hr'.h.size, fun k hk => hr'.h.block k hk (fun h => h)⟩
  obtain ⟨vs', h1, h2⟩ := run_results (P := P) hr' hres
  have h3 := h2.bare hp
  have hxx : E'.le ⟨E'.w, E.X⟩ := by
    constructor
    · intro b o v hc hx
      refine ⟨hc, fun hX' => hx ?_⟩
      exact (hr'.h.xold b o (hX b o hX') (fun h => h)).2 hX'
    · intro b c e f hc; exact ⟨c, f, hc, rfl⟩
  have h4 := RdL.mono hxx (Names.le.refl _) h3
  have hrun : (results fn a'.tmps).run P E'.w = .ok (if h : vs'.toArray.size = 1 then vs'.toArray[0] else .tuple vs'.toArray) E'.w := by
    have hF : results fn a'.tmps = (fn.results.mapM (resF a'.tmps)) >>= fun vs => pure (if h : vs.size = 1 then vs[0] else .tuple vs) := by
      unfold results
      congr 2
    rw [hF, ← Array.toArray_toList (xs := fn.results), List.mapM_toArray]
    simp only [Sem.run_bind, Sem.run_map, h1, Result.andThen_ok, Sem.run_pure]
  have hfin : ∃ v, (results fn a'.tmps).run P E'.w = .ok v E'.w ∧ Rd ⟨E'.w, E.X⟩ β0 v (retD rs) := by
    refine ⟨_, hrun, ?_⟩
    cases h4 with
    | nil => simpa [retD] using Rd.tuple (E := ⟨E'.w, E.X⟩) β0 [] [] (.nil _)
    | cons h5 h6 =>
      cases h6 with
      | nil => simpa [retD] using h5
      | cons h7 h8 =>
        simp only [retD, List.size_toArray, List.length_cons]
        rw [dif_neg (by omega)]
        exact .tuple _ _ _ (.cons h5 (.cons h7 h8))
  obtain ⟨v, h5, h6⟩ := hfin
  exact ⟨v, h5, v, rfl, hbelow, h6⟩

end
end Go.IL
