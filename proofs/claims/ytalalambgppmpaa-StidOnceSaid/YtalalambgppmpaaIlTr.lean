/-
  A part of the proof: rules and plain facts. No condition.
-/
import Derived.Test.YtalalambgppmpaaIlSl
set_option linter.all false
open Go.RowKit (Below)
namespace Go.IL
/-! Lists that are owned and cut off. -/
section
variable {P : Program} {O : Origin} {N : Nat} {S S' : St} {o : Oper} {t : Nat} {Q : Exit → St → Prop}
theorem Rel.same {E : Env} {β : Names} {a : Act} (h : Rel O N S E β a) (h1 : ∀ s, S'.get s = S.get s) (h2 : ∀ j, S'.ent j = S.ent j) : Rel O N S' E β a := by
  have h3 : S'.ent = S.ent := funext h2
  exact ⟨h.n, h.nd, h3 ▸ h.h, fun s => (h1 s).symm ▸ h.sl s⟩
theorem Rel.kill {E : Env} {β : Names} {a : Act} (h : Rel O N S E β a) (t : Nat) : Rel O N (S.set t .dead) E β a := by
  refine ⟨h.n, h.nd, h.h, fun s => ?_⟩
  by_cases hst : t = s
  · subst hst; simp only [St.get, St.set, look_cons, if_true]; exact .dead _ _
  · have := h.sl s
    simpa [St.get, St.set, look_cons, hst] using this
theorem ent_setE {S : St} {id : Nat} {e : Ent} : (S.setE id e).ent id = e := by simp [St.ent, entL, St.setE, look_cons]
theorem ent_setE_ne {S : St} {id j : Nat} {e : Ent} (h : j ≠ id) : (S.setE id e).ent j = S.ent j := by simp [St.ent, entL, St.setE, look_cons, Ne.symm h]
/-- A block is told by less than it has. -/
theorem Rel.shrunk {E : Env} {β : Names} {a : Act} (h : Rel O N S E β a) {id : Nat} {e : TypeId} {ds ds' j : List D} (he : S.ent id = .blk e ds) (hd : ds = ds' ++ j) : Rel O N (S.setE id (.blk e ds')) E β a := by
  subst hd
  have hent := h.h.ent id
  rw [he] at hent
  have held : ∀ j, ((S.setE id (.blk e ds')).ent j).held = (S.ent j).held := fun j => by
    by_cases hj : j = id
    · subst hj; rw [ent_setE, he]; rfl
    · rw [ent_setE_ne hj]
  refine ⟨h.n, h.nd, { h.h with ent := fun k => ?_, inj := fun i j k hi hj => h.h.inj i j k (held i ▸ hi) (held j ▸ hj) }, h.sl⟩
  by_cases hk : k = id
  · subst hk
    rw [ent_setE]
    rcases hent with ⟨h1, h2⟩ | ⟨b, vs, sp, h1, h2, h3, h4, h5⟩
    · exact .inl ⟨h1, (List.append_eq_nil_iff.1 h2).1⟩
    · refine .inr ⟨b, vs.take ds'.length, vs.drop ds'.length ++ sp, h1, h2, by rw [← List.append_assoc, List.take_append_drop]; exact h3, h4, ?_⟩
      have := h5.take ds'.length
      rwa [List.take_append_of_le_length (Nat.le_refl _), List.take_length] at this
  · rw [ent_setE_ne hk]; exact h.h.ent k
theorem flat_split {α : Type} (f : Enc0 α) (l : List α) (k : Nat) : D.flat (l.map f.d) = D.flat ((l.take k).map f.d) ++ D.flat ((l.drop k).map f.d) := by
  rw [f.flat_append, List.take_append_drop]
/-- 's[:i]' of a list that is owned. -/
theorem iop_truncO {α : Type} (f : Enc0 α) {T e e' : TypeId} {x y : Operand} {z : Option Value} {bytes id n : Nat} {l r : List α} {k : IntKind} {h : Int} (ho : o.op = .slice T x none (some y) none) (hd : o.dst = some t) (ht : t < N)
    (hu : P.underlying T = some (.slice e)) (hi : TI P e z f.sz bytes) (hx : SV S x (.osl id f.sz n)) (he : S.ent id = .blk e' (D.flat (l.map f.d))) (hn : l.length ≤ n) (hy : SV S y (.int k h)) (hc : cut l 0 h = some r) :
    IOp P O N o S ((S.setE id (.blk e' (D.flat (r.map f.d)))).set t (.osl id f.sz r.length)) := by
  obtain ⟨⟨_, h0, h1⟩, hr'⟩ := cut_e hc
  have hr2 : l.take h.toNat = r := by simpa using hr'
  have hrl : r.length = h.toNat := by rw [← hr2, List.length_take]; omega
  have key : IOp P O N o S (S.set t (.osl id f.sz r.length)) := iop_of hd ht fun E β a hr => by
    have hhi : Bound S (n : Int) (some y) h := ⟨_, hy⟩
    have hlo : Bound S 0 none 0 := rfl
    have h1 := hx.rd hr
    generalize hv : a.eval x = v at h1
    cases h1 with
    | nosl =>
      have hb := run_bounds (P := P) hr (isS := true) hlo hhi (Int.le_refl 0) h0 (by omega) (Nat.le_refl _)
      have e1 : h.toNat = 0 := by omega
      refine ⟨.slice none 0 0, ?_, by rw [hrl, e1]; exact .nosl _ _ _⟩
      simp only [Option.map_none, Option.map_some] at hb
      simp [execOp, ho, hv, Instr.sliceAt, Instr.slice, run_underlying hu, hb, hi.run_size, e1]
    | osl _ _ b _ cap _ hb' hc' hsz c e2 f2 hcap hcs hcm =>
      have hb := run_bounds (P := P) hr (isS := true) hlo hhi (Int.le_refl 0) h0 (by omega) hc'
      simp only [Option.map_none, Option.map_some] at hb
      refine ⟨.slice (some ⟨b, 0, none⟩) h.toNat cap, ?_, by rw [hrl]; exact .osl _ _ b _ cap _ hb' (by omega) hsz c e2 f2 hcap hcs hcm⟩
      simp [execOp, ho, hv, Instr.sliceAt, Instr.slice, run_underlying hu, hb, hi.run_size, Addr.add]
  intro E β a hr next Q hn'
  refine key E β a hr next Q fun E' β' a' hr' => hn' E' β' a' ?_
  exact hr'.shrunk (ds' := D.flat (r.map f.d)) (j := D.flat ((l.drop h.toNat).map f.d)) he (by rw [← hr2]; exact flat_split f l _)
theorem iop_slice_nils {T e : TypeId} {x y : Operand} {z : Option Value} {size bytes : Nat} {k : IntKind} (ho : o.op = .slice T x (some y) none none) (hd : o.dst = some t) (ht : t < N)
    (hu : P.underlying T = some (.slice e)) (hi : TI P e z size bytes) (hx : SV S x .nils) (hy : SV S y (.int k 0)) : IOp P O N o S (S.set t .nils) :=
  iop_of hd ht fun E β a hr => by
    have h1 := hx.rd hr
    generalize hv : a.eval x = v at h1
    cases h1
    refine ⟨.slice none 0 0, ?_, .nils _⟩
    simp [execOp, ho, hv, Instr.sliceAt, Instr.slice, run_underlying hu, hi.run_size, Instr.sliceBounds, Instr.sliceBound, rd_int (hy.rd hr), asIntOf]
theorem iop_slice_nils3 {T e : TypeId} {x y1 y2 y3 : Operand} {z : Option Value} {size bytes : Nat} {k1 k2 k3 : IntKind} (ho : o.op = .slice T x (some y1) (some y2) (some y3)) (hd : o.dst = some t) (ht : t < N)
    (hu : P.underlying T = some (.slice e)) (hi : TI P e z size bytes) (hx : SV S x .nils) (hy1 : SV S y1 (.int k1 0)) (hy2 : SV S y2 (.int k2 0)) (hy3 : SV S y3 (.int k3 0)) : IOp P O N o S (S.set t .nils) :=
  iop_of hd ht fun E β a hr => by
    have h1 := hx.rd hr
    generalize hv : a.eval x = v at h1
    cases h1
    refine ⟨.slice none 0 0, ?_, .nils _⟩
    simp [execOp, ho, hv, Instr.sliceAt, Instr.slice, run_underlying hu, hi.run_size, Instr.sliceBounds, Instr.sliceBound, rd_int (hy1.rd hr), rd_int (hy2.rd hr), rd_int (hy3.rd hr), asIntOf]
theorem splice_pre {A Z C : List D} {off : Nat} (h : A.length = off) : splice (A ++ Z) off C = A ++ (C ++ Z.drop C.length) := by
  subst h
  unfold splice
  rw [List.take_append_of_le_length (Nat.le_refl _), List.take_length, ← List.drop_drop, List.drop_append_of_le_length (Nat.le_refl _), List.drop_length, List.nil_append, List.append_assoc]
theorem iop_clear_nils {T e : TypeId} {x : Operand} (ho : o.op = .call { callee := .builtin .clear, args := #[x], argTypes := #[T] }) (hd : o.dst = none)
    (hu : P.underlying T = some (.slice e)) (hx : SV S x .nils) : IOp P O N o S S := by
  intro E β a hr next Q hn
  have h1 := hx.rd hr
  generalize hv : a.eval x = v at h1
  cases h1
  have : (execOp a.eval o).run P E.w = .ok (.value (.tuple #[])) E.w := by
    simp [execOp, ho, resolve, invoke, builtin, hv, Builtin.clear_, run_underlying hu]
  unfold Oper.wp
  rw [this]
  simp only [Oper.upon, hd, Act.put]
  exact hn E β _ hr
/-- 'clear(s[i:])' of a list that is owned: what is ahead of it stays. -/
theorem ils_clrtail {α : Type} (f : Enc0 α) {ops : Array Oper} {o1 o2 : Oper} {c : List Oper} {T e e' : TypeId} {y : Operand} {z : Value} {bytes id n t1 tx : Nat} {l r : List α} {k : IntKind} {i : Int} (g1 : quiet o1 = true) (g2 : quiet o2 = true)
    (ho1 : o1.op = .slice T (.tmp tx) (some y) none none) (hd1 : o1.dst = some t1) (ht : t1 < N) (ho2 : o2.op = .call { callee := .builtin .clear, args := #[.tmp t1], argTypes := #[T] }) (hd2 : o2.dst = none)
    (hu : P.underlying T = some (.slice e)) (hi : TI P e (some z) f.sz bytes) (hz : z.cells.size = f.sz) (hz1 : z.cells.toList.all Value.oneCell' = true) (hx : S.get tx = .osl id f.sz n) (he : S.ent id = .blk e' (D.flat (l.map f.d))) (hn : l.length = n)
    (hy : ∀ S1 : St, (∀ s, tx ≠ s → S1.get s = S.get s) → SV S1 y (.int k i)) (hc : cut l 0 i = some r) (K : ILS P O N ops c (((S.setE id (.blk e' (D.flat (r.map f.d)))).set tx .dead).set t1 .dead) Q) : ILS P O N ops (o1 :: o2 :: c) S Q := by
  obtain ⟨⟨_, h0, h1⟩, hr'⟩ := cut_e hc
  have hr2 : l.take i.toNat = r := by simpa using hr'
  have hfl := f.flat_len l
  intro E β a hr
  rcases hr.opened hx he (by rw [hfl, hn]) with ⟨hn0, h3⟩ | ⟨cap, hc1, hc2, h3⟩
  · have hl0 : l = [] := List.length_eq_zero_iff.1 (by omega)
    subst hl0
    obtain rfl : i = 0 := by simp at h1; omega
    obtain rfl : r = [] := by simpa using hr2.symm
    refine ils_cons g1 (iop_slice_nils ho1 hd1 ht hu hi (sv (d := .nils) (by simp [St.op, St.get, St.set, look_cons])) (hy _ fun s hs => by simp [St.get, St.set, look_cons, hs])) (ils_cons g2 (iop_clear_nils ho2 hd2 hu (sv (d := .nils) (by simp [St.op, St.get, St.set, look_cons]))) ?_) E β a h3
    intro E' β' a' h4
    refine K E' β' a' (((h4.kill tx).kill t1).same (fun s => ?_) (fun j => ?_))
    · by_cases h6 : t1 = s <;> by_cases h7 : tx = s <;> simp [St.get, St.set, St.setE, look_cons, h6, h7]
    · simp only [St.ent, entL, St.set, St.setE, look_cons]
      split
      · rename_i h5; subst h5; exact he.symm
      · rfl
  · have hyS := hy ((S.setE id (.blk e' (D.flat (l.map f.d) ++ List.replicate ((cap - n) * f.sz) .dead))).set tx (.rsl id f.sz 0 n cap)) fun s hs => by simp [St.get, St.set, St.setE, look_cons, hs]
    have hin : i.toNat ≤ n := by omega
    have hmul : i.toNat * f.sz + (n - i.toNat) * f.sz = n * f.sz := by rw [← Nat.add_mul]; congr 1; omega
    refine ils_cons g1 (iop_slice_rsl (id := id) (off := 0) (len := n) (cap := cap) (sz := f.sz) (l := i) (h := n) (m := cap) (d := .rsl id f.sz (i.toNat * f.sz) (n - i.toNat) (cap - i.toNat)) ho1 hd1 ht hu hi (sv (d := .rsl _ _ _ _ _) (by simp [St.op, St.get, St.set, look_cons])) ⟨_, hyS⟩ rfl rfl (by simp) h0 (by omega) (by omega) (by omega) (by simp))
      (ils_cons g2 (iop_clear_rsl (e' := e') (ds := D.flat (l.map f.d) ++ List.replicate ((cap - n) * f.sz) D.dead) ho2 hd2 hu hi hz hz1 (sv (d := .rsl id f.sz (i.toNat * f.sz) (n - i.toNat) (cap - i.toNat)) (by simp [St.op, St.get, St.set, look_cons])) (by simp [St.ent, entL, St.set, St.setE, look_cons]) (by rw [List.length_append, hfl, hn, hmul]; exact Nat.le_add_right _ _) rfl) ?_) E β a h3
    intro E' β' a' h4
    have h5 := h4.shrunk (id := id) (e := e') (ds' := D.flat (r.map f.d)) (j := List.replicate ((n - i.toNat) * f.sz) .dead ++ (D.flat (l.map f.d) ++ List.replicate ((cap - n) * f.sz) D.dead).drop (n * f.sz)) ent_setE (by
      unfold splice
      rw [List.length_replicate, hmul, List.take_append_of_le_length (by rw [hfl, hn]; exact Nat.mul_le_mul_right _ hin), f.flat_take, hr2, List.append_assoc])
    refine K E' β' a' (((h5.kill tx).kill t1).same (fun s => ?_) (fun j => ?_))
    · by_cases h6 : t1 = s <;> by_cases h7 : tx = s <;> simp [St.get, St.set, St.setE, look_cons, h6, h7]
    · simp only [St.ent, entL, St.set, St.setE, look_cons]; repeat' split <;> rfl
theorem iop_cap_nils {T e : TypeId} {x : Operand} {n : Int} (ho : o.op = .call { callee := .builtin .cap, args := #[x], argTypes := #[T] }) (hd : o.dst = some t) (ht : t < N) (hu : P.underlying T = some (.slice e))
    (hx : SV S x .nils) (hn : (0 : Int) = n) : IOp P O N o S (S.set t (.int .i64 n)) :=
  iop_of hd ht fun E β a hr => ⟨.int .i64 n, by
    subst hn
    have h1 := hx.rd hr
    generalize hv : a.eval x = v at h1
    cases h1
    simp [execOp, ho, resolve, invoke, builtin, Builtin.cap_, run_underlying hu, hv, goInt], .int _ _ _⟩
theorem stepR_scope {b : Frame} {a : Act} {k : List Item} {cs : List Frame} {w : World} {c : Code} : step P (lone (b.atR a (.code (.scope c) :: k)) cs w) = .next (lone (b.atR a (.code c :: .inScope c :: k)) cs w) :=
  step_lone_go (by simp [stepG, stepG.exec, Frame.atR])
theorem stepR_inScope {b : Frame} {a : Act} {k : List Item} {cs : List Frame} {w : World} {c : Code} : step P (lone (b.atR a (.inScope c :: k)) cs w) = .next (lone (b.atR a k) cs w) :=
  step_lone_go (by simp [stepG, stepG.exec, Frame.atR])
theorem wpIn_scope {F : Fence} {n : Nat} {a : Act} {w : World} {R : Exit → Act → World → Prop} {c : Code} (h : c.wpIn F n P (Exit.noGoto R) a w) : (Code.scope c).wpIn F n P R a w := by
  intro b k cs hro hb hr
  have h0 : (lone (b.atR a (.code (.scope c) :: k)) cs w).fenced P F := fenced_calm hb hr rfl
  obtain ⟨e, a₁, w₁, hq, harr⟩ := h b (.inScope c :: k) cs hro hb hr
  cases e with
  | normal => exact ⟨.normal, a₁, w₁, hq, .head h0 stepR_scope (StepsIn.trans harr (.one (fenced_calm hb hr rfl) stepR_inScope))⟩
  | exit id =>
    have hx : exitTo id (.inScope c :: k) = exitTo id k := by simp [exitTo]
    exact ⟨.exit id, a₁, w₁, hq, fun k' hk => .head h0 stepR_scope (harr.1 k' (by rw [hx]; exact hk)),
      fun hr' hk => let ⟨k₁, h1, h2⟩ := harr.2 hr' (by rw [hx]; exact hk); ⟨k₁, h1, .head h0 stepR_scope h2⟩⟩
  | goto l => exact hq.elim
  | ret => exact ⟨_, a₁, w₁, hq, .of_steps (.one h0 stepR_scope) harr⟩
  | panic ch => exact ⟨_, a₁, w₁, hq, .of_steps (.one h0 stepR_scope) harr⟩
  | outgrown => exact ⟨_, a₁, w₁, hq, .of_steps (.one h0 stepR_scope) harr⟩
/-- A scope that is left without a jump. -/
def scopeQ (Q : Exit → St → Prop) : Exit → St → Prop
  | .goto _, _ => False
  | e, S => Q e S
theorem iwp_scope {c : Code} (h : IWP P O N c S (scopeQ Q)) : IWP P O N (.scope c) S Q := by
  intro E β a hr
  refine wpIn_scope (wpIn_mono (h E β a hr) ?_)
  rintro e a' w' ⟨S', E', β', rfl, h2, h3⟩
  cases e with
  | goto l => exact h3.elim
  | _ => exact ⟨S', E', β', rfl, h2, h3⟩
theorem scopeQ_n (h : Q .normal S) : scopeQ Q .normal S := h
theorem scopeQ_r (h : Q .ret S) : scopeQ Q .ret S := h
theorem scopeQ_x {j : Nat} (h : Q (.exit j) S) : scopeQ Q (.exit j) S := h
/-- 'append(nil, make([]T, n)...)'. -/
theorem iop_app_made_nil {T tn e : TypeId} {x y : Operand} {z : Value} {sz k bytes : Nat} {ki kn : IntKind} {n : Int} (id' : Nat)
    (ho : o.op = .call { callee := .builtin .append, args := #[x, y], argTypes := #[T, tn] }) (hd : o.dst = some t) (ht : t < N)
    (hu : P.underlying T = some (.slice e)) (htn : P.underlying tn = some (.int kn)) (hi : TI P e (some z) sz bytes) (hz : z.cells.size = sz) (hsz : 0 < sz)
    (hx : SV S x .nils) (hfr : S.ent id' = .fresh) (hy : SV S y (.int ki n)) (hn : n = (k : Int)) (hk : 0 < k) (hm : k ≤ maxLen) (hb : k * bytes ≤ 140737488355328) :
    IOp P O N o S ((S.setE id' (.blk e (List.replicate (k * sz) .dead))).set t (.osl id' sz k)) := by
  intro E β a hr next Q hnx
  subst hn
  have h1 := hx.rd hr
  generalize hv : a.eval x = v at h1
  cases h1
  obtain ⟨i, hi1, hi2, hi3, hi4⟩ := hi.at
  have hfre : β id' = none := by have := hr.h.ent id'; rw [hfr] at this; exact this
  have hra := Go.Lib.run_append_nil_zeros (P := P) E.w T tn o.type e i z ki kn hu htn hi1 hi2 k hk (by rw [hi3]; exact hsz) (by simp [maxLen] at hm; omega) (by rw [hi4]; omega)
  have hyv := rd_int (hy.rd hr)
  have hrun : (execOp a.eval o).run P E.w = ((Builtin.append_ #[T, tn] o.type #[a.eval x, a.eval y]).run P E.w).andThen fun v w' => .ok (.value v) w' := by
    simp [execOp, ho, resolve, invoke, builtin]
  unfold Oper.wp
  rw [hrun, hv, hyv, hra]
  simp only [Result.andThen_ok, Oper.upon, hd]
  let C : Array Value := Builtin.zeroCells z.cells k ++ Builtin.zeroCells z.cells (grownCap E.w k 0 e - k)
  let E' : Env := ⟨E.w.drew.alloc (.cells C e), fun b o => b = E.w.heap.size ∨ E.X b o⟩
  let β' : Names := fun j => if j = id' then some E.w.heap.size else β j
  have hβ : β.le β' := fun j b hj => by
    by_cases hji : j = id'
    · subst hji; rw [hfre] at hj; cases hj
    · simp [β', hji, hj]
  have hs : Step O E E' E.w.heap.size :=
    ⟨rfl, rfl, rfl, by simp [E'], by simp [E'], .inl hr.h.size, fun k hk _ => heap_alloc_old E.w.drew _ hk, fun k o hk => by simp [E', hk], fun _ h => Nat.lt_irrefl _ (heap_lt h)⟩
  have hle : E.le E' := hs.le (fun o v h1 _ => by have := World.block_lt_of_cell? _ _ h1; simp at this) (fun c e f h1 => by have := heap_lt h1; simp at this)
  have hnew : E'.w.heap[E.w.heap.size]? = some (.cells C e (0, 0)) := heap_alloc_new E.w.drew _
  have hts : t < a.tmps.size := hr.n ▸ ht
  refine hnx E' β' _ ⟨by simp [Act.put, hr.n], hr.nd.step hs, ?_, fun s => ?_⟩
  · refine HOk.put hr.h hs hle hβ ?_ ?_ (id := id') (by simp [β']) ?_ (fun _ _ => trivial)
    · intro j hj; left; constructor
      · simp [St.ent, entL, St.setE, St.set, look_cons, Ne.symm hj]
      · simp [β', hj]
    · intro j hj hheld hbj
      have : (S.ent j).held = true := by simpa [St.ent, entL, St.setE, St.set, look_cons, Ne.symm hj] using hheld
      have := hr.h.held_lt this hbj
      omega
    · simp only [St.ent, entL, St.setE, St.set, look_cons, if_true]
      refine ⟨(Builtin.zeroCells z.cells k).toList, (Builtin.zeroCells z.cells (grownCap E.w k 0 e - k)).toList, by rw [hnew]; simp [C], fun o => .inl rfl, ?_⟩
      have := rdl_dead E' β' (Builtin.zeroCells z.cells k).toList
      rwa [show (Builtin.zeroCells z.cells k).toList.length = k * sz by rw [Array.length_toList, size_zeroCells, hz]] at this
  · by_cases hst : t = s
    · subst hst
      simp only [Act.put, St.get, St.set, look_cons, if_true, Array.getD_eq_getD_getElem?, Array.getElem?_setIfInBounds_self, hts, Option.getD_some]
      refine .osl _ _ E.w.heap.size _ (grownCap E.w k 0 e) sz (by simp [β']) (grownCap_ge _ _ _ _) hsz _ _ _ hnew ?_ (grownCap_le_maxLen _ _ _ _ hm)
      have h1 := grownCap_ge E.w k 0 e
      simp only [C, Array.size_append, size_zeroCells, hz]
      rw [← Nat.add_mul]
      exact Nat.mul_le_mul_right _ (by omega)
    · have := Rd.mono hle hβ (hr.sl s)
      simpa [Act.put, St.get, St.set, St.setE, look_cons, hst, Array.getElem?_setIfInBounds_ne] using this
/-- 's[:0]'. -/
theorem iop_trunc0 {T e e' : TypeId} {x y : Operand} {z : Option Value} {bytes id n sz : Nat} {k : IntKind} {ds : List D} (ho : o.op = .slice T x none (some y) none) (hd : o.dst = some t) (ht : t < N)
    (hu : P.underlying T = some (.slice e)) (hi : TI P e z sz bytes) (hx : SV S x (.osl id sz n)) (he : S.ent id = .blk e' ds) (hy : SV S y (.int k 0)) :
    IOp P O N o S ((S.setE id (.blk e' [])).set t (.osl id sz 0)) := by
  have key : IOp P O N o S (S.set t (.osl id sz 0)) := iop_of hd ht fun E β a hr => by
    have hhi : Bound S (n : Int) (some y) 0 := ⟨_, hy⟩
    have hlo : Bound S 0 none 0 := rfl
    have h1 := hx.rd hr
    generalize hv : a.eval x = v at h1
    cases h1 with
    | nosl =>
      have hb := run_bounds (P := P) hr (isS := true) hlo hhi (Int.le_refl 0) (Int.le_refl 0) (by omega) (Nat.le_refl _)
      refine ⟨.slice none 0 0, ?_, .nosl _ _ _⟩
      simp only [Option.map_none, Option.map_some] at hb
      simp [execOp, ho, hv, Instr.sliceAt, Instr.slice, run_underlying hu, hb, hi.run_size]
    | osl _ _ b _ cap _ hb' hc' hsz c e2 f2 hcap hcs hcm =>
      have hb := run_bounds (P := P) hr (isS := true) hlo hhi (Int.le_refl 0) (Int.le_refl 0) (by omega) hc'
      simp only [Option.map_none, Option.map_some] at hb
      refine ⟨.slice (some ⟨b, 0, none⟩) 0 cap, ?_, .osl _ _ b _ cap _ hb' (by omega) hsz c e2 f2 hcap hcs hcm⟩
      simp [execOp, ho, hv, Instr.sliceAt, Instr.slice, run_underlying hu, hb, hi.run_size, Addr.add]
  intro E β a hr next Q hn'
  refine key E β a hr next Q fun E' β' a' hr' => hn' E' β' a' ?_
  exact hr'.shrunk (ds' := []) (j := ds) he rfl
theorem iop_slice_nilsH {T e : TypeId} {x y : Operand} {z : Option Value} {size bytes : Nat} {k : IntKind} (ho : o.op = .slice T x none (some y) none) (hd : o.dst = some t) (ht : t < N)
    (hu : P.underlying T = some (.slice e)) (hi : TI P e z size bytes) (hx : SV S x .nils) (hy : SV S y (.int k 0)) : IOp P O N o S (S.set t .nils) :=
  iop_of hd ht fun E β a hr => by
    have h1 := hx.rd hr
    generalize hv : a.eval x = v at h1
    cases h1
    refine ⟨.slice none 0 0, ?_, .nils _⟩
    simp [execOp, ho, hv, Instr.sliceAt, Instr.slice, run_underlying hu, hi.run_size, Instr.sliceBounds, Instr.sliceBound, rd_int (hy.rd hr), asIntOf]
/-- 'slices.Grow' of nil. -/
def growS {α : Type} (b : Nat) (n : Int) : Option (List α) := if 0 ≤ n ∧ n ≤ 9223372036854775807 ∧ n * (b : Int) ≤ 140737488355328 then some [] else none
theorem growS_e {α : Type} {b : Nat} {n : Int} {r : List α} (h : growS b n = some r) : ∃ k : Nat, n = (k : Int) ∧ k ≤ maxLen ∧ k * b ≤ 140737488355328 ∧ r = [] := by
  unfold growS at h
  split at h
  · rename_i hh
    obtain ⟨h1, h2, h3⟩ := hh
    obtain ⟨k, rfl⟩ : ∃ k : Nat, n = (k : Int) := ⟨n.toNat, by omega⟩
    exact ⟨k, rfl, by unfold maxLen; omega, by have : ((k * b : Nat) : Int) ≤ 140737488355328 := by push_cast; exact h3
                                               omega, (Option.some.inj h).symm⟩
  · cases h
theorem growS_ok {α : Type} {b : Nat} {n : Int} (h0 : 0 ≤ n) (h1 : n ≤ 9223372036854775807) (h2 : n * (b : Int) ≤ 140737488355328) : (growS b n : Option (List α)) = some [] := if_pos ⟨h0, h1, h2⟩
theorem cut_le {α : Type} {l r : List α} {a b : Int} (h : cut l a b = some r) : r.length ≤ l.length := by
  obtain ⟨_, hr⟩ := cut_e h
  rw [← hr, List.length_drop, List.length_take]; omega
/-- A call that is handed nothing and hands back one list: in any order with others. -/
theorem iop_call1 {f : FuncId} {xs : List Operand} {ts : Array TypeId} {ds es : List D} {sz n : Nat} {e : TypeId} (id : Nat) (ho : o.op = .call { callee := .value (.func f), args := xs.toArray, argTypes := ts }) (hd : o.dst = some t) (ht : t < N)
    (hc : Callable P f) (hx : SVs S xs ds) (hp : D.refsInL noRef ds = true) (hfr : S.ent id = .fresh) (hf : FnH P f ds [] (.osl 0 sz n) [(0, .blk e es)]) (hes : D.refsInL noRef es = true) : IOp P O N o S ((S.setE id (.blk e es)).set t (.osl id sz n)) := by
  intro E β a hr next Q hn
  have hrun : (execOp a.eval o).run P E.w = .ok (.enter f (xs.map a.eval).toArray) E.w := by
    simp [execOp, ho, resolve, Deferred.ofValue, Act.eval, invoke, run_callFunc hc]
  have hvc : RdL E β0 (xs.map a.eval) ds := (hx.rd hr).bare hp
  unfold Oper.wp
  rw [hrun]
  simp only [Oper.upon, hd]
  have hno : ∀ b, ¬ footB β0 [] b := fun b ⟨i, h1, h2⟩ => by cases h2
  have hcall : HOk ⟨E.w, E.X, footB β0 [], β0, none, fun _ => [], fun _ => 0, fun _ => [], fun _ => (#[], .skip, .skip)⟩ E β0 (entL []) := {
    os := rfl, tape := rfl, output := rfl, size := Nat.le_refl _, block := fun _ _ _ => rfl, xlt := hr.h.xlt, xold := fun _ _ _ _ => Iff.rfl, le := Env.le.refl _
    gid := fun i b hi => by cases hi
    given := fun _ _ hi => hi
    ent := fun i => by
      show EntAt _ _ _ _ (defE i)
      unfold defE
      split
      · trivial
      · rfl
    inj := fun i j b hi hj h1 h2 => by cases h1 }
  refine (hf E β0 _ hr.h.xlt (fun i b hi => by cases hi) hcall hvc).mono ?_
  rintro ee w' ⟨v, rfl, E', β', rfl, hok, hrd⟩
  have hle : E.le E' := hok.le
  have hfre : β id = none := by have := hr.h.ent id; rw [hfr] at this; exact this
  let βn : Names := fun i => if i = id then β' 0 else β i
  have hβ1 : β.le βn := fun i b hi => by
    by_cases hii : i = id
    · subst hii; rw [hfre] at hi; cases hi
    · simp [βn, hii, hi]
  have hb0 : (⟨E'.w, E'.X⟩ : Env) = E' := rfl
  have he1 := hok.ent 0
  have hee : entL [(0, Ent.blk e es)] 0 = .blk e es := rfl
  rw [hee] at he1
  have hown1 : ∀ b, β' 0 = some b → E.w.heap.size ≤ b := fun b hb => by
    rcases hok.own (j := 0) (by rw [hee]; rfl) hb with h | h
    · exact h
    · exact absurd h (hno b)
  have hheld : ∀ j, j ≠ id → (((S.setE id (.blk e es)).set t (.osl id sz n)).ent j) = S.ent j := fun j hj => by simp [St.ent, entL, St.setE, St.set, look_cons, Ne.symm hj]
  have hself : ((S.setE id (.blk e es)).set t (.osl id sz n)).ent id = .blk e es := by simp [St.ent, entL, St.setE, St.set, look_cons]
  refine hn E' βn _ ⟨by simp [Act.put, hr.n], hr.nd.mono (fun b hx => (hok.block b (heap_lt hx) (hno b)).trans hx), ?_, fun s => ?_⟩
  · exact {
      os := hok.os.trans hr.h.os, tape := hok.tape.trans hr.h.tape, output := hok.output.trans hr.h.output, size := Nat.le_trans hr.h.size hok.size
      block := fun j hj hf => (hok.block j (Nat.lt_of_lt_of_le hj hr.h.size) (hno j)).trans (hr.h.block j hj hf)
      xlt := hok.xlt
      xold := fun b o hb hf => (hok.xold b o (Nat.lt_of_lt_of_le hb hr.h.size) (hno b)).trans (hr.h.xold b o hb hf)
      le := hr.h.le.trans hle
      gid := hr.h.gid
      given := fun i b hi => hβ1 i b (hr.h.given i b hi)
      ent := fun i => by
        by_cases hi : i = id
        · subst hi
          rw [hself]
          rcases he1 with ⟨g1, g2⟩ | ⟨b, ws, sp, g1, g2, g3, g4, g5⟩
          · exact .inl ⟨by simp [βn, g1], g2⟩
          · exact .inr ⟨b, ws, sp, by simp [βn, g1], .inl (Nat.le_trans hr.h.size (hown1 b g1)), g3, g4, RdL.mono (Env.le.refl _) (fun _ _ h => by cases h) (g5.bare hes)⟩
        · rw [hheld i hi]
          have he := hr.h.ent i
          have hbn : βn i = β i := by simp [βn, hi]
          have hnb : ∀ b, (S.ent i).held = true → β i = some b → E'.w.heap[b]? = E.w.heap[b]? ∧ ∀ o, (E'.X b o ↔ E.X b o) := fun b hhe hb => ⟨hok.block b (hr.h.lt hhe hb) (hno b), fun o => hok.xold b o (hr.h.lt hhe hb) (hno b)⟩
          cases hE : S.ent i with
          | none => trivial
          | fresh => rw [hE] at he; exact hbn.trans he
          | blk e es =>
            rw [hE] at he
            rcases he with ⟨g1, g2⟩ | ⟨b, ws, sp, g1, g2, g3, g4, g5⟩
            · exact .inl ⟨hbn.trans g1, g2⟩
            · obtain ⟨f2, f3⟩ := hnb b (by rw [hE]; rfl) g1
              exact .inr ⟨b, ws, sp, hbn.trans g1, g2, f2.trans g3, fun o => (f3 o).2 (g4 o), RdL.mono hle hβ1 g5⟩
          | tail e sz n =>
            rw [hE] at he
            rcases he with ⟨g1, g2⟩ | ⟨b, c, g1, g2, g3, g4⟩
            · exact .inl ⟨hbn.trans g1, g2⟩
            · obtain ⟨f2, f3⟩ := hnb b (by rw [hE]; rfl) g1
              exact .inr ⟨b, c, hbn.trans g1, g2, f2.trans g3, fun o ho => (f3 o).2 (g4 o ho)⟩
          | loop lk es st pe =>
            rw [hE] at he
            obtain ⟨b, q, g1, g2, g3, g4, g5, g6, g7, g8, g9, g10⟩ := he
            obtain ⟨f2, f3⟩ := hnb b (by rw [hE]; rfl) g1
            exact ⟨b, q, hbn.trans g1, g2, f2.trans g3, fun o => (f3 o).2 (g4 o), g5, g6, g7, g8, g9, g10.1, RdL.mono hle hβ1 g10.2⟩
          | kept n es =>
            rw [hE] at he
            exact ⟨RdL.mono hle hβ1 he.1, fun c hc => (hok.block c (heap_lt (he.2 c hc)) (hno c)).trans (he.2 c hc)⟩
      inj := fun i j b hi hj hbi hbj => by
        have hmix : ∀ j, j ≠ id → (S.ent j).held = true → βn j = some b → βn id = some b → False := fun j hj h1 h2 h3 => by
          have h4 : β j = some b := by simpa [βn, hj] using h2
          have h5 := hr.h.lt h1 h4
          have h6 := hown1 b (by simpa [βn] using h3)
          omega
        by_cases h1 : i = id
        · by_cases h2 : j = id
          · rw [h1, h2]
          · rw [hheld j h2] at hj; subst h1; exact (hmix j h2 hj hbj hbi).elim
        · by_cases h2 : j = id
          · rw [hheld i h1] at hi; subst h2; exact (hmix i h1 hi hbi hbj).elim
          · rw [hheld i h1] at hi
            rw [hheld j h2] at hj
            exact hr.h.inj i j b hi hj (by simpa [βn, h1] using hbi) (by simpa [βn, h2] using hbj) }
  · have hts : t < a.tmps.size := hr.n ▸ ht
    by_cases hst : t = s
    · subst hst
      have h1 := Rd.renp (ρ := fun _ => id) (p := fun i => i == 0) (β' := βn) (fun i b hid hb => by simp only [beq_iff_eq] at hid; subst hid; simp [βn, hb]) hrd (by simp [D.refsIn])
      simpa [Act.put, St.get, St.set, look_cons, hts, D.ren] using h1
    · have := Rd.mono hle hβ1 (hr.sl s)
      simpa [Act.put, St.get, St.set, St.setE, look_cons, hst, Array.getElem?_setIfInBounds_ne] using this
end
end Go.IL
