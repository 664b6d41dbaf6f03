/-
  A part of the proof: rules and plain facts. No condition.
-/
import Derived.Test.YtkkpkabamlabdaaIlSl
import Derived.Test.YtkkpkabamlabdaaIlS
set_option linter.all false
open Go.RowKit (Below)
namespace Go.IL
/-! Lists that are owned and cut off. -/
section
variable {P : Program} {O : Origin} {N : Nat} {S S' : St} {o : Oper} {t : Nat} {Q : Exit → St → Prop}
theorem Rel.same {E : Env} {β : Names} {a : Act} (h : Rel O N S E β a) (h1 : ∀ s, S'.get s = S.get s) (h2 : ∀ j, S'.ent j = S.ent j) : Rel O N S' E β a := by
  have h3 : S'.ent = S.ent := funext h2
  exact ⟨h.n, h.nd, h3 ▸ h.h, fun s => (h1 s).symm ▸ h.sl s⟩
theorem Rel.kill {E : Env} {β : Names} {a : Act} (h : Rel O N S E β a) (t : Nat) : Rel O N (S.set t .dead) E β a := by
  refine ⟨h.n, h.nd, h.h, fun s => ?_⟩
  by_cases hst : t = s
  · subst hst; simp only [St.get, St.set, look_cons, if_true]; exact .dead _ _
  · have := h.sl s
    simpa [St.get, St.set, look_cons, hst] using this
theorem ent_setE {S : St} {id : Nat} {e : Ent} : (S.setE id e).ent id = e := by simp [St.ent, entL, St.setE, look_cons]
theorem ent_setE_ne {S : St} {id j : Nat} {e : Ent} (h : j ≠ id) : (S.setE id e).ent j = S.ent j := by simp [St.ent, entL, St.setE, look_cons, Ne.symm h]
/-- A block is told by less than it has. -/
theorem Rel.shrunk {E : Env} {β : Names} {a : Act} (h : Rel O N S E β a) {id : Nat} {e : TypeId} {ds ds' j : List D} (he : S.ent id = .blk e ds) (hd : ds = ds' ++ j) : Rel O N (S.setE id (.blk e ds')) E β a := by
  subst hd
  have hent := h.h.ent id
  rw [he] at hent
  have held : ∀ j, ((S.setE id (.blk e ds')).ent j).held = (S.ent j).held := fun j => by
    by_cases hj : j = id
    · subst hj; rw [ent_setE, he]; rfl
    · rw [ent_setE_ne hj]
  refine ⟨h.n, h.nd, { h.h with ent := fun k => ?_, inj := fun i j k hi hj => h.h.inj i j k (held i ▸ hi) (held j ▸ hj) }, h.sl⟩
  by_cases hk : k = id
  · subst hk
    rw [ent_setE]
    rcases hent with ⟨h1, h2⟩ | ⟨b, vs, sp, h1, h2, h3, h4, h5⟩
    · exact .inl ⟨h1, (List.append_eq_nil_iff.1 h2).1⟩
    · refine .inr ⟨b, vs.take ds'.length, vs.drop ds'.length ++ sp, h1, h2, by rw [← List.append_assoc, List.take_append_drop]; exact h3, h4, ?_⟩
      have := h5.take ds'.length
      rwa [List.take_append_of_le_length (Nat.le_refl _), List.take_length] at this
  · rw [ent_setE_ne hk]; exact h.h.ent k
theorem flat_split {α : Type} (f : Enc0 α) (l : List α) (k : Nat) : D.flat (l.map f.d) = D.flat ((l.take k).map f.d) ++ D.flat ((l.drop k).map f.d) := by
  rw [f.flat_append, List.take_append_drop]
/-- 's[:i]' of a list that is owned. -/
theorem iop_truncO {α : Type} (f : Enc0 α) {T e e' : TypeId} {x y : Operand} {z : Option Value} {bytes id n : Nat} {l r : List α} {k : IntKind} {h : Int} (ho : o.op = .slice T x none (some y) none) (hd : o.dst = some t) (ht : t < N)
    (hu : P.underlying T = some (.slice e)) (hi : TI P e z f.sz bytes) (hx : SV S x (.osl id f.sz n)) (he : S.ent id = .blk e' (D.flat (l.map f.d))) (hn : l.length ≤ n) (hy : SV S y (.int k h)) (hc : cut l 0 h = some r) :
    IOp P O N o S ((S.setE id (.blk e' (D.flat (r.map f.d)))).set t (.osl id f.sz r.length)) := by
  obtain ⟨⟨_, h0, h1⟩, hr'⟩ := cut_e hc
  have hr2 : l.take h.toNat = r := by simpa using hr'
  have hrl : r.length = h.toNat := by rw [← hr2, List.length_take]; omega
  have key : IOp P O N o S (S.set t (.osl id f.sz r.length)) := iop_of hd ht fun E β a hr => by
    have hhi : Bound S (n : Int) (some y) h := ⟨_, hy⟩
    have hlo : Bound S 0 none 0 := rfl
    have h1 := hx.rd hr
    generalize hv : a.eval x = v at h1
    cases h1 with
    | nosl =>
      have hb := run_bounds (P := P) hr (isS := true) hlo hhi (Int.le_refl 0) h0 (by omega) (Nat.le_refl _)
      have e1 : h.toNat = 0 := by omega
      refine ⟨.slice none 0 0, ?_, by rw [hrl, e1]; exact .nosl _ _ _⟩
      simp only [Option.map_none, Option.map_some] at hb
      simp [execOp, ho, hv, Instr.sliceAt, Instr.slice, run_underlying hu, hb, hi.run_size, e1]
    | osl _ _ b _ cap _ hb' hc' hsz c e2 f2 hcap hcs hcm =>
      have hb := run_bounds (P := P) hr (isS := true) hlo hhi (Int.le_refl 0) h0 (by omega) hc'
      simp only [Option.map_none, Option.map_some] at hb
      refine ⟨.slice (some ⟨b, 0, none⟩) h.toNat cap, ?_, by rw [hrl]; exact .osl _ _ b _ cap _ hb' (by omega) hsz c e2 f2 hcap hcs hcm⟩
      simp [execOp, ho, hv, Instr.sliceAt, Instr.slice, run_underlying hu, hb, hi.run_size, Addr.add]
  intro E β a hr next Q hn'
  refine key E β a hr next Q fun E' β' a' hr' => hn' E' β' a' ?_
  exact hr'.shrunk (ds' := D.flat (r.map f.d)) (j := D.flat ((l.drop h.toNat).map f.d)) he (by rw [← hr2]; exact flat_split f l _)
theorem iop_slice_nils {T e : TypeId} {x y : Operand} {z : Option Value} {size bytes : Nat} {k : IntKind} (ho : o.op = .slice T x (some y) none none) (hd : o.dst = some t) (ht : t < N)
    (hu : P.underlying T = some (.slice e)) (hi : TI P e z size bytes) (hx : SV S x .nils) (hy : SV S y (.int k 0)) : IOp P O N o S (S.set t .nils) :=
  iop_of hd ht fun E β a hr => by
    have h1 := hx.rd hr
    generalize hv : a.eval x = v at h1
    cases h1
    refine ⟨.slice none 0 0, ?_, .nils _⟩
    simp [execOp, ho, hv, Instr.sliceAt, Instr.slice, run_underlying hu, hi.run_size, Instr.sliceBounds, Instr.sliceBound, rd_int (hy.rd hr), asIntOf]
theorem iop_clear_nils {T e : TypeId} {x : Operand} (ho : o.op = .call { callee := .builtin .clear, args := #[x], argTypes := #[T] }) (hd : o.dst = none)
    (hu : P.underlying T = some (.slice e)) (hx : SV S x .nils) : IOp P O N o S S := by
  intro E β a hr next Q hn
  have h1 := hx.rd hr
  generalize hv : a.eval x = v at h1
  cases h1
  have : (execOp a.eval o).run P E.w = .ok (.value (.tuple #[])) E.w := by
    simp [execOp, ho, resolve, invoke, builtin, hv, Builtin.clear_, run_underlying hu]
  unfold Oper.wp
  rw [this]
  simp only [Oper.upon, hd, Act.put]
  exact hn E β _ hr
/-- 'clear(s[i:])' of a list that is owned: what is ahead of it stays. -/
theorem ils_clrtail {α : Type} (f : Enc0 α) {ops : Array Oper} {o1 o2 : Oper} {c : List Oper} {T e e' : TypeId} {y : Operand} {z : Value} {bytes id n t1 tx : Nat} {l r : List α} {k : IntKind} {i : Int} (g1 : quiet o1 = true) (g2 : quiet o2 = true)
    (ho1 : o1.op = .slice T (.tmp tx) (some y) none none) (hd1 : o1.dst = some t1) (ht : t1 < N) (ho2 : o2.op = .call { callee := .builtin .clear, args := #[.tmp t1], argTypes := #[T] }) (hd2 : o2.dst = none)
    (hu : P.underlying T = some (.slice e)) (hi : TI P e (some z) f.sz bytes) (hz : z.cells.size = f.sz) (hz1 : z.cells.toList.all Value.oneCell' = true) (hx : S.get tx = .osl id f.sz n) (he : S.ent id = .blk e' (D.flat (l.map f.d))) (hn : l.length = n)
    (hy : ∀ S1 : St, (∀ s, tx ≠ s → S1.get s = S.get s) → SV S1 y (.int k i)) (hc : cut l 0 i = some r) (K : ILS P O N ops c (((S.setE id (.blk e' (D.flat (r.map f.d)))).set tx .dead).set t1 .dead) Q) : ILS P O N ops (o1 :: o2 :: c) S Q := by
  obtain ⟨⟨_, h0, h1⟩, hr'⟩ := cut_e hc
  have hr2 : l.take i.toNat = r := by simpa using hr'
  have hfl := f.flat_len l
  intro E β a hr
  rcases hr.opened hx he (by rw [hfl, hn]) with ⟨hn0, h3⟩ | ⟨cap, hc1, hc2, h3⟩
  · have hl0 : l = [] := List.length_eq_zero_iff.1 (by omega)
    subst hl0
    obtain rfl : i = 0 := by simp at h1; omega
    obtain rfl : r = [] := by simpa using hr2.symm
    refine ils_cons g1 (iop_slice_nils ho1 hd1 ht hu hi (sv (d := .nils) (by simp [St.op, St.get, St.set, look_cons])) (hy _ fun s hs => by simp [St.get, St.set, look_cons, hs])) (ils_cons g2 (iop_clear_nils ho2 hd2 hu (sv (d := .nils) (by simp [St.op, St.get, St.set, look_cons]))) ?_) E β a h3
    intro E' β' a' h4
    refine K E' β' a' (((h4.kill tx).kill t1).same (fun s => ?_) (fun j => ?_))
    · by_cases h6 : t1 = s <;> by_cases h7 : tx = s <;> simp [St.get, St.set, St.setE, look_cons, h6, h7]
    · simp only [St.ent, entL, St.set, St.setE, look_cons]
      split
      · rename_i h5; subst h5; exact he.symm
      · rfl
  · have hyS := hy ((S.setE id (.blk e' (D.flat (l.map f.d) ++ List.replicate ((cap - n) * f.sz) .dead))).set tx (.rsl id f.sz 0 n cap)) fun s hs => by simp [St.get, St.set, St.setE, look_cons, hs]
    have hin : i.toNat ≤ n := by omega
    have hmul : i.toNat * f.sz + (n - i.toNat) * f.sz = n * f.sz := by rw [← Nat.add_mul]; congr 1; omega
    refine ils_cons g1 (iop_slice_rsl (id := id) (off := 0) (len := n) (cap := cap) (sz := f.sz) (l := i) (h := n) (m := cap) (d := .rsl id f.sz (i.toNat * f.sz) (n - i.toNat) (cap - i.toNat)) ho1 hd1 ht hu hi (sv (d := .rsl _ _ _ _ _) (by simp [St.op, St.get, St.set, look_cons])) ⟨_, hyS⟩ rfl rfl (by simp) h0 (by omega) (by omega) (by omega) (by simp))
      (ils_cons g2 (iop_clear_rsl (e' := e') (ds := D.flat (l.map f.d) ++ List.replicate ((cap - n) * f.sz) D.dead) ho2 hd2 hu hi hz hz1 (sv (d := .rsl id f.sz (i.toNat * f.sz) (n - i.toNat) (cap - i.toNat)) (by simp [St.op, St.get, St.set, look_cons])) (by simp [St.ent, entL, St.set, St.setE, look_cons]) (by rw [List.length_append, hfl, hn, hmul]; exact Nat.le_add_right _ _) rfl) ?_) E β a h3
    intro E' β' a' h4
    have h5 := h4.shrunk (id := id) (e := e') (ds' := D.flat (r.map f.d)) (j := List.replicate ((n - i.toNat) * f.sz) .dead ++ (D.flat (l.map f.d) ++ List.replicate ((cap - n) * f.sz) D.dead).drop (n * f.sz)) ent_setE (by
      unfold splice
      rw [List.length_replicate, hmul, List.take_append_of_le_length (by rw [hfl, hn]; exact Nat.mul_le_mul_right _ hin), f.flat_take, hr2, List.append_assoc])
    refine K E' β' a' (((h5.kill tx).kill t1).same (fun s => ?_) (fun j => ?_))
    · by_cases h6 : t1 = s <;> by_cases h7 : tx = s <;> simp [St.get, St.set, St.setE, look_cons, h6, h7]
    · simp only [St.ent, entL, St.set, St.setE, look_cons]; repeat' split <;> rfl
theorem cut_le {α : Type} {l r : List α} {a b : Int} (h : cut l a b = some r) : r.length ≤ l.length := by
  obtain ⟨_, hr⟩ := cut_e h
  rw [← hr, List.length_drop, List.length_take]; omega
end
end Go.IL
open Go.RowKit (Below)
namespace Go.IL
/-! Calls that are handed memory, in any order with others. -/
section
variable {P : Program} {O : Origin} {N : Nat} {S S' : St} {o : Oper} {t : Nat} {Q : Exit → St → Prop}
structure HandM (S : St) (k : Nat) (A : List Nat) (H0 : List (Nat × Ent)) : Prop where
  nd : A.Nodup
  cov : A.all (fun i => (H0.map fun x => sig k A x.1).contains i) = true
  ents : ∀ x ∈ H0, givenB A x.1 = true ∧ x.2.held = true ∧ S.ent (sig k A x.1) = x.2.ren (sig k A) ∧ x.2.refsIn (givenB A) = true
end
end Go.IL
namespace Go.IL
section
variable {P : Program} {O : Origin} {N : Nat} {S S' : St} {o : Oper} {t : Nat} {Q : Exit → St → Prop}

/-! Comparison of structs and arrays, nested ones too. -/
def partD (P : Program) (T : TypeId) (ds : List D) (off : Nat) : Option D :=
  match P.underlying T, P.info? T with
  | some _, some i => if off + i.size ≤ ds.length ∧ 0 < i.size then some (D.load (aggOf P T) i.size (ds.drop off)) else none
  | _, _ => none
theorem run_partD {T : TypeId} {cs : List D} {off : Nat} {d : D} {E : Env} {β : Names} {vs : List Value} (hp : partD P T cs off = some d) (h : RdL E β vs cs) (w : World) : ∃ v, (part T vs.toArray off).run P w = .ok v w ∧ Rd E β v d := by
  unfold partD at hp
  split at hp
  · rename_i u i hu hi
    split at hp
    · rename_i hc
      cases hp
      exact run_part hu (z := i.zero) (size := i.size) (bytes := i.bytes) (by simp [TI, hi]) h hc.1 hc.2 w
    · cases hp
  · cases hp
def eqTF (P : Program) (cmp : TypeId → D → D → Option Bool) (ds es : List D) : List Field → Option Bool
  | [] => some true
  | f :: fs =>
    if f.name = "_" then none else
    match partD P f.type ds f.offset, partD P f.type es f.offset with
    | some d, some e => match cmp f.type d e with
      | some b => (eqTF P cmp ds es fs).map (b && ·)
      | none => none
    | _, _ => none
def eqTA (P : Program) (cmp : D → D → Option Bool) (el : TypeId) (sz : Nat) (ds es : List D) : Nat → Nat → Option Bool
  | 0, _ => some true
  | m + 1, i =>
    match partD P el ds (i * sz), partD P el es (i * sz) with
    | some d, some e => match cmp d e with
      | some b => (eqTA P cmp el sz ds es m (i + 1)).map (b && ·)
      | none => none
    | _, _ => none
def eqT (P : Program) : Nat → TypeId → D → D → Option Bool
  | 0, _, _, _ => none
  | k + 1, t, d, e =>
    match P.underlying t, d, e with
    | some (.struct fs), .agg ds, .agg es => if P.stoodInHeld t then none else eqTF P (eqT P k) ds es fs.toList
    | some (.array n el), .agg ds, .agg es => match P.info? el with
      | some i => eqTA P (eqT P k el) el i.size ds es n 0
      | none => none
    | u, d, e => eqCell u d e
theorem run_eqTF {w : World} {E : Env} {β β' : Names} {cmp : TypeId → D → D → Option Bool} {m : Nat} (hc : ∀ {t d e b x y}, cmp t d e = some b → Rd E β x d → Rd E β' y e → (Op.equalIn m t x y).run P w = .ok b w)
    {xs ys : List Value} {ds es : List D} (hx : RdL E β xs ds) (hy : RdL E β' ys es) : ∀ (fs : List Field) {b : Bool}, eqTF P cmp ds es fs = some b → (Op.eqFields m xs.toArray ys.toArray fs).run P w = .ok b w
  | [], b, h => by simp only [eqTF, Option.some.injEq] at h; subst h; simp [Op.eqFields]
  | f :: fs, b, h => by
    unfold eqTF at h
    split at h
    · cases h
    · rename_i hn
      split at h
      · rename_i d e hd he
        split at h
        · rename_i b1 hb1
          simp only [Option.map_eq_some_iff] at h
          obtain ⟨b2, h2, rfl⟩ := h
          obtain ⟨v1, p1, r1⟩ := run_partD hd hx w
          obtain ⟨v2, p2, r2⟩ := run_partD he hy w
          have g1 := hc hb1 r1 r2
          have ih := run_eqTF hc hx hy fs h2
          simp only [Op.eqFields, hn, ne_eq, not_false_eq_true, if_true, Sem.run_bind, p1, p2, g1, Result.andThen_ok]
          cases b1
          · simp
          · simpa using ih
        · cases h
      · cases h
def eqElems (m : Nat) (el : TypeId) (sz : Nat) (xs ys : Array Value) : List Nat → Sem Bool
  | [] => pure true
  | i :: is => do
      let a ← part el xs (i * sz)
      let b ← part el ys (i * sz)
      let r ← Op.equalIn m el a b
      if (!r) = true then pure false else eqElems m el sz xs ys is
theorem run_eqTA {w : World} {E : Env} {β β' : Names} {cmp : D → D → Option Bool} {m : Nat} {el : TypeId} {sz : Nat} (hc : ∀ {d e b x y}, cmp d e = some b → Rd E β x d → Rd E β' y e → (Op.equalIn m el x y).run P w = .ok b w)
    {xs ys : List Value} {ds es : List D} (hx : RdL E β xs ds) (hy : RdL E β' ys es) : ∀ (n i : Nat) {b : Bool}, eqTA P cmp el sz ds es n i = some b → (eqElems m el sz xs.toArray ys.toArray (List.range' i n)).run P w = .ok b w
  | 0, i, b, h => by simp only [eqTA, Option.some.injEq] at h; subst h; simp [eqElems]
  | n + 1, i, b, h => by
    unfold eqTA at h
    split at h
    · rename_i d e hd he
      split at h
      · rename_i b1 hb1
        simp only [Option.map_eq_some_iff] at h
        obtain ⟨b2, h2, rfl⟩ := h
        obtain ⟨v1, p1, r1⟩ := run_partD hd hx w
        obtain ⟨v2, p2, r2⟩ := run_partD he hy w
        have g1 := hc hb1 r1 r2
        have ih := run_eqTA hc hx hy n (i + 1) h2
        rw [List.range'_succ]
        simp only [eqElems, Sem.run_bind, p1, p2, g1, Result.andThen_ok]
        cases b1
        · simp
        · simpa using ih
      · cases h
    · cases h
theorem run_equalIn_arr (w : World) (d : Nat) (t el : TypeId) (n : Nat) (xs ys : Array Value) {i : TypeInfo} (ht : P.underlying t = some (.array n el)) (hi : P.info? el = some i) :
    (Op.equalIn (d + 1) t (.agg xs) (.agg ys)).run P w = (eqElems d el i.size xs ys (List.range' 0 n)).run P w := by
  have hsz : ∀ w, (sizeOf el).run P w = .ok i.size w := fun w => TI.run_size (z := i.zero) (bytes := i.bytes) (by simp [TI, hi]) w
  simp only [Op.equalIn, Sem.run_bind, run_underlying ht, Result.andThen_ok, hsz, Std.Legacy.Range.forIn_eq_forIn_range', Std.Legacy.Range.size, Nat.sub_zero, Nat.add_sub_cancel, Nat.div_one]
  generalize List.range' 0 n = l
  clear ht
  induction l generalizing w with
  | nil => simp [eqElems]
  | cons j l ih =>
    simp only [List.forIn_cons, eqElems, Sem.run_bind, Sem.run_ite]
    generalize (part el xs (j * i.size)).run P w = r1
    cases r1 with
    | ok a w1 =>
      simp only [Result.andThen_ok]
      generalize (part el ys (j * i.size)).run P w1 = r2
      cases r2 with
      | ok b w2 =>
        simp only [Result.andThen_ok]
        generalize (Op.equalIn d el a b).run P w2 = r3
        cases r3 with
        | ok r w3 =>
          cases r
          · simp only [Result.andThen_ok, Bool.not_false, if_true, Sem.run_pure]
          · simp only [Result.andThen_ok, Bool.not_true, Bool.false_eq_true, if_false, Sem.run_pure]
            exact ih w3
        | halt x w3 => simp [Result.andThen]
      | halt x w2 => simp [Result.andThen]
    | halt x w1 => simp [Result.andThen]
theorem run_eqT {w : World} {E : Env} {β β' : Names} (n : Nat) : ∀ (k : Nat) {t : TypeId} {d e : D} {b : Bool} {x y : Value}, eqT P k t d e = some b → Rd E β x d → Rd E β' y e → (Op.equalIn (n + k) t x y).run P w = .ok b w
  | 0, t, d, e, b, x, y, h, _, _ => by cases h
  | k + 1, t, d, e, b, x, y, h, hx, hy => by
    unfold eqT at h
    split at h
    · rename_i fs ds es hu
      split at h
      · cases h
      · rename_i hs
        cases hx with
        | agg _ vs1 _ r1 => cases hy with
          | agg _ vs2 _ r2 =>
            have hf : P.fieldsOf t = fs := by simp [Program.fieldsOf, hu]
            have h3 := run_equalIn_struct (P := P) w (n + k) t vs1.toArray vs2.toArray (by rw [hf]; exact hu) (by simpa using hs)
            rw [hf, run_eqTF (fun h a b => run_eqT n k h a b) r1 r2 fs.toList h] at h3
            exact h3
    · rename_i m el ds es hu
      split at h
      · rename_i i hi
        cases hx with
        | agg _ vs1 _ r1 => cases hy with
          | agg _ vs2 _ r2 =>
            have h3 := run_equalIn_arr (P := P) w (n + k) t el m vs1.toArray vs2.toArray hu hi
            rw [run_eqTA (fun h a b => run_eqT n k h a b) r1 r2 m 0 h] at h3
            exact h3
      · cases h
    · exact (run_eqCell (n + k) h hx hy).1
theorem iop_eqt {xt yt : TypeId} {x y : Operand} {ds es : List D} {b : Bool} (ho : o.op = .binOp .eql xt x y yt) (hd : o.dst = some t) (ht : t < N)
    (hg : P.eqGuardType P.depth xt = false) (hx : SV S x (.agg ds)) (hy : SV S y (.agg es)) (hb : eqT P 9 xt (.agg ds) (.agg es) = some b) : IOp P O N o S (S.set t (.bool b)) :=
  iop_of hd ht fun E β a hr => by
    have h1 := hx.rd hr
    have h2 := hy.rd hr
    have h3 := run_eqT (P := P) (w := E.w) 9991 9 hb h1 h2
    generalize hv1 : a.eval x = v1 at h1 h3
    generalize hv2 : a.eval y = v2 at h2 h3
    cases h1 with
    | agg _ vs1 _ r1 => cases h2 with
      | agg _ vs2 _ r2 =>
        have h4 : (Op.equal xt (.agg vs1.toArray) (.agg vs2.toArray)).run P E.w = .ok b E.w := h3
        exact ⟨.bool b, by simp [execOp, ho, hv1, hv2, eqGuard, hg, binOp, h4], .bool _ _⟩
end
end Go.IL
namespace Go.IL
section
variable {P : Program} {O : Origin} {N : Nat} {S S' : St} {o : Oper} {t : Nat} {Q : Exit → St → Prop}
/-! Short names. -/
theorem lb {a b : Nat} (h : Nat.ble (a + 1) b = true) : a < b := Nat.le_of_ble_eq_true h
theorem svI {x : Operand} {k : IntKind} {n : Int} (h : S.op x = .int k n) : SV S x (.int k n) := sv h
theorem svB {x : Operand} {n : Bool} (h : S.op x = .bool n) : SV S x (.bool n) := sv h
theorem svR {x : Operand} {i j : Nat} (h : S.op x = .ref i j) : SV S x (.ref i j) := sv h
theorem svL {x : Operand} {f : Bool} {l : List D} (h : S.op x = .slice f l) : SV S x (.slice f l) := sv h
theorem svA {x : Operand} (l : List D) (h : S.op x = .agg l) : SV S x (.agg l) := sv h
theorem svcI {x : Operand} {b : Bool} {k : IntKind} {n : Int} (h : S.op x = .cnd b (.int k n)) (hb : b = true) : SV S x (.int k n) := svc h hb
theorem svcB {x : Operand} {b n : Bool} (h : S.op x = .cnd b (.bool n)) (hb : b = true) : SV S x (.bool n) := svc h hb
theorem svcR {x : Operand} {b : Bool} {i j : Nat} (h : S.op x = .cnd b (.ref i j)) (hb : b = true) : SV S x (.ref i j) := svc h hb
theorem svcL {x : Operand} {b : Bool} {f : Bool} {l : List D} (h : S.op x = .cnd b (.slice f l)) (hb : b = true) : SV S x (.slice f l) := svc h hb
theorem svcA {x : Operand} {b : Bool} (l : List D) (h : S.op x = .cnd b (.agg l)) (hb : b = true) : SV S x (.agg l) := svc h hb
theorem mvI {x : Operand} {k : IntKind} {n : Int} (ho : o.op = .move x) (hd : o.dst = some t) (ht : Nat.ble (t + 1) N = true) (hx : S.op x = .int k n) : IOp P O N o S (S.set t (.int k n)) := iop_move ho hd (lb ht) (sv hx)
theorem mvB {x : Operand} {n : Bool} (ho : o.op = .move x) (hd : o.dst = some t) (ht : Nat.ble (t + 1) N = true) (hx : S.op x = .bool n) : IOp P O N o S (S.set t (.bool n)) := iop_move ho hd (lb ht) (sv hx)
theorem mvR {x : Operand} {i j : Nat} (ho : o.op = .move x) (hd : o.dst = some t) (ht : Nat.ble (t + 1) N = true) (hx : S.op x = .ref i j) : IOp P O N o S (S.set t (.ref i j)) := iop_move ho hd (lb ht) (sv hx)
theorem mvL {x : Operand} {f : Bool} {l : List D} (ho : o.op = .move x) (hd : o.dst = some t) (ht : Nat.ble (t + 1) N = true) (hx : S.op x = .slice f l) : IOp P O N o S (S.set t (.slice f l)) := iop_move ho hd (lb ht) (sv hx)
theorem asI {x : Operand} {k : IntKind} {n : Int} (ho : o.op = .assign x) (hd : o.dst = some t) (ht : Nat.ble (t + 1) N = true) (hx : S.op x = .int k n) : IOp P O N o S (S.set t (.int k n)) := iop_assign ho hd (lb ht) (sv hx)
theorem asB {x : Operand} {n : Bool} (ho : o.op = .assign x) (hd : o.dst = some t) (ht : Nat.ble (t + 1) N = true) (hx : S.op x = .bool n) : IOp P O N o S (S.set t (.bool n)) := iop_assign ho hd (lb ht) (sv hx)
def LA (P : Program) (T : TypeId) (u : TypeDesc) (z : Option Value) (size bytes : Nat) (g : Bool) : Prop := P.underlying T = some u ∧ aggOf P T = g ∧ TI P T z size bytes ∧ 0 < size
theorem LA.mk {T : TypeId} {u : TypeDesc} {z : Option Value} {size bytes : Nat} {g : Bool} (h1 : P.underlying T = some u) (h2 : aggOf P T = g) (h3 : TI P T z size bytes) (h4 : 0 < size) : LA P T u z size bytes g := ⟨h1, h2, h3, h4⟩
theorem lra {T : TypeId} {x : Operand} {u : TypeDesc} {z : Option Value} {size bytes : Nat} {id off : Nat} {e : TypeId} {ds : List D} (cs : List D) (l : LA P T u z size bytes true) (ho : o.op = .load T x) (hd : o.dst = some t) (ht : Nat.ble (t + 1) N = true)
    (hx : S.op x = .ref id off) (he : S.ent id = .blk e ds) (hn : off + size ≤ ds.length) (hdd : (ds.drop off).take size = cs) : IOp P O N o S (S.set t (.agg cs)) := iop_load_ra ho hd (lb ht) l.1 l.2.1 l.2.2.1 l.2.2.2 (sv hx) he hn hdd
theorem lrL {T : TypeId} {x : Operand} {u : TypeDesc} {z : Option Value} {size bytes : Nat} {id off : Nat} {e : TypeId} {ds r : List D} {f : Bool} {m : List D} (l : LA P T u z size bytes false) (ho : o.op = .load T x) (hd : o.dst = some t) (ht : Nat.ble (t + 1) N = true)
    (hx : S.op x = .ref id off) (he : S.ent id = .blk e ds) (hn : off + size ≤ ds.length) (hdd : ds.drop off = .slice f m :: r) : IOp P O N o S (S.set t (.slice f m)) := iop_load_rs ho hd (lb ht) l.1 l.2.1 l.2.2.1 l.2.2.2 (sv hx) he hn hdd
theorem rva {x : Nat} {T : TypeId} {id off : Nat} {e : TypeId} {ds cs : List D} {u : TypeDesc} {z : Option Value} {size bytes : Nat} (l : LA P T u z size bytes true) (hx : S.get x = .ref id off) (he : S.ent id = .blk e ds)
    (hn : off + size ≤ ds.length) (hd : (ds.drop off).take size = cs) : ResV P S (.cell x T) (.agg cs) := resv_a hx he l.1 l.2.1 l.2.2.1 l.2.2.2 hn hd
theorem stA {T : TypeId} {x y : Operand} {z : Option Value} {size bytes : Nat} {id off : Nat} {e : TypeId} {ds : List D} (c ds' : List D) (hi : TI P T z size bytes) (ho : o.op = .store T x y) (hd : o.dst = none)
    (hx : S.op x = .ref id off) (he : S.ent id = .blk e ds) (hy : S.op y = .agg c) (hb : (D.agg c).boxable = true) (hsz : (D.agg c).cells.length = size) (h1 : (D.agg c).cells.all D.one = true)
    (hn : off + size ≤ ds.length) (hds : splice ds off (D.agg c).cells = ds') : IOp P O N o S (S.setE id (.blk e ds')) := iop_store ho hd hi (sv hx) he (sv hy) hb hsz h1 hn hds
theorem faR {T : TypeId} {x : Operand} {i : Nat} {fs : Array Field} {F : Field} {z : Option Value} {size bytes : Nat} {id off : Nat} (off' : Nat) (ho : o.op = .fieldAddr T x i) (hd : o.dst = some t) (ht : Nat.ble (t + 1) N = true)
    (hu : P.underlying T = some (.struct fs)) (hf : fs[i]? = some F) (hi : TI P F.type z size bytes) (hs : 0 < size) (hx : S.op x = .ref id off) (ho' : off + F.offset = off') : IOp P O N o S (S.set t (.ref id off')) :=
  iop_fieldAddr_ref ho hd (lb ht) hu hf hi hs (sv hx) ho'
theorem svaI {n : Node} {S0 : St} {s : Nat} {k : IntKind} {m : Int} (hA : Agree n S S0) (hm : n.rs.elem s = true) (h : S0.get s = .int k m) : SV S (.tmp s) (.int k m) := sv (agr hA hm h)
theorem svaB {n : Node} {S0 : St} {s : Nat} {m : Bool} (hA : Agree n S S0) (hm : n.rs.elem s = true) (h : S0.get s = .bool m) : SV S (.tmp s) (.bool m) := sv (agr hA hm h)
theorem svaR {n : Node} {S0 : St} {s i j : Nat} (hA : Agree n S S0) (hm : n.rs.elem s = true) (h : S0.get s = .ref i j) : SV S (.tmp s) (.ref i j) := sv (agr hA hm h)
theorem svaL {n : Node} {S0 : St} {s : Nat} {f : Bool} {l : List D} (hA : Agree n S S0) (hm : n.rs.elem s = true) (h : S0.get s = .slice f l) : SV S (.tmp s) (.slice f l) := sv (agr hA hm h)
theorem svaA {n : Node} {S0 : St} {s : Nat} (l : List D) (hA : Agree n S S0) (hm : n.rs.elem s = true) (h : S0.get s = .agg l) : SV S (.tmp s) (.agg l) := sv (agr hA hm h)
theorem AllW.s {ρ : Nat → Nat} {t : Nat} {d : D} {l : List (Nat × D)} (h : S.get t = d.ren ρ) (hr : d.refsIn S'.okn = true) (k : AllW (SlW S S' ρ) l) : AllW (SlW S S' ρ) ((t, d) :: l) := .cons (.same h hr) k
theorem AllW.sames {ρ : Nat → Nat} : ∀ {l : List (Nat × D)}, l.map (fun p => S.get p.1) = l.map (fun p => p.2.ren ρ) → (l.all fun p => p.2.refsIn S'.okn) = true → AllW (SlW S S' ρ) l
  | [], _, _ => .nil
  | (t, d) :: l, h, hr => by
    simp only [List.map_cons, List.cons.injEq] at h
    simp only [List.all_cons, Bool.and_eq_true] at hr
    exact .cons (.same h.1 hr.1) (AllW.sames h.2 hr.2)
end
theorem SubL.k {d : D} {ds ds' : List D} (t : SubL ds ds') : SubL (d :: ds) (d :: ds') := .cons (.refl d) t
theorem SubL.k4 {a b c d : D} {ds ds' : List D} (t : SubL ds ds') : SubL (a :: b :: c :: d :: ds) (a :: b :: c :: d :: ds') := .k (.k (.k (.k t)))
theorem FDL.k {S : St} {d : D} {ds ds' : List D} (t : FDL S ds ds') : FDL S (d :: ds) (d :: ds') := .cons (.refl d) t
theorem FDL.k4 {S : St} {a b c d : D} {ds ds' : List D} (t : FDL S ds ds') : FDL S (a :: b :: c :: d :: ds) (a :: b :: c :: d :: ds') := .k (.k (.k (.k t)))
theorem SubL.all : ∀ (l : List D), SubL l l
  | [] => .nil
  | d :: l => .cons (.refl d) (SubL.all l)
theorem FDL.all {S : St} (l : List D) : FDL S l l := fdl_refl l
end Go.IL
set_option linter.unusedSimpArgs false
set_option linter.unusedVariables false
open Go Go.IL
namespace Go.Fn
structure T_anon23 where
  c0 : Int
  c1 : Int
  deriving DecidableEq, Inhabited
structure T_anon43 where
  c0 : Int
  c1 : Int
  c2 : Int
  deriving DecidableEq, Inhabited
def math_IsNaN (a0 : Nat) : Option Bool :=
  bnd (fCmp .neq a0 a0) fun x1 =>
  some x1

def math_Abs (a0 : Nat) : Option Nat :=
  bno (fbits a0) fun x1 =>
  bnd (anotI .u64 x1 9223372036854775808) fun x2 =>
  bnd (fcan .f64 (x2 : Int).toNat) fun x3 =>
  some x3

def math_IsInf (a0 : Nat) (a1 : Int) : Option Bool :=
  bnd (decide (a1 = 0)) fun x1 =>
  bif x1 then (
    bno (math_Abs a0) fun x3 =>
    bnd (fCmp .gtr x3 9218868437227405311) fun x4 =>
    some x4
  ) else (
    bnd (decide (a1 < 0)) fun x5 =>
    bif x5 then (
      bnd (fNeg a0) fun x7 =>
      bnd (fCmp .gtr x7 9218868437227405311) fun x8 =>
      some x8
    ) else (
      bnd (fCmp .gtr a0 9218868437227405311) fun x9 =>
      some x9
    )
  )

def math_Signbit (a0 : Nat) : Option Bool :=
  bno (fbits a0) fun x1 =>
  bnd (IntKind.wrap .i64 x1) fun x2 =>
  bnd (decide (x2 < 0)) fun x3 =>
  some x3

def gauge_Kind_J0 (a0 : Nat) (v7 : Int) : Option Int :=
  bno (math_Signbit a0) fun x8 =>
  bif (!x8) then (
    some v7
  ) else (
    bnd (IntKind.wrap .i64 (7 - v7)) fun x10 =>
    some x10
  )
def gauge_Kind (a0 : Nat) : Option Int :=
  bno (math_IsNaN a0) fun x11 =>
  bif x11 then (
    some 0
  ) else (
    bno (math_IsInf a0 0) fun x13 =>
    bif x13 then (
      gauge_Kind_J0 a0 6
    ) else (
      bnd (fCmp .neq a0 0) fun x15 =>
      bif x15 then (
        gauge_Kind_J0 a0 5
      ) else (
        gauge_Kind_J0 a0 4
      )
    )
  )

def sennitref27_nan (a0 : Nat) : Option Bool :=
  bnd (fCmp .neq a0 a0) fun x1 =>
  some x1

def gauge_Compare_J0 (a0 : Nat) (a1 : Nat) (v6 : Bool) : Option Int :=
  bif v6 then (
    some (-1)
  ) else (
    bnd (fCmp .gtr a0 a1) fun x8 =>
    bif x8 then (
      some 1
    ) else (
      bno (math_IsNaN a1) fun x10 =>
      bno (gd (x10 == true) (math_IsNaN a0) default) fun x11 =>
      bnd (x10 && (!x11)) fun x12 =>
      bif x12 then (
        some 1
      ) else (
        some 0
      )
    )
  )
def gauge_Compare (a0 : Nat) (a1 : Nat) : Option Int :=
  bnd (fCmp .lss a0 a1) fun x14 =>
  bif x14 then (
    gauge_Compare_J0 a0 a1 x14
  ) else (
    bno (math_IsNaN a0) fun x16 =>
    bno (gd (x16 == true) (math_IsNaN a1) default) fun x17 =>
    bnd (x16 && (!x17)) fun x18 =>
    gauge_Compare_J0 a0 a1 x18
  )

def sennitref27_Compare (a0 : Nat) (a1 : Nat) : Option Int :=
  bno (sennitref27_nan a0) fun x1 =>
  bno (gd (x1 == true) (sennitref27_nan a1) default) fun x2 =>
  bnd (x1 && x2) fun x3 =>
  bif x3 then (
    some 0
  ) else (
    bno (sennitref27_nan a0) fun x5 =>
    bnd (fCmp .lss a0 a1) fun x6 =>
    bnd (x5 || x6) fun x7 =>
    bif x7 then (
      some (-1)
    ) else (
      bno (sennitref27_nan a1) fun x9 =>
      bnd (fCmp .gtr a0 a1) fun x10 =>
      bnd (x9 || x10) fun x11 =>
      bif x11 then (
        some 1
      ) else (
        some 0
      )
    )
  )

def gauge_Rate (a0 : Int) (a1 : Int) : Option Nat :=
  bnd (floatOfInt .f64 a0) fun x1 =>
  bnd (floatOfInt .f64 a1) fun x2 =>
  bnd (fAr .quo x1 x2) fun x3 =>
  some x3

def gauge_Order_1 (a0 : Int) (a1 : Int) (a2 : (List Nat)) : Option Int :=
  bno (gix a2 a1) fun x1 =>
  bno (gix a2 a0) fun x2 =>
  bno (gauge_Compare x1 x2) fun x3 =>
  some x3

def slices_insertionSortCmpFunc_int_h_Order_1_L1 (a0 : Int) (a3 : (List Nat)) (v77 : Int) (kk0 : (List Int) → Int → Option (List Int)) : Nat → (List Int) → Int → Option (List Int)
  | 0, _, _ => none
  | n1 + 1, v177, v178 =>
    bnd (decide (a0 < v178)) fun x202 =>
    bno (gd (x202 == true) (gix v177 v178) default) fun x203 =>
    bno (gd (x202 == true) (v177[(v178 : Int).toNat]?) default) fun x204 =>
    bnd (IntKind.wrap .i64 (v178 - 1)) fun x205 =>
    bno (gd (x202 == true) (gix v177 x205) default) fun x206 =>
    bno (gd (x202 == true) (v177[(x205 : Int).toNat]?) default) fun x207 =>
    bno (gd (x202 == true) (gauge_Order_1 x204 x207 a3) default) fun x208 =>
    bnd (decide (x208 < 0)) fun x209 =>
    bnd (x202 && x209) fun x210 =>
    bif x210 then (
      bnd (IntKind.wrap .i64 (v178 - 1)) fun x212 =>
      bnd (IntKind.wrap .i64 (v178 - 1)) fun x213 =>
      bno (gix v177 x213) fun x214 =>
      bno (v177[(x213 : Int).toNat]?) fun x215 =>
      bno (gix v177 v178) fun x216 =>
      bno (v177[(v178 : Int).toNat]?) fun x217 =>
      bno (gix v177 v178) fun x218 =>
      bno (v177[(v178 : Int).toNat]?) fun x219 =>
      bnd (v177.set ((v178 : Int).toNat) x215) fun x220 =>
      bno (gix x220 x212) fun x221 =>
      bno (x220[(x212 : Int).toNat]?) fun x222 =>
      bnd (x220.set ((x212 : Int).toNat) x217) fun x223 =>
      bnd (IntKind.wrap .i64 (v178 - 1)) fun x224 =>
      (slices_insertionSortCmpFunc_int_h_Order_1_L1 a0 a3 v77 kk0 n1) x223 x224
    ) else (
      bnd (IntKind.wrap .i64 (v77 + 1)) fun x225 =>
      kk0 v177 x225
    )
def slices_insertionSortCmpFunc_int_h_Order_1_L0 (a0 : Int) (a1 : Int) (a3 : (List Nat)) : Nat → (List Int) → Int → Option (List Int)
  | 0, _, _ => none
  | n0 + 1, v76, v77 =>
    bnd (decide (v77 < a1)) fun x152 =>
    bif x152 then (
      slices_insertionSortCmpFunc_int_h_Order_1_L1 a0 a3 v77 (slices_insertionSortCmpFunc_int_h_Order_1_L0 a0 a1 a3 n0) fuel v76 v77
    ) else (
      some v76
    )
def slices_insertionSortCmpFunc_int_h_Order_1 (a0 : Int) (a1 : Int) (a2 : (List Int)) (a3 : (List Nat)) : Option (List Int) :=
  bnd (IntKind.wrap .i64 (a0 + 1)) fun x1 =>
  slices_insertionSortCmpFunc_int_h_Order_1_L0 a0 a1 a3 fuel a2 x1

def slices_swapRangeCmpFunc_int_h_Order_1_L0 (a0 : Int) (a1 : Int) (a2 : Int) : Nat → (List Int) → Int → Option (List Int)
  | 0, _, _ => none
  | n0 + 1, v18, v19 =>
    bnd (decide (v19 < a2)) fun x37 =>
    bif x37 then (
      bnd (IntKind.wrap .i64 (a0 + v19)) fun x39 =>
      bnd (IntKind.wrap .i64 (a1 + v19)) fun x40 =>
      bnd (IntKind.wrap .i64 (a1 + v19)) fun x41 =>
      bno (gix v18 x41) fun x42 =>
      bno (v18[(x41 : Int).toNat]?) fun x43 =>
      bnd (IntKind.wrap .i64 (a0 + v19)) fun x44 =>
      bno (gix v18 x44) fun x45 =>
      bno (v18[(x44 : Int).toNat]?) fun x46 =>
      bno (gix v18 x39) fun x47 =>
      bno (v18[(x39 : Int).toNat]?) fun x48 =>
      bnd (v18.set ((x39 : Int).toNat) x43) fun x49 =>
      bno (gix x49 x40) fun x50 =>
      bno (x49[(x40 : Int).toNat]?) fun x51 =>
      bnd (x49.set ((x40 : Int).toNat) x46) fun x52 =>
      bnd (IntKind.wrap .i64 (v19 + 1)) fun x53 =>
      (slices_swapRangeCmpFunc_int_h_Order_1_L0 a0 a1 a2 n0) x52 x53
    ) else (
      some v18
    )
def slices_swapRangeCmpFunc_int_h_Order_1 (a0 : Int) (a1 : Int) (a2 : Int) (a3 : (List Int)) (a4 : (List Nat)) : Option (List Int) :=
  slices_swapRangeCmpFunc_int_h_Order_1_L0 a0 a1 a2 fuel a3 0

def slices_rotateCmpFunc_int_h_Order_1_L0 (a1 : Int) (a4 : (List Nat)) : Nat → (List Int) → Int → Int → Option (List Int)
  | 0, _, _, _ => none
  | n0 + 1, v17, v18, v19 =>
    bnd (!decide (v18 = v19)) fun x34 =>
    bif x34 then (
      bnd (decide (v19 < v18)) fun x36 =>
      bif x36 then (
        bnd (IntKind.wrap .i64 (a1 - v18)) fun x38 =>
        bno (slices_swapRangeCmpFunc_int_h_Order_1 x38 a1 v19 v17 a4) fun x39 =>
        chk (x39.length = v17.length) <|
        bnd (IntKind.wrap .i64 (v18 - v19)) fun x41 =>
        (slices_rotateCmpFunc_int_h_Order_1_L0 a1 a4 n0) x39 x41 v19
      ) else (
        bnd (IntKind.wrap .i64 (a1 - v18)) fun x42 =>
        bnd (IntKind.wrap .i64 (a1 + v19)) fun x43 =>
        bnd (IntKind.wrap .i64 (x43 - v18)) fun x44 =>
        bno (slices_swapRangeCmpFunc_int_h_Order_1 x42 x44 v18 v17 a4) fun x45 =>
        chk (x45.length = v17.length) <|
        bnd (IntKind.wrap .i64 (v19 - v18)) fun x47 =>
        (slices_rotateCmpFunc_int_h_Order_1_L0 a1 a4 n0) x45 v18 x47
      )
    ) else (
      bnd (IntKind.wrap .i64 (a1 - v18)) fun x48 =>
      bno (slices_swapRangeCmpFunc_int_h_Order_1 x48 a1 v18 v17 a4) fun x49 =>
      chk (x49.length = v17.length) <|
      some x49
    )
def slices_rotateCmpFunc_int_h_Order_1 (a0 : Int) (a1 : Int) (a2 : Int) (a3 : (List Int)) (a4 : (List Nat)) : Option (List Int) :=
  bnd (IntKind.wrap .i64 (a1 - a0)) fun x1 =>
  bnd (IntKind.wrap .i64 (a2 - a1)) fun x2 =>
  slices_rotateCmpFunc_int_h_Order_1_L0 a1 a4 fuel a3 x1 x2

def slices_symMergeCmpFunc_int_h_Order_1_L1 (v18 : Int) : Nat → (List Int) → Int → Option (List Int)
  | 0, _, _ => none
  | n1 + 1, v64, v65 =>
    bnd (IntKind.wrap .i64 (v18 - 1)) fun x82 =>
    bnd (decide (v65 < x82)) fun x83 =>
    bif x83 then (
      bnd (IntKind.wrap .i64 (v65 + 1)) fun x85 =>
      bnd (IntKind.wrap .i64 (v65 + 1)) fun x86 =>
      bno (gix v64 x86) fun x87 =>
      bno (v64[(x86 : Int).toNat]?) fun x88 =>
      bno (gix v64 v65) fun x89 =>
      bno (v64[(v65 : Int).toNat]?) fun x90 =>
      bno (gix v64 v65) fun x91 =>
      bno (v64[(v65 : Int).toNat]?) fun x92 =>
      bnd (v64.set ((v65 : Int).toNat) x88) fun x93 =>
      bno (gix x93 x85) fun x94 =>
      bno (x93[(x85 : Int).toNat]?) fun x95 =>
      bnd (x93.set ((x85 : Int).toNat) x90) fun x96 =>
      bnd (IntKind.wrap .i64 (v65 + 1)) fun x97 =>
      (slices_symMergeCmpFunc_int_h_Order_1_L1 v18 n1) x96 x97
    ) else (
      some v64
    )
def slices_symMergeCmpFunc_int_h_Order_1_L0 (a0 : Int) (a3 : (List Int)) (a4 : (List Nat)) : Nat → Int → Int → Option (List Int)
  | 0, _, _ => none
  | n0 + 1, v18, v19 =>
    bnd (decide (v18 < v19)) fun x34 =>
    bif x34 then (
      bnd (IntKind.wrap .i64 (v18 + v19)) fun x36 =>
      bnd (IntKind.wrap .u64 x36) fun x37 =>
      bno (shrI .u64 x37 1) fun x38 =>
      bnd (IntKind.wrap .i64 x38) fun x39 =>
      bno (gix a3 x39) fun x40 =>
      bno (a3[(x39 : Int).toNat]?) fun x41 =>
      bno (gix a3 a0) fun x42 =>
      bno (a3[(a0 : Int).toNat]?) fun x43 =>
      bno (gauge_Order_1 x41 x43 a4) fun x44 =>
      bnd (decide (x44 < 0)) fun x45 =>
      bif x45 then (
        bnd (IntKind.wrap .i64 (x39 + 1)) fun x47 =>
        (slices_symMergeCmpFunc_int_h_Order_1_L0 a0 a3 a4 n0) x47 v19
      ) else (
        (slices_symMergeCmpFunc_int_h_Order_1_L0 a0 a3 a4 n0) v18 x39
      )
    ) else (
      slices_symMergeCmpFunc_int_h_Order_1_L1 v18 fuel a3 a0
    )
def slices_symMergeCmpFunc_int_h_Order_1_L3 (v115 : Int) : Nat → (List Int) → Int → Option (List Int)
  | 0, _, _ => none
  | n3 + 1, v160, v161 =>
    bnd (decide (v115 < v161)) fun x177 =>
    bif x177 then (
      bnd (IntKind.wrap .i64 (v161 - 1)) fun x179 =>
      bnd (IntKind.wrap .i64 (v161 - 1)) fun x180 =>
      bno (gix v160 x180) fun x181 =>
      bno (v160[(x180 : Int).toNat]?) fun x182 =>
      bno (gix v160 v161) fun x183 =>
      bno (v160[(v161 : Int).toNat]?) fun x184 =>
      bno (gix v160 v161) fun x185 =>
      bno (v160[(v161 : Int).toNat]?) fun x186 =>
      bnd (v160.set ((v161 : Int).toNat) x182) fun x187 =>
      bno (gix x187 x179) fun x188 =>
      bno (x187[(x179 : Int).toNat]?) fun x189 =>
      bnd (x187.set ((x179 : Int).toNat) x184) fun x190 =>
      bnd (IntKind.wrap .i64 (v161 - 1)) fun x191 =>
      (slices_symMergeCmpFunc_int_h_Order_1_L3 v115 n3) x190 x191
    ) else (
      some v160
    )
def slices_symMergeCmpFunc_int_h_Order_1_L2 (a1 : Int) (a3 : (List Int)) (a4 : (List Nat)) : Nat → Int → Int → Option (List Int)
  | 0, _, _ => none
  | n2 + 1, v115, v116 =>
    bnd (decide (v115 < v116)) fun x131 =>
    bif x131 then (
      bnd (IntKind.wrap .i64 (v115 + v116)) fun x133 =>
      bnd (IntKind.wrap .u64 x133) fun x134 =>
      bno (shrI .u64 x134 1) fun x135 =>
      bnd (IntKind.wrap .i64 x135) fun x136 =>
      bno (gix a3 a1) fun x137 =>
      bno (a3[(a1 : Int).toNat]?) fun x138 =>
      bno (gix a3 x136) fun x139 =>
      bno (a3[(x136 : Int).toNat]?) fun x140 =>
      bno (gauge_Order_1 x138 x140 a4) fun x141 =>
      bnd (decide (x141 < 0)) fun x142 =>
      bif (!x142) then (
        bnd (IntKind.wrap .i64 (x136 + 1)) fun x144 =>
        (slices_symMergeCmpFunc_int_h_Order_1_L2 a1 a3 a4 n2) x144 v116
      ) else (
        (slices_symMergeCmpFunc_int_h_Order_1_L2 a1 a3 a4 n2) v115 x136
      )
    ) else (
      slices_symMergeCmpFunc_int_h_Order_1_L3 v115 fuel a3 a1
    )
def slices_symMergeCmpFunc_int_h_Order_1_J7 (rec0 : Int → Int → Int → (List Int) → (List Nat) → Option (List Int)) (a2 : Int) (a4 : (List Nat)) (x195 : Int) (x250 : Int) (v264 : (List Int)) : Option (List Int) :=
  bnd (decide (x195 < x250)) fun x265 =>
  bnd (decide (x250 < a2)) fun x266 =>
  bnd (x265 && x266) fun x267 =>
  bif x267 then (
    bno (rec0 x195 x250 a2 v264 a4) fun x269 =>
    chk (x269.length = v264.length) <|
    some x269
  ) else (
    some v264
  )
def slices_symMergeCmpFunc_int_h_Order_1_J6 (rec0 : Int → Int → Int → (List Int) → (List Nat) → Option (List Int)) (a0 : Int) (a2 : Int) (a4 : (List Nat)) (x195 : Int) (v218 : Int) (x250 : Int) (v257 : (List Int)) : Option (List Int) :=
  bnd (decide (a0 < v218)) fun x271 =>
  bnd (decide (v218 < x195)) fun x272 =>
  bnd (x271 && x272) fun x273 =>
  bif x273 then (
    bno (rec0 a0 v218 x195 v257 a4) fun x275 =>
    chk (x275.length = v257.length) <|
    slices_symMergeCmpFunc_int_h_Order_1_J7 rec0 a2 a4 x195 x250 x275
  ) else (
    slices_symMergeCmpFunc_int_h_Order_1_J7 rec0 a2 a4 x195 x250 v257
  )
def slices_symMergeCmpFunc_int_h_Order_1_L5 (rec0 : Int → Int → Int → (List Int) → (List Nat) → Option (List Int)) (a0 : Int) (a1 : Int) (a2 : Int) (a3 : (List Int)) (a4 : (List Nat)) (x195 : Int) (x196 : Int) (x202 : Int) : Nat → Int → Int → Option (List Int)
  | 0, _, _ => none
  | n5 + 1, v218, v219 =>
    bnd (decide (v218 < v219)) fun x235 =>
    bif x235 then (
      bnd (IntKind.wrap .i64 (v218 + v219)) fun x237 =>
      bnd (IntKind.wrap .u64 x237) fun x238 =>
      bno (shrI .u64 x238 1) fun x239 =>
      bnd (IntKind.wrap .i64 x239) fun x240 =>
      bnd (IntKind.wrap .i64 (x202 - x240)) fun x241 =>
      bno (gix a3 x241) fun x242 =>
      bno (a3[(x241 : Int).toNat]?) fun x243 =>
      bno (gix a3 x240) fun x244 =>
      bno (a3[(x240 : Int).toNat]?) fun x245 =>
      bno (gauge_Order_1 x243 x245 a4) fun x246 =>
      bnd (decide (x246 < 0)) fun x247 =>
      bif (!x247) then (
        bnd (IntKind.wrap .i64 (x240 + 1)) fun x249 =>
        (slices_symMergeCmpFunc_int_h_Order_1_L5 rec0 a0 a1 a2 a3 a4 x195 x196 x202 n5) x249 v219
      ) else (
        (slices_symMergeCmpFunc_int_h_Order_1_L5 rec0 a0 a1 a2 a3 a4 x195 x196 x202 n5) v218 x240
      )
    ) else (
      bnd (IntKind.wrap .i64 (x196 - v218)) fun x250 =>
      bnd (decide (v218 < a1)) fun x277 =>
      bnd (decide (a1 < x250)) fun x278 =>
      bnd (x277 && x278) fun x279 =>
      bif x279 then (
        bno (slices_rotateCmpFunc_int_h_Order_1 v218 a1 x250 a3 a4) fun x281 =>
        chk (x281.length = a3.length) <|
        slices_symMergeCmpFunc_int_h_Order_1_J6 rec0 a0 a2 a4 x195 v218 x250 x281
      ) else (
        slices_symMergeCmpFunc_int_h_Order_1_J6 rec0 a0 a2 a4 x195 v218 x250 a3
      )
    )
def slices_symMergeCmpFunc_int_h_Order_1_J4 (rec0 : Int → Int → Int → (List Int) → (List Nat) → Option (List Int)) (a0 : Int) (a1 : Int) (a2 : Int) (a3 : (List Int)) (a4 : (List Nat)) (x195 : Int) (x196 : Int) (v200 : Int) (v201 : Int) : Option (List Int) :=
  bnd (IntKind.wrap .i64 (x196 - 1)) fun x202 =>
  slices_symMergeCmpFunc_int_h_Order_1_L5 rec0 a0 a1 a2 a3 a4 x195 x196 x202 fuel v200 v201
def slices_symMergeCmpFunc_int_h_Order_1_B (rec0 : Int → Int → Int → (List Int) → (List Nat) → Option (List Int)) (a0 : Int) (a1 : Int) (a2 : Int) (a3 : (List Int)) (a4 : (List Nat)) : Option (List Int) :=
  bnd (IntKind.wrap .i64 (a1 - a0)) fun x1 =>
  bnd (decide (x1 = 1)) fun x2 =>
  bif x2 then (
    slices_symMergeCmpFunc_int_h_Order_1_L0 a0 a3 a4 fuel a1 a2
  ) else (
    bnd (IntKind.wrap .i64 (a2 - a1)) fun x98 =>
    bnd (decide (x98 = 1)) fun x99 =>
    bif x99 then (
      slices_symMergeCmpFunc_int_h_Order_1_L2 a1 a3 a4 fuel a0 a1
    ) else (
      bnd (IntKind.wrap .i64 (a0 + a2)) fun x192 =>
      bnd (IntKind.wrap .u64 x192) fun x193 =>
      bno (shrI .u64 x193 1) fun x194 =>
      bnd (IntKind.wrap .i64 x194) fun x195 =>
      bnd (IntKind.wrap .i64 (x195 + a1)) fun x196 =>
      bnd (decide (x195 < a1)) fun x283 =>
      bif x283 then (
        bnd (IntKind.wrap .i64 (x196 - a2)) fun x285 =>
        slices_symMergeCmpFunc_int_h_Order_1_J4 rec0 a0 a1 a2 a3 a4 x195 x196 x285 x195
      ) else (
        slices_symMergeCmpFunc_int_h_Order_1_J4 rec0 a0 a1 a2 a3 a4 x195 x196 a0 a1
      )
    )
  )
def slices_symMergeCmpFunc_int_h_Order_1 : Nat → Int → Int → Int → (List Int) → (List Nat) → Option (List Int)
  | 0, _, _, _, _, _ => none
  | nr + 1, a0, a1, a2, a3, a4 => slices_symMergeCmpFunc_int_h_Order_1_B (slices_symMergeCmpFunc_int_h_Order_1 nr) a0 a1 a2 a3 a4

def slices_stableCmpFunc_int_h_Order_1_L2 (a0 : Int) (a2 : (List Nat)) (v56 : Int) (kk1 : (List Int) → Int → Option (List Int)) : Nat → (List Int) → Int → Int → Option (List Int)
  | 0, _, _, _ => none
  | n2 + 1, v101, v102, v103 =>
    bnd (decide (v103 ≤ a0)) fun x111 =>
    bif x111 then (
      bnd (IntKind.wrap .i64 (v102 + v56)) fun x113 =>
      bno (slices_symMergeCmpFunc_int_h_Order_1 fuel v102 x113 v103 v101 a2) fun x114 =>
      chk (x114.length = v101.length) <|
      bnd (IntKind.wrap .i64 (2 * v56)) fun x116 =>
      bnd (IntKind.wrap .i64 (v103 + x116)) fun x117 =>
      (slices_stableCmpFunc_int_h_Order_1_L2 a0 a2 v56 kk1 n2) x114 v103 x117
    ) else (
      bnd (IntKind.wrap .i64 (v102 + v56)) fun x118 =>
      bnd (decide (x118 < a0)) fun x119 =>
      bif x119 then (
        bno (slices_symMergeCmpFunc_int_h_Order_1 fuel v102 x118 a0 v101 a2) fun x121 =>
        chk (x121.length = v101.length) <|
        bnd (IntKind.wrap .i64 (v56 * 2)) fun x123 =>
        kk1 x121 x123
      ) else (
        bnd (IntKind.wrap .i64 (v56 * 2)) fun x124 =>
        kk1 v101 x124
      )
    )
def slices_stableCmpFunc_int_h_Order_1_L1 (a0 : Int) (a2 : (List Nat)) : Nat → (List Int) → Int → Option (List Int)
  | 0, _, _ => none
  | n1 + 1, v55, v56 =>
    bnd (decide (v56 < a0)) fun x91 =>
    bif x91 then (
      bnd (IntKind.wrap .i64 (2 * v56)) fun x93 =>
      slices_stableCmpFunc_int_h_Order_1_L2 a0 a2 v56 (slices_stableCmpFunc_int_h_Order_1_L1 a0 a2 n1) fuel v55 0 x93
    ) else (
      some v55
    )
def slices_stableCmpFunc_int_h_Order_1_L0 (a0 : Int) (a2 : (List Nat)) : Nat → (List Int) → Int → Int → Option (List Int)
  | 0, _, _, _ => none
  | n0 + 1, v6, v7, v8 =>
    bnd (decide (v8 ≤ a0)) fun x14 =>
    bif x14 then (
      bno (slices_insertionSortCmpFunc_int_h_Order_1 v7 v8 v6 a2) fun x16 =>
      chk (x16.length = v6.length) <|
      bnd (IntKind.wrap .i64 (v8 + 20)) fun x18 =>
      (slices_stableCmpFunc_int_h_Order_1_L0 a0 a2 n0) x16 v8 x18
    ) else (
      bno (slices_insertionSortCmpFunc_int_h_Order_1 v7 a0 v6 a2) fun x19 =>
      chk (x19.length = v6.length) <|
      slices_stableCmpFunc_int_h_Order_1_L1 a0 a2 fuel x19 20
    )
def slices_stableCmpFunc_int_h_Order_1 (a0 : Int) (a1 : (List Int)) (a2 : (List Nat)) : Option (List Int) :=
  slices_stableCmpFunc_int_h_Order_1_L0 a0 a2 fuel a1 0 20

def slices_SortStableFunc_int_int_h_Order_1 (a0 : (List Int)) (a1 : (List Nat)) : Option (List Int) :=
  bno (slices_stableCmpFunc_int_h_Order_1 (a0.length : Int) a0 a1) fun x1 =>
  chk (x1.length = a0.length) <|
  some x1

def gauge_Order_L0 (a0 : (List Nat)) : Nat → (List Int) → Int → Option (List Int)
  | 0, _, _ => none
  | n0 + 1, v5, v6 =>
    bnd (decide (v6 < (a0.length : Int))) fun x11 =>
    bif x11 then (
      bno (app 8 v5 ([v6] : (List Int))) fun x13 =>
      bnd (IntKind.wrap .i64 (v6 + 1)) fun x14 =>
      (gauge_Order_L0 a0 n0) x13 x14
    ) else (
      bno (slices_SortStableFunc_int_int_h_Order_1 v5 a0) fun x15 =>
      chk (x15.length = v5.length) <|
      some x15
    )
def gauge_Order (a0 : (List Nat)) : Option (List Int) :=
  gauge_Order_L0 a0 fuel ([] : (List Int)) 0

def gauge_Best (a0 : (List Nat)) : Option Int :=
  bno (gauge_Order a0) fun x1 =>
  bnd (decide ((x1.length : Int) = 0)) fun x2 =>
  bno (gd (x2 == false) (gix x1 0) default) fun x3 =>
  bno (gd (x2 == false) (gix a0 x3) default) fun x4 =>
  bno (gd (x2 == false) (math_IsNaN x4) default) fun x5 =>
  bnd (x2 || x5) fun x6 =>
  bif x6 then (
    some (-1)
  ) else (
    bno (gix x1 0) fun x8 =>
    some x8
  )

def sennitref27_Best_L0 (a0 : (List Nat)) : Nat → Int → Int → Option Int
  | 0, _, _ => none
  | n0 + 1, v15, v16 =>
    bnd (decide (v16 < (a0.length : Int))) fun x31 =>
    bif x31 then (
      bno (gix a0 v16) fun x33 =>
      bno (sennitref27_nan x33) fun x34 =>
      bnd (decide (v15 < 0)) fun x35 =>
      bno (gd (((!x34) == true) && (x35 == false)) (gix a0 v16) default) fun x36 =>
      bno (gd (((!x34) == true) && (x35 == false)) (gix a0 v15) default) fun x37 =>
      bno (gd (((!x34) == true) && (x35 == false)) (sennitref27_Compare x36 x37) default) fun x38 =>
      bnd (decide (0 < x38)) fun x39 =>
      bnd (x35 || x39) fun x40 =>
      bnd ((!x34) && x40) fun x41 =>
      bif x41 then (
        bnd (IntKind.wrap .i64 (v16 + 1)) fun x43 =>
        (sennitref27_Best_L0 a0 n0) v16 x43
      ) else (
        bnd (IntKind.wrap .i64 (v16 + 1)) fun x44 =>
        (sennitref27_Best_L0 a0 n0) v15 x44
      )
    ) else (
      some v15
    )
def sennitref27_Best (a0 : (List Nat)) : Option Int :=
  sennitref27_Best_L0 a0 fuel (-1) 0

def sennitref27_Order_L1 (a0 : (List Nat)) (v40 : (List Int)) (v41 : Int) (kk0 : (List Int) → Int → Option (List Int)) : Nat → Int → Option (List Int)
  | 0, _ => none
  | n1 + 1, v93 =>
    bnd (decide (0 < v93)) fun x104 =>
    bno (gd (x104 == true) (gix a0 v41) default) fun x105 =>
    bnd (IntKind.wrap .i64 (v93 - 1)) fun x106 =>
    bno (gd (x104 == true) (gix v40 x106) default) fun x107 =>
    bno (gd (x104 == true) (gix a0 x107) default) fun x108 =>
    bno (gd (x104 == true) (sennitref27_Compare x105 x108) default) fun x109 =>
    bnd (decide (0 < x109)) fun x110 =>
    bnd (x104 && x110) fun x111 =>
    bif x111 then (
      bnd (IntKind.wrap .i64 (v93 - 1)) fun x113 =>
      (sennitref27_Order_L1 a0 v40 v41 kk0 n1) x113
    ) else (
      bno (cut v40 0 v93) fun x114 =>
      bno (app 8 ([] : (List Int)) x114) fun x115 =>
      bno (app 8 x115 ([v41] : (List Int))) fun x116 =>
      bno (cut v40 v93 (v40.length : Int)) fun x117 =>
      bno (app 8 x116 x117) fun x118 =>
      bnd (IntKind.wrap .i64 (v41 + 1)) fun x119 =>
      kk0 x118 x119
    )
def sennitref27_Order_L0 (a0 : (List Nat)) : Nat → (List Int) → Int → Option (List Int)
  | 0, _, _ => none
  | n0 + 1, v40, v41 =>
    bnd (decide (v41 < (a0.length : Int))) fun x81 =>
    bif x81 then (
      sennitref27_Order_L1 a0 v40 v41 (sennitref27_Order_L0 a0 n0) fuel (v40.length : Int)
    ) else (
      some v40
    )
def sennitref27_Order (a0 : (List Nat)) : Option (List Int) :=
  sennitref27_Order_L0 a0 fuel ([] : (List Int)) 0

end Go.Fn
set_option linter.unusedSimpArgs false
set_option linter.unusedVariables false
open Go Go.IL
namespace Go.Fn
structure T_paths_Line where
  Up : Bool
  Dead : Bool
  Bytes : Int
  Ticks : Int
  deriving DecidableEq, Inhabited
def E_paths_Line : Enc T_paths_Line := ⟨⟨fun x => .agg [.bool x.Up, .bool x.Dead, .int .i64 x.Bytes, .int .i64 x.Ticks], 4, by decide, fun _ => ⟨rfl, rfl⟩⟩, fun _ => rfl⟩

structure T_anon24 where
  c0 : T_paths_Line
  c1 : T_paths_Line
  c2 : T_paths_Line
  c3 : T_paths_Line
  deriving DecidableEq, Inhabited
structure T_paths_Bind where
  Stream : Int
  Path : Int
  deriving DecidableEq, Inhabited
def E_paths_Bind : Enc T_paths_Bind := ⟨⟨fun x => .agg [.int .i64 x.Stream, .int .i64 x.Path], 2, by decide, fun _ => ⟨rfl, rfl⟩⟩, fun _ => rfl⟩

structure T_paths_State where
  Lines : T_anon24
  Pinned : Int
  Binds : (List T_paths_Bind)
  deriving DecidableEq, Inhabited
structure T_anon28 where
  c0 : Int
  c1 : Int
  c2 : Int
  deriving DecidableEq, Inhabited
structure T_sennitlaw28_Act where
  Kind : Int
  N : Int
  M : Int
  Path : Int
  deriving DecidableEq, Inhabited
def E_sennitlaw28_Act : Enc T_sennitlaw28_Act := ⟨⟨fun x => .agg [.int .u8 x.Kind, .int .u8 x.N, .int .u8 x.M, .int .u8 x.Path], 4, by decide, fun _ => ⟨rfl, rfl⟩⟩, fun _ => rfl⟩

def paths_New  : Option T_paths_State :=
  some ((⟨(⟨(⟨false, false, 0, 0⟩ : T_paths_Line), (⟨false, false, 0, 0⟩ : T_paths_Line), (⟨false, false, 0, 0⟩ : T_paths_Line), (⟨false, false, 0, 0⟩ : T_paths_Line)⟩ : T_anon24), (-1), []⟩ : T_paths_State))

def slices_Clone_paths_Bind_paths_Bind_h (a0 : (List T_paths_Bind)) : Option (List T_paths_Bind) :=
  bothE a0 (
    some ([] : (List T_paths_Bind))
  ) (
    bno (app 16 ([] : (List T_paths_Bind)) a0) fun x3 =>
    some x3
  )

def paths_State_own_h (a0 : T_paths_State) : Option (Bool × Bool × Int × Int × Bool × Bool × Int × Int × Bool × Bool × Int × Int × Bool × Bool × Int × Int × Int × (List T_paths_Bind)) :=
  bno (slices_Clone_paths_Bind_paths_Bind_h a0.Binds) fun x1 =>
  some (a0.Lines.c0.Up, a0.Lines.c0.Dead, a0.Lines.c0.Bytes, a0.Lines.c0.Ticks, a0.Lines.c1.Up, a0.Lines.c1.Dead, a0.Lines.c1.Bytes, a0.Lines.c1.Ticks, a0.Lines.c2.Up, a0.Lines.c2.Dead, a0.Lines.c2.Bytes, a0.Lines.c2.Ticks, a0.Lines.c3.Up, a0.Lines.c3.Dead, a0.Lines.c3.Bytes, a0.Lines.c3.Ticks, a0.Pinned, x1)

def paths_in (a0 : Int) (a1 : Int) (a2 : Int) : Option Bool :=
  bnd (decide (a1 ≤ a0)) fun x1 =>
  bnd (decide (a0 ≤ a2)) fun x2 =>
  bnd (x1 && x2) fun x3 =>
  some x3

def paths_path (a0 : Int) : Option Bool :=
  bno (paths_in a0 0 3) fun x1 =>
  some x1

def paths_State_numbers_1 (a0 : T_paths_Bind) : Option Bool :=
  bno (paths_in a0.Stream 1 1048576) fun x1 =>
  bno (gd ((!x1) == false) (paths_path a0.Path) default) fun x2 =>
  bnd ((!x1) || (!x2)) fun x3 =>
  some x3

def slices_IndexFunc_paths_Bind_paths_Bind_numbers_1_L0 (a0 : (List T_paths_Bind)) : Nat → Int → Option Int
  | 0, _ => none
  | n0 + 1, v7 =>
    bnd (decide (v7 < (a0.length : Int))) fun x14 =>
    bif x14 then (
      bno (gix a0 v7) fun x16 =>
      bno (paths_State_numbers_1 x16) fun x17 =>
      bif x17 then (
        some v7
      ) else (
        bnd (IntKind.wrap .i64 (v7 + 1)) fun x19 =>
        (slices_IndexFunc_paths_Bind_paths_Bind_numbers_1_L0 a0 n0) x19
      )
    ) else (
      some (-1)
    )
def slices_IndexFunc_paths_Bind_paths_Bind_numbers_1 (a0 : (List T_paths_Bind)) : Option Int :=
  slices_IndexFunc_paths_Bind_paths_Bind_numbers_1_L0 a0 fuel 0

def slices_ContainsFunc_paths_Bind_paths_Bind_numbers_1 (a0 : (List T_paths_Bind)) : Option Bool :=
  bno (slices_IndexFunc_paths_Bind_paths_Bind_numbers_1 a0) fun x1 =>
  bnd (decide (0 ≤ x1)) fun x2 =>
  some x2

def paths_State_numbers_L0 (a0 : T_paths_State) : Nat → Int → Option Bool
  | 0, _ => none
  | n0 + 1, v8 =>
    bnd (decide (v8 < 4)) fun x17 =>
    bif x17 then (
      bno (gix ([a0.Lines.c0, a0.Lines.c1, a0.Lines.c2, a0.Lines.c3] : List T_paths_Line) v8) fun x19 =>
      bno (paths_in x19.Bytes 0 1099511627776) fun x20 =>
      bno (gd ((!x20) == false) (paths_in x19.Ticks 0 1099511627776) default) fun x21 =>
      bnd ((!x20) || (!x21)) fun x22 =>
      bif x22 then (
        some false
      ) else (
        bnd (IntKind.wrap .i64 (v8 + 1)) fun x24 =>
        (paths_State_numbers_L0 a0 n0) x24
      )
    ) else (
      bnd (decide (a0.Pinned = (-1))) fun x25 =>
      bno (gd (x25 == false) (paths_path a0.Pinned) default) fun x26 =>
      bnd (x25 || x26) fun x27 =>
      bnd (decide ((a0.Binds.length : Int) ≤ 32)) fun x28 =>
      bnd (x27 && x28) fun x29 =>
      bno (gd (x29 == true) (slices_ContainsFunc_paths_Bind_paths_Bind_numbers_1 a0.Binds) default) fun x30 =>
      bnd (x29 && (!x30)) fun x31 =>
      some x31
    )
def paths_State_numbers (a0 : T_paths_State) : Option Bool :=
  paths_State_numbers_L0 a0 fuel 0

def paths_State_up (a0 : T_paths_State) (a1 : Int) : Option Bool :=
  bno (paths_path a1) fun x1 =>
  chk ((x1 == true) = true → 0 ≤ a1 ∧ a1 < 4) <|
  bno (gd (x1 == true) (gix ([a0.Lines.c0.Up, a0.Lines.c1.Up, a0.Lines.c2.Up, a0.Lines.c3.Up] : List Bool) a1) default) fun x3 =>
  bnd (x1 && x3) fun x4 =>
  some x4

def paths_Check_1 (a0 : T_paths_Bind) (a1 : T_paths_State) : Option Bool :=
  bno (paths_State_up a1 a0.Path) fun x1 =>
  some (!x1)

def slices_IndexFunc_paths_Bind_paths_Bind_Check_1_L0 (a0 : (List T_paths_Bind)) (a1 : T_paths_State) : Nat → Int → Option Int
  | 0, _ => none
  | n0 + 1, v7 =>
    bnd (decide (v7 < (a0.length : Int))) fun x14 =>
    bif x14 then (
      bno (gix a0 v7) fun x16 =>
      bno (paths_Check_1 x16 a1) fun x17 =>
      bif x17 then (
        some v7
      ) else (
        bnd (IntKind.wrap .i64 (v7 + 1)) fun x19 =>
        (slices_IndexFunc_paths_Bind_paths_Bind_Check_1_L0 a0 a1 n0) x19
      )
    ) else (
      some (-1)
    )
def slices_IndexFunc_paths_Bind_paths_Bind_Check_1 (a0 : (List T_paths_Bind)) (a1 : T_paths_State) : Option Int :=
  slices_IndexFunc_paths_Bind_paths_Bind_Check_1_L0 a0 a1 fuel 0

def slices_ContainsFunc_paths_Bind_paths_Bind_Check_1 (a0 : (List T_paths_Bind)) (a1 : T_paths_State) : Option Bool :=
  bno (slices_IndexFunc_paths_Bind_paths_Bind_Check_1 a0 a1) fun x1 =>
  bnd (decide (0 ≤ x1)) fun x2 =>
  some x2

def paths_Check_L1 (a0 : T_paths_State) : Nat → Int → Option Int
  | 0, _ => none
  | n1 + 1, v29 =>
    bnd (decide (v29 < (a0.Binds.length : Int))) fun x38 =>
    bif x38 then (
      bnd (IntKind.wrap .i64 (v29 - 1)) fun x40 =>
      bno (gix a0.Binds x40) fun x41 =>
      bno (gix a0.Binds v29) fun x42 =>
      bnd (decide (x42.Stream ≤ x41.Stream)) fun x43 =>
      bif x43 then (
        some 10
      ) else (
        bnd (IntKind.wrap .i64 (v29 + 1)) fun x45 =>
        (paths_Check_L1 a0 n1) x45
      )
    ) else (
      bnd (!decide (a0.Pinned = (-1))) fun x46 =>
      bno (gd (x46 == true) (paths_State_up a0 a0.Pinned) default) fun x47 =>
      bnd (x46 && (!x47)) fun x48 =>
      bno (gd (x48 == false) (slices_ContainsFunc_paths_Bind_paths_Bind_Check_1 a0.Binds a0) default) fun x49 =>
      bnd (x48 || x49) fun x50 =>
      bif x50 then (
        some 9
      ) else (
        some 0
      )
    )
def paths_Check_L0 (a0 : T_paths_State) : Nat → Int → Option Int
  | 0, _ => none
  | n0 + 1, v6 =>
    bnd (decide (v6 < 4)) fun x13 =>
    bif x13 then (
      bno (gix ([a0.Lines.c0, a0.Lines.c1, a0.Lines.c2, a0.Lines.c3] : List T_paths_Line) v6) fun x15 =>
      bnd (x15.Up && x15.Dead) fun x16 =>
      bif x16 then (
        some 4
      ) else (
        bnd (IntKind.wrap .i64 (v6 + 1)) fun x18 =>
        (paths_Check_L0 a0 n0) x18
      )
    ) else (
      bno (paths_State_numbers a0) fun x19 =>
      bif (!x19) then (
        some 8
      ) else (
        paths_Check_L1 a0 fuel 1
      )
    )
def paths_Check (a0 : T_paths_State) : Option Int :=
  paths_Check_L0 a0 fuel 0

def paths_Rise (a0 : T_paths_State) (a1 : Int) : Option (T_paths_State × Bool) :=
  bno (paths_State_own_h a0) fun x1 =>
  bno (paths_path a1) fun x2 =>
  bno (gd ((!x2) == false) (paths_Check a0) default) fun x3 =>
  bnd (!decide (x3 = 0)) fun x4 =>
  bnd ((!x2) || x4) fun x5 =>
  chk ((x5 == false) = true → 0 ≤ a1 ∧ a1 < 4) <|
  bno (gd (x5 == false) (gix ([a0.Lines.c0.Up, a0.Lines.c1.Up, a0.Lines.c2.Up, a0.Lines.c3.Up] : List Bool) a1) default) fun x7 =>
  bnd (x5 || x7) fun x8 =>
  chk ((x8 == false) = true → 0 ≤ a1 ∧ a1 < 4) <|
  bno (gd (x8 == false) (gix ([a0.Lines.c0.Dead, a0.Lines.c1.Dead, a0.Lines.c2.Dead, a0.Lines.c3.Dead] : List Bool) a1) default) fun x10 =>
  bnd (x8 || x10) fun x11 =>
  bif x11 then (
    some (((⟨(⟨(⟨x1.1, x1.2.1, x1.2.2.1, x1.2.2.2.1⟩ : T_paths_Line), (⟨x1.2.2.2.2.1, x1.2.2.2.2.2.1, x1.2.2.2.2.2.2.1, x1.2.2.2.2.2.2.2.1⟩ : T_paths_Line), (⟨x1.2.2.2.2.2.2.2.2.1, x1.2.2.2.2.2.2.2.2.2.1, x1.2.2.2.2.2.2.2.2.2.2.1, x1.2.2.2.2.2.2.2.2.2.2.2.1⟩ : T_paths_Line), (⟨x1.2.2.2.2.2.2.2.2.2.2.2.2.1, x1.2.2.2.2.2.2.2.2.2.2.2.2.2.1, x1.2.2.2.2.2.2.2.2.2.2.2.2.2.2.1, x1.2.2.2.2.2.2.2.2.2.2.2.2.2.2.2.1⟩ : T_paths_Line)⟩ : T_anon24), x1.2.2.2.2.2.2.2.2.2.2.2.2.2.2.2.2.1, x1.2.2.2.2.2.2.2.2.2.2.2.2.2.2.2.2.2⟩ : T_paths_State), false))
  ) else (
    chk (0 ≤ a1 ∧ a1 < 4) <|
    bnd (bif decide (a1 = 0) then (⟨true, x1.2.1, x1.2.2.1, x1.2.2.2.1⟩ : T_paths_Line) else (⟨x1.1, x1.2.1, x1.2.2.1, x1.2.2.2.1⟩ : T_paths_Line)) fun x14 =>
    bnd (bif decide (a1 = 1) then (⟨true, x1.2.2.2.2.2.1, x1.2.2.2.2.2.2.1, x1.2.2.2.2.2.2.2.1⟩ : T_paths_Line) else (⟨x1.2.2.2.2.1, x1.2.2.2.2.2.1, x1.2.2.2.2.2.2.1, x1.2.2.2.2.2.2.2.1⟩ : T_paths_Line)) fun x15 =>
    bnd (bif decide (a1 = 2) then (⟨true, x1.2.2.2.2.2.2.2.2.2.1, x1.2.2.2.2.2.2.2.2.2.2.1, x1.2.2.2.2.2.2.2.2.2.2.2.1⟩ : T_paths_Line) else (⟨x1.2.2.2.2.2.2.2.2.1, x1.2.2.2.2.2.2.2.2.2.1, x1.2.2.2.2.2.2.2.2.2.2.1, x1.2.2.2.2.2.2.2.2.2.2.2.1⟩ : T_paths_Line)) fun x16 =>
    bnd (bif decide (a1 = 3) then (⟨true, x1.2.2.2.2.2.2.2.2.2.2.2.2.2.1, x1.2.2.2.2.2.2.2.2.2.2.2.2.2.2.1, x1.2.2.2.2.2.2.2.2.2.2.2.2.2.2.2.1⟩ : T_paths_Line) else (⟨x1.2.2.2.2.2.2.2.2.2.2.2.2.1, x1.2.2.2.2.2.2.2.2.2.2.2.2.2.1, x1.2.2.2.2.2.2.2.2.2.2.2.2.2.2.1, x1.2.2.2.2.2.2.2.2.2.2.2.2.2.2.2.1⟩ : T_paths_Line)) fun x17 =>
    some ((⟨(⟨x14, x15, x16, x17⟩ : T_anon24), x1.2.2.2.2.2.2.2.2.2.2.2.2.2.2.2.2.1, x1.2.2.2.2.2.2.2.2.2.2.2.2.2.2.2.2.2⟩ : T_paths_State), true)
  )

def paths_Note (a0 : T_paths_State) (a1 : Int) (a2 : Int) (a3 : Int) : Option T_paths_State :=
  bno (paths_State_own_h a0) fun x1 =>
  bno (paths_State_up a0 a1) fun x2 =>
  bno (gd ((!x2) == false) (paths_in a2 0 1048576) default) fun x3 =>
  bnd ((!x2) || (!x3)) fun x4 =>
  bno (gd (x4 == false) (paths_in a3 0 1048576) default) fun x5 =>
  bnd (x4 || (!x5)) fun x6 =>
  bno (gd (x6 == false) (paths_Check a0) default) fun x7 =>
  bnd (!decide (x7 = 0)) fun x8 =>
  bnd (x6 || x8) fun x9 =>
  bif x9 then (
    some ((⟨(⟨(⟨x1.1, x1.2.1, x1.2.2.1, x1.2.2.2.1⟩ : T_paths_Line), (⟨x1.2.2.2.2.1, x1.2.2.2.2.2.1, x1.2.2.2.2.2.2.1, x1.2.2.2.2.2.2.2.1⟩ : T_paths_Line), (⟨x1.2.2.2.2.2.2.2.2.1, x1.2.2.2.2.2.2.2.2.2.1, x1.2.2.2.2.2.2.2.2.2.2.1, x1.2.2.2.2.2.2.2.2.2.2.2.1⟩ : T_paths_Line), (⟨x1.2.2.2.2.2.2.2.2.2.2.2.2.1, x1.2.2.2.2.2.2.2.2.2.2.2.2.2.1, x1.2.2.2.2.2.2.2.2.2.2.2.2.2.2.1, x1.2.2.2.2.2.2.2.2.2.2.2.2.2.2.2.1⟩ : T_paths_Line)⟩ : T_anon24), x1.2.2.2.2.2.2.2.2.2.2.2.2.2.2.2.2.1, x1.2.2.2.2.2.2.2.2.2.2.2.2.2.2.2.2.2⟩ : T_paths_State))
  ) else (
    chk (0 ≤ a1 ∧ a1 < 4) <|
    bno (gix ([x1.2.2.1, x1.2.2.2.2.2.2.1, x1.2.2.2.2.2.2.2.2.2.2.1, x1.2.2.2.2.2.2.2.2.2.2.2.2.2.2.1] : List Int) a1) fun x12 =>
    bnd (IntKind.wrap .i64 (x12 + a2)) fun x13 =>
    bno (gix ([x1.2.2.2.1, x1.2.2.2.2.2.2.2.1, x1.2.2.2.2.2.2.2.2.2.2.2.1, x1.2.2.2.2.2.2.2.2.2.2.2.2.2.2.2.1] : List Int) a1) fun x14 =>
    bnd (IntKind.wrap .i64 (x14 + a3)) fun x15 =>
    bnd (bif decide (a1 = 0) then (⟨x1.1, x1.2.1, x13, x1.2.2.2.1⟩ : T_paths_Line) else (⟨x1.1, x1.2.1, x1.2.2.1, x1.2.2.2.1⟩ : T_paths_Line)) fun x16 =>
    bnd (bif decide (a1 = 1) then (⟨x1.2.2.2.2.1, x1.2.2.2.2.2.1, x13, x1.2.2.2.2.2.2.2.1⟩ : T_paths_Line) else (⟨x1.2.2.2.2.1, x1.2.2.2.2.2.1, x1.2.2.2.2.2.2.1, x1.2.2.2.2.2.2.2.1⟩ : T_paths_Line)) fun x17 =>
    bnd (bif decide (a1 = 2) then (⟨x1.2.2.2.2.2.2.2.2.1, x1.2.2.2.2.2.2.2.2.2.1, x13, x1.2.2.2.2.2.2.2.2.2.2.2.1⟩ : T_paths_Line) else (⟨x1.2.2.2.2.2.2.2.2.1, x1.2.2.2.2.2.2.2.2.2.1, x1.2.2.2.2.2.2.2.2.2.2.1, x1.2.2.2.2.2.2.2.2.2.2.2.1⟩ : T_paths_Line)) fun x18 =>
    bnd (bif decide (a1 = 3) then (⟨x1.2.2.2.2.2.2.2.2.2.2.2.2.1, x1.2.2.2.2.2.2.2.2.2.2.2.2.2.1, x13, x1.2.2.2.2.2.2.2.2.2.2.2.2.2.2.2.1⟩ : T_paths_Line) else (⟨x1.2.2.2.2.2.2.2.2.2.2.2.2.1, x1.2.2.2.2.2.2.2.2.2.2.2.2.2.1, x1.2.2.2.2.2.2.2.2.2.2.2.2.2.2.1, x1.2.2.2.2.2.2.2.2.2.2.2.2.2.2.2.1⟩ : T_paths_Line)) fun x19 =>
    bnd (bif decide (a1 = 0) then (⟨x16.Up, x16.Dead, x16.Bytes, x15⟩ : T_paths_Line) else x16) fun x20 =>
    bnd (bif decide (a1 = 1) then (⟨x17.Up, x17.Dead, x17.Bytes, x15⟩ : T_paths_Line) else x17) fun x21 =>
    bnd (bif decide (a1 = 2) then (⟨x18.Up, x18.Dead, x18.Bytes, x15⟩ : T_paths_Line) else x18) fun x22 =>
    bnd (bif decide (a1 = 3) then (⟨x19.Up, x19.Dead, x19.Bytes, x15⟩ : T_paths_Line) else x19) fun x23 =>
    bno (gix ([x20.Bytes, x21.Bytes, x22.Bytes, x23.Bytes] : List Int) a1) fun x24 =>
    bno (gix ([x20.Ticks, x21.Ticks, x22.Ticks, x23.Ticks] : List Int) a1) fun x25 =>
    bnd (max x24 x25) fun x26 =>
    bnd (decide (1073741824 < x26)) fun x27 =>
    bif x27 then (
      bno (gix ([x20.Bytes, x21.Bytes, x22.Bytes, x23.Bytes] : List Int) a1) fun x29 =>
      bno (quoI .i64 x29 2) fun x30 =>
      bnd (bif decide (a1 = 0) then (⟨x20.Up, x20.Dead, x30, x20.Ticks⟩ : T_paths_Line) else x20) fun x31 =>
      bnd (bif decide (a1 = 1) then (⟨x21.Up, x21.Dead, x30, x21.Ticks⟩ : T_paths_Line) else x21) fun x32 =>
      bnd (bif decide (a1 = 2) then (⟨x22.Up, x22.Dead, x30, x22.Ticks⟩ : T_paths_Line) else x22) fun x33 =>
      bnd (bif decide (a1 = 3) then (⟨x23.Up, x23.Dead, x30, x23.Ticks⟩ : T_paths_Line) else x23) fun x34 =>
      bno (gix ([x31.Ticks, x32.Ticks, x33.Ticks, x34.Ticks] : List Int) a1) fun x35 =>
      bno (quoI .i64 x35 2) fun x36 =>
      bnd (bif decide (a1 = 0) then (⟨x31.Up, x31.Dead, x31.Bytes, x36⟩ : T_paths_Line) else x31) fun x37 =>
      bnd (bif decide (a1 = 1) then (⟨x32.Up, x32.Dead, x32.Bytes, x36⟩ : T_paths_Line) else x32) fun x38 =>
      bnd (bif decide (a1 = 2) then (⟨x33.Up, x33.Dead, x33.Bytes, x36⟩ : T_paths_Line) else x33) fun x39 =>
      bnd (bif decide (a1 = 3) then (⟨x34.Up, x34.Dead, x34.Bytes, x36⟩ : T_paths_Line) else x34) fun x40 =>
      some (⟨(⟨x37, x38, x39, x40⟩ : T_anon24), x1.2.2.2.2.2.2.2.2.2.2.2.2.2.2.2.2.1, x1.2.2.2.2.2.2.2.2.2.2.2.2.2.2.2.2.2⟩ : T_paths_State)
    ) else (
      some (⟨(⟨x20, x21, x22, x23⟩ : T_anon24), x1.2.2.2.2.2.2.2.2.2.2.2.2.2.2.2.2.1, x1.2.2.2.2.2.2.2.2.2.2.2.2.2.2.2.2.2⟩ : T_paths_State)
    )
  )

def paths_State_find_1 (a0 : T_paths_Bind) (a1 : Int) : Option Int :=
  bnd (IntKind.wrap .i64 (a0.Stream - a1)) fun x1 =>
  some x1

def slices_BinarySearchFunc_paths_Bind_paths_Bind_int_find_1_L0 (a0 : (List T_paths_Bind)) (a1 : Int) : Nat → Int → Int → Option (Int × Bool)
  | 0, _, _ => none
  | n0 + 1, v12, v13 =>
    bnd (decide (v12 < v13)) fun x25 =>
    bif x25 then (
      bnd (IntKind.wrap .i64 (v12 + v13)) fun x27 =>
      bnd (IntKind.wrap .u64 x27) fun x28 =>
      bno (shrI .u64 x28 1) fun x29 =>
      bnd (IntKind.wrap .i64 x29) fun x30 =>
      bno (gix a0 x30) fun x31 =>
      bno (paths_State_find_1 x31 a1) fun x32 =>
      bnd (decide (x32 < 0)) fun x33 =>
      bif x33 then (
        bnd (IntKind.wrap .i64 (x30 + 1)) fun x35 =>
        (slices_BinarySearchFunc_paths_Bind_paths_Bind_int_find_1_L0 a0 a1 n0) x35 v13
      ) else (
        (slices_BinarySearchFunc_paths_Bind_paths_Bind_int_find_1_L0 a0 a1 n0) v12 x30
      )
    ) else (
      bnd (decide (v12 < (a0.length : Int))) fun x36 =>
      bno (gd (x36 == true) (gix a0 v12) default) fun x37 =>
      bno (gd (x36 == true) (paths_State_find_1 x37 a1) default) fun x38 =>
      bnd (decide (x38 = 0)) fun x39 =>
      bnd (x36 && x39) fun x40 =>
      some (v12, x40)
    )
def slices_BinarySearchFunc_paths_Bind_paths_Bind_int_find_1 (a0 : (List T_paths_Bind)) (a1 : Int) : Option (Int × Bool) :=
  slices_BinarySearchFunc_paths_Bind_paths_Bind_int_find_1_L0 a0 a1 fuel 0 (a0.length : Int)

def paths_State_find (a0 : T_paths_State) (a1 : Int) : Option (Int × Bool) :=
  bno (slices_BinarySearchFunc_paths_Bind_paths_Bind_int_find_1 a0.Binds a1) fun x1 =>
  some (x1.1, x1.2)

def paths_Rates_J1 (v14 : (List Nat)) (v15 : Int) (kk0 : (List Nat) → Int → Option (List Nat)) (v39 : Bool) (v40 : Bool) (v41 : Int) (v42 : Int) : Option (List Nat) :=
  bno (gauge_Rate v41 v42) fun x43 =>
  bno (app 8 v14 ([x43] : (List Nat))) fun x44 =>
  bnd (IntKind.wrap .i64 (v15 + 1)) fun x45 =>
  kk0 x44 x45
def paths_Rates_L0 (a0 : T_paths_State) : Nat → (List Nat) → Int → Option (List Nat)
  | 0, _, _ => none
  | n0 + 1, v14, v15 =>
    bnd (decide (v15 < 4)) fun x33 =>
    bif x33 then (
      bno (paths_State_up a0 v15) fun x46 =>
      bif x46 then (
        chk (0 ≤ v15 ∧ v15 < 4) <|
        bno (gix ([a0.Lines.c0, a0.Lines.c1, a0.Lines.c2, a0.Lines.c3] : List T_paths_Line) v15) fun x49 =>
        paths_Rates_J1 v14 v15 (paths_Rates_L0 a0 n0) x49.Up x49.Dead x49.Bytes x49.Ticks
      ) else (
        paths_Rates_J1 v14 v15 (paths_Rates_L0 a0 n0) false false 0 0
      )
    ) else (
      some v14
    )
def paths_Rates (a0 : T_paths_State) : Option (List Nat) :=
  paths_Rates_L0 a0 fuel ([] : (List Nat)) 0

def paths_Alive_L0 (a0 : T_paths_State) : Nat → (List Int) → Int → Option (List Int)
  | 0, _, _ => none
  | n0 + 1, v8, v9 =>
    bnd (decide (v9 < 4)) fun x17 =>
    bif x17 then (
      bno (paths_State_up a0 v9) fun x19 =>
      bif x19 then (
        bno (app 8 v8 ([v9] : (List Int))) fun x21 =>
        bnd (IntKind.wrap .i64 (v9 + 1)) fun x22 =>
        (paths_Alive_L0 a0 n0) x21 x22
      ) else (
        bnd (IntKind.wrap .i64 (v9 + 1)) fun x23 =>
        (paths_Alive_L0 a0 n0) v8 x23
      )
    ) else (
      some v8
    )
def paths_Alive (a0 : T_paths_State) : Option (List Int) :=
  paths_Alive_L0 a0 fuel ([] : (List Int)) 0

def paths_State_best (a0 : T_paths_State) : Option Int :=
  bno (paths_Rates a0) fun x1 =>
  bno (gauge_Best x1) fun x2 =>
  bnd (decide (0 ≤ x2)) fun x3 =>
  bif x3 then (
    some x2
  ) else (
    bno (paths_Alive a0) fun x5 =>
    bnd (decide (0 < (x5.length : Int))) fun x6 =>
    bif x6 then (
      bno (gix x5 0) fun x8 =>
      some x8
    ) else (
      some (-1)
    )
  )

def slices_Insert_paths_Bind_paths_Bind_h (a0 : Int) (a1 : (List T_paths_Bind)) (a2 : (List T_paths_Bind)) : Option (List T_paths_Bind) := insS 16 a2 a0 a1

def paths_Choose_J0 (x1 : (Bool × Bool × Int × Int × Bool × Bool × Int × Int × Bool × Bool × Int × Int × Bool × Bool × Int × Int × Int × (List T_paths_Bind))) (x10 : Int) (v16 : (List T_paths_Bind)) : Option (T_paths_State × Int) :=
  some (((⟨(⟨(⟨x1.1, x1.2.1, x1.2.2.1, x1.2.2.2.1⟩ : T_paths_Line), (⟨x1.2.2.2.2.1, x1.2.2.2.2.2.1, x1.2.2.2.2.2.2.1, x1.2.2.2.2.2.2.2.1⟩ : T_paths_Line), (⟨x1.2.2.2.2.2.2.2.2.1, x1.2.2.2.2.2.2.2.2.2.1, x1.2.2.2.2.2.2.2.2.2.2.1, x1.2.2.2.2.2.2.2.2.2.2.2.1⟩ : T_paths_Line), (⟨x1.2.2.2.2.2.2.2.2.2.2.2.2.1, x1.2.2.2.2.2.2.2.2.2.2.2.2.2.1, x1.2.2.2.2.2.2.2.2.2.2.2.2.2.2.1, x1.2.2.2.2.2.2.2.2.2.2.2.2.2.2.2.1⟩ : T_paths_Line)⟩ : T_anon24), x1.2.2.2.2.2.2.2.2.2.2.2.2.2.2.2.2.1, v16⟩ : T_paths_State), x10))
def paths_Choose (a0 : T_paths_State) (a1 : Int) : Option (T_paths_State × Int) :=
  bno (paths_State_own_h a0) fun x1 =>
  bno (paths_in a1 1 1048576) fun x2 =>
  bno (gd ((!x2) == false) (paths_Check a0) default) fun x3 =>
  bnd (!decide (x3 = 0)) fun x4 =>
  bnd ((!x2) || x4) fun x5 =>
  bif x5 then (
    some (((⟨(⟨(⟨x1.1, x1.2.1, x1.2.2.1, x1.2.2.2.1⟩ : T_paths_Line), (⟨x1.2.2.2.2.1, x1.2.2.2.2.2.1, x1.2.2.2.2.2.2.1, x1.2.2.2.2.2.2.2.1⟩ : T_paths_Line), (⟨x1.2.2.2.2.2.2.2.2.1, x1.2.2.2.2.2.2.2.2.2.1, x1.2.2.2.2.2.2.2.2.2.2.1, x1.2.2.2.2.2.2.2.2.2.2.2.1⟩ : T_paths_Line), (⟨x1.2.2.2.2.2.2.2.2.2.2.2.2.1, x1.2.2.2.2.2.2.2.2.2.2.2.2.2.1, x1.2.2.2.2.2.2.2.2.2.2.2.2.2.2.1, x1.2.2.2.2.2.2.2.2.2.2.2.2.2.2.2.1⟩ : T_paths_Line)⟩ : T_anon24), x1.2.2.2.2.2.2.2.2.2.2.2.2.2.2.2.2.1, x1.2.2.2.2.2.2.2.2.2.2.2.2.2.2.2.2.2⟩ : T_paths_State), (-1)))
  ) else (
    bno (paths_State_find a0 a1) fun x7 =>
    bif x7.2 then (
      bno (gix a0.Binds x7.1) fun x9 =>
      some (((⟨(⟨(⟨x1.1, x1.2.1, x1.2.2.1, x1.2.2.2.1⟩ : T_paths_Line), (⟨x1.2.2.2.2.1, x1.2.2.2.2.2.1, x1.2.2.2.2.2.2.1, x1.2.2.2.2.2.2.2.1⟩ : T_paths_Line), (⟨x1.2.2.2.2.2.2.2.2.1, x1.2.2.2.2.2.2.2.2.2.1, x1.2.2.2.2.2.2.2.2.2.2.1, x1.2.2.2.2.2.2.2.2.2.2.2.1⟩ : T_paths_Line), (⟨x1.2.2.2.2.2.2.2.2.2.2.2.2.1, x1.2.2.2.2.2.2.2.2.2.2.2.2.2.1, x1.2.2.2.2.2.2.2.2.2.2.2.2.2.2.1, x1.2.2.2.2.2.2.2.2.2.2.2.2.2.2.2.1⟩ : T_paths_Line)⟩ : T_anon24), x1.2.2.2.2.2.2.2.2.2.2.2.2.2.2.2.2.1, x1.2.2.2.2.2.2.2.2.2.2.2.2.2.2.2.2.2⟩ : T_paths_State), x9.Path))
    ) else (
      bno (paths_State_best a0) fun x10 =>
      bnd (!decide (x10 = (-1))) fun x17 =>
      bnd (decide ((a0.Binds.length : Int) < 32)) fun x18 =>
      bnd (x17 && x18) fun x19 =>
      bif x19 then (
        bno (slices_Insert_paths_Bind_paths_Bind_h x7.1 ([(⟨a1, x10⟩ : T_paths_Bind)] : (List T_paths_Bind)) x1.2.2.2.2.2.2.2.2.2.2.2.2.2.2.2.2.2) fun x21 =>
        paths_Choose_J0 x1 x10 x21
      ) else (
        paths_Choose_J0 x1 x10 x1.2.2.2.2.2.2.2.2.2.2.2.2.2.2.2.2.2
      )
    )
  )

def paths_Pin_J0 (x1 : (Bool × Bool × Int × Int × Bool × Bool × Int × Int × Bool × Bool × Int × Int × Bool × Bool × Int × Int × Int × (List T_paths_Bind))) (v8 : Int) : Option (T_paths_State × Int) :=
  some (((⟨(⟨(⟨x1.1, x1.2.1, x1.2.2.1, x1.2.2.2.1⟩ : T_paths_Line), (⟨x1.2.2.2.2.1, x1.2.2.2.2.2.1, x1.2.2.2.2.2.2.1, x1.2.2.2.2.2.2.2.1⟩ : T_paths_Line), (⟨x1.2.2.2.2.2.2.2.2.1, x1.2.2.2.2.2.2.2.2.2.1, x1.2.2.2.2.2.2.2.2.2.2.1, x1.2.2.2.2.2.2.2.2.2.2.2.1⟩ : T_paths_Line), (⟨x1.2.2.2.2.2.2.2.2.2.2.2.2.1, x1.2.2.2.2.2.2.2.2.2.2.2.2.2.1, x1.2.2.2.2.2.2.2.2.2.2.2.2.2.2.1, x1.2.2.2.2.2.2.2.2.2.2.2.2.2.2.2.1⟩ : T_paths_Line)⟩ : T_anon24), v8, x1.2.2.2.2.2.2.2.2.2.2.2.2.2.2.2.2.2⟩ : T_paths_State), v8))
def paths_Pin (a0 : T_paths_State) : Option (T_paths_State × Int) :=
  bno (paths_State_own_h a0) fun x1 =>
  bno (paths_Check a0) fun x2 =>
  bnd (!decide (x2 = 0)) fun x3 =>
  bif x3 then (
    some (((⟨(⟨(⟨x1.1, x1.2.1, x1.2.2.1, x1.2.2.2.1⟩ : T_paths_Line), (⟨x1.2.2.2.2.1, x1.2.2.2.2.2.1, x1.2.2.2.2.2.2.1, x1.2.2.2.2.2.2.2.1⟩ : T_paths_Line), (⟨x1.2.2.2.2.2.2.2.2.1, x1.2.2.2.2.2.2.2.2.2.1, x1.2.2.2.2.2.2.2.2.2.2.1, x1.2.2.2.2.2.2.2.2.2.2.2.1⟩ : T_paths_Line), (⟨x1.2.2.2.2.2.2.2.2.2.2.2.2.1, x1.2.2.2.2.2.2.2.2.2.2.2.2.2.1, x1.2.2.2.2.2.2.2.2.2.2.2.2.2.2.1, x1.2.2.2.2.2.2.2.2.2.2.2.2.2.2.2.1⟩ : T_paths_Line)⟩ : T_anon24), x1.2.2.2.2.2.2.2.2.2.2.2.2.2.2.2.2.1, x1.2.2.2.2.2.2.2.2.2.2.2.2.2.2.2.2.2⟩ : T_paths_State), (-1)))
  ) else (
    bnd (decide (x1.2.2.2.2.2.2.2.2.2.2.2.2.2.2.2.2.1 = (-1))) fun x9 =>
    bif x9 then (
      bno (paths_State_best a0) fun x11 =>
      paths_Pin_J0 x1 x11
    ) else (
      paths_Pin_J0 x1 x1.2.2.2.2.2.2.2.2.2.2.2.2.2.2.2.2.1
    )
  )

def paths_Fall_1 (a0 : T_paths_Bind) (a1 : Int) : Option Bool :=
  bnd (decide (a0.Path = a1)) fun x1 =>
  some x1

def slices_IndexFunc_paths_Bind_paths_Bind_Fall_1_L0 (a0 : (List T_paths_Bind)) (a1 : Int) : Nat → Int → Option Int
  | 0, _ => none
  | n0 + 1, v7 =>
    bnd (decide (v7 < (a0.length : Int))) fun x14 =>
    bif x14 then (
      bno (gix a0 v7) fun x16 =>
      bno (paths_Fall_1 x16 a1) fun x17 =>
      bif x17 then (
        some v7
      ) else (
        bnd (IntKind.wrap .i64 (v7 + 1)) fun x19 =>
        (slices_IndexFunc_paths_Bind_paths_Bind_Fall_1_L0 a0 a1 n0) x19
      )
    ) else (
      some (-1)
    )
def slices_IndexFunc_paths_Bind_paths_Bind_Fall_1 (a0 : (List T_paths_Bind)) (a1 : Int) : Option Int :=
  slices_IndexFunc_paths_Bind_paths_Bind_Fall_1_L0 a0 a1 fuel 0

def slices_DeleteFunc_paths_Bind_paths_Bind_h_Fall_1_L0 (a1 : Int) : Nat → (List T_paths_Bind) → Int → Int → Option (List T_paths_Bind)
  | 0, _, _, _ => none
  | n0 + 1, v17, v18, v19 =>
    bnd (decide (v19 < (v17.length : Int))) fun x32 =>
    bif x32 then (
      bno (gix v17 v19) fun x34 =>
      bno (v17[(v19 : Int).toNat]?) fun x35 =>
      bno (paths_Fall_1 x35 a1) fun x36 =>
      bif (!x36) then (
        bno (gix v17 v18) fun x38 =>
        bno (v17[(v18 : Int).toNat]?) fun x39 =>
        bnd (v17.set ((v18 : Int).toNat) x35) fun x40 =>
        bnd (IntKind.wrap .i64 (v18 + 1)) fun x41 =>
        bnd (IntKind.wrap .i64 (v19 + 1)) fun x42 =>
        (slices_DeleteFunc_paths_Bind_paths_Bind_h_Fall_1_L0 a1 n0) x40 x41 x42
      ) else (
        bnd (IntKind.wrap .i64 (v19 + 1)) fun x43 =>
        (slices_DeleteFunc_paths_Bind_paths_Bind_h_Fall_1_L0 a1 n0) v17 v18 x43
      )
    ) else (
      bno (cut v17 0 v18) fun x44 =>
      bno (cut x44 0 v18) fun x45 =>
      some x45
    )
def slices_DeleteFunc_paths_Bind_paths_Bind_h_Fall_1 (a0 : (List T_paths_Bind)) (a1 : Int) : Option (List T_paths_Bind) :=
  bno (slices_IndexFunc_paths_Bind_paths_Bind_Fall_1 a0 a1) fun x1 =>
  bnd (decide (x1 = (-1))) fun x2 =>
  bif x2 then (
    some a0
  ) else (
    bnd (IntKind.wrap .i64 (x1 + 1)) fun x4 =>
    slices_DeleteFunc_paths_Bind_paths_Bind_h_Fall_1_L0 a1 fuel a0 x1 x4
  )

def paths_Fall_J1 (x13 : T_paths_Line) (x14 : T_paths_Line) (x15 : T_paths_Line) (x16 : T_paths_Line) (v25 : (List Int)) (x43 : (List T_paths_Bind)) (v46 : Int) : Option (T_paths_State × (List Int) × Bool) :=
  some ((⟨(⟨x13, x14, x15, x16⟩ : T_anon24), v46, x43⟩ : T_paths_State), v25, true)
def paths_Fall_L0 (a0 : T_paths_State) (a1 : Int) (x1 : (Bool × Bool × Int × Int × Bool × Bool × Int × Int × Bool × Bool × Int × Int × Bool × Bool × Int × Int × Int × (List T_paths_Bind))) (x13 : T_paths_Line) (x14 : T_paths_Line) (x15 : T_paths_Line) (x16 : T_paths_Line) : Nat → (List Int) → Int → Option (T_paths_State × (List Int) × Bool)
  | 0, _, _ => none
  | n0 + 1, v25, v26 =>
    bnd (decide (v26 < (a0.Binds.length : Int))) fun x35 =>
    bif x35 then (
      bno (gix a0.Binds v26) fun x37 =>
      bnd (decide (x37.Path = a1)) fun x38 =>
      bif x38 then (
        bno (app 8 v25 ([x37.Stream] : (List Int))) fun x40 =>
        bnd (IntKind.wrap .i64 (v26 + 1)) fun x41 =>
        (paths_Fall_L0 a0 a1 x1 x13 x14 x15 x16 n0) x40 x41
      ) else (
        bnd (IntKind.wrap .i64 (v26 + 1)) fun x42 =>
        (paths_Fall_L0 a0 a1 x1 x13 x14 x15 x16 n0) v25 x42
      )
    ) else (
      bno (slices_DeleteFunc_paths_Bind_paths_Bind_h_Fall_1 x1.2.2.2.2.2.2.2.2.2.2.2.2.2.2.2.2.2 a1) fun x43 =>
      bnd (decide (x1.2.2.2.2.2.2.2.2.2.2.2.2.2.2.2.2.1 = a1)) fun x47 =>
      bif x47 then (
        paths_Fall_J1 x13 x14 x15 x16 v25 x43 (-1)
      ) else (
        paths_Fall_J1 x13 x14 x15 x16 v25 x43 x1.2.2.2.2.2.2.2.2.2.2.2.2.2.2.2.2.1
      )
    )
def paths_Fall (a0 : T_paths_State) (a1 : Int) : Option (T_paths_State × (List Int) × Bool) :=
  bno (paths_State_own_h a0) fun x1 =>
  bno (paths_State_up a0 a1) fun x2 =>
  bno (gd ((!x2) == false) (paths_Check a0) default) fun x3 =>
  bnd (!decide (x3 = 0)) fun x4 =>
  bnd ((!x2) || x4) fun x5 =>
  bif x5 then (
    some (((⟨(⟨(⟨x1.1, x1.2.1, x1.2.2.1, x1.2.2.2.1⟩ : T_paths_Line), (⟨x1.2.2.2.2.1, x1.2.2.2.2.2.1, x1.2.2.2.2.2.2.1, x1.2.2.2.2.2.2.2.1⟩ : T_paths_Line), (⟨x1.2.2.2.2.2.2.2.2.1, x1.2.2.2.2.2.2.2.2.2.1, x1.2.2.2.2.2.2.2.2.2.2.1, x1.2.2.2.2.2.2.2.2.2.2.2.1⟩ : T_paths_Line), (⟨x1.2.2.2.2.2.2.2.2.2.2.2.2.1, x1.2.2.2.2.2.2.2.2.2.2.2.2.2.1, x1.2.2.2.2.2.2.2.2.2.2.2.2.2.2.1, x1.2.2.2.2.2.2.2.2.2.2.2.2.2.2.2.1⟩ : T_paths_Line)⟩ : T_anon24), x1.2.2.2.2.2.2.2.2.2.2.2.2.2.2.2.2.1, x1.2.2.2.2.2.2.2.2.2.2.2.2.2.2.2.2.2⟩ : T_paths_State), [], false))
  ) else (
    chk (0 ≤ a1 ∧ a1 < 4) <|
    bnd (bif decide (a1 = 0) then (⟨false, x1.2.1, x1.2.2.1, x1.2.2.2.1⟩ : T_paths_Line) else (⟨x1.1, x1.2.1, x1.2.2.1, x1.2.2.2.1⟩ : T_paths_Line)) fun x8 =>
    bnd (bif decide (a1 = 1) then (⟨false, x1.2.2.2.2.2.1, x1.2.2.2.2.2.2.1, x1.2.2.2.2.2.2.2.1⟩ : T_paths_Line) else (⟨x1.2.2.2.2.1, x1.2.2.2.2.2.1, x1.2.2.2.2.2.2.1, x1.2.2.2.2.2.2.2.1⟩ : T_paths_Line)) fun x9 =>
    bnd (bif decide (a1 = 2) then (⟨false, x1.2.2.2.2.2.2.2.2.2.1, x1.2.2.2.2.2.2.2.2.2.2.1, x1.2.2.2.2.2.2.2.2.2.2.2.1⟩ : T_paths_Line) else (⟨x1.2.2.2.2.2.2.2.2.1, x1.2.2.2.2.2.2.2.2.2.1, x1.2.2.2.2.2.2.2.2.2.2.1, x1.2.2.2.2.2.2.2.2.2.2.2.1⟩ : T_paths_Line)) fun x10 =>
    bnd (bif decide (a1 = 3) then (⟨false, x1.2.2.2.2.2.2.2.2.2.2.2.2.2.1, x1.2.2.2.2.2.2.2.2.2.2.2.2.2.2.1, x1.2.2.2.2.2.2.2.2.2.2.2.2.2.2.2.1⟩ : T_paths_Line) else (⟨x1.2.2.2.2.2.2.2.2.2.2.2.2.1, x1.2.2.2.2.2.2.2.2.2.2.2.2.2.1, x1.2.2.2.2.2.2.2.2.2.2.2.2.2.2.1, x1.2.2.2.2.2.2.2.2.2.2.2.2.2.2.2.1⟩ : T_paths_Line)) fun x11 =>
    chk (0 ≤ a1 ∧ a1 < 4) <|
    bnd (bif decide (a1 = 0) then (⟨x8.Up, true, x8.Bytes, x8.Ticks⟩ : T_paths_Line) else x8) fun x13 =>
    bnd (bif decide (a1 = 1) then (⟨x9.Up, true, x9.Bytes, x9.Ticks⟩ : T_paths_Line) else x9) fun x14 =>
    bnd (bif decide (a1 = 2) then (⟨x10.Up, true, x10.Bytes, x10.Ticks⟩ : T_paths_Line) else x10) fun x15 =>
    bnd (bif decide (a1 = 3) then (⟨x11.Up, true, x11.Bytes, x11.Ticks⟩ : T_paths_Line) else x11) fun x16 =>
    paths_Fall_L0 a0 a1 x1 x13 x14 x15 x16 fuel ([] : (List Int)) 0
  )

def paths_Free_1 (a0 : T_paths_Bind) (a1 : Int) : Option Bool :=
  bnd (decide (a0.Stream = a1)) fun x1 =>
  some x1

def slices_IndexFunc_paths_Bind_paths_Bind_Free_1_L0 (a0 : (List T_paths_Bind)) (a1 : Int) : Nat → Int → Option Int
  | 0, _ => none
  | n0 + 1, v7 =>
    bnd (decide (v7 < (a0.length : Int))) fun x14 =>
    bif x14 then (
      bno (gix a0 v7) fun x16 =>
      bno (paths_Free_1 x16 a1) fun x17 =>
      bif x17 then (
        some v7
      ) else (
        bnd (IntKind.wrap .i64 (v7 + 1)) fun x19 =>
        (slices_IndexFunc_paths_Bind_paths_Bind_Free_1_L0 a0 a1 n0) x19
      )
    ) else (
      some (-1)
    )
def slices_IndexFunc_paths_Bind_paths_Bind_Free_1 (a0 : (List T_paths_Bind)) (a1 : Int) : Option Int :=
  slices_IndexFunc_paths_Bind_paths_Bind_Free_1_L0 a0 a1 fuel 0

def slices_DeleteFunc_paths_Bind_paths_Bind_h_Free_1_L0 (a1 : Int) : Nat → (List T_paths_Bind) → Int → Int → Option (List T_paths_Bind)
  | 0, _, _, _ => none
  | n0 + 1, v17, v18, v19 =>
    bnd (decide (v19 < (v17.length : Int))) fun x32 =>
    bif x32 then (
      bno (gix v17 v19) fun x34 =>
      bno (v17[(v19 : Int).toNat]?) fun x35 =>
      bno (paths_Free_1 x35 a1) fun x36 =>
      bif (!x36) then (
        bno (gix v17 v18) fun x38 =>
        bno (v17[(v18 : Int).toNat]?) fun x39 =>
        bnd (v17.set ((v18 : Int).toNat) x35) fun x40 =>
        bnd (IntKind.wrap .i64 (v18 + 1)) fun x41 =>
        bnd (IntKind.wrap .i64 (v19 + 1)) fun x42 =>
        (slices_DeleteFunc_paths_Bind_paths_Bind_h_Free_1_L0 a1 n0) x40 x41 x42
      ) else (
        bnd (IntKind.wrap .i64 (v19 + 1)) fun x43 =>
        (slices_DeleteFunc_paths_Bind_paths_Bind_h_Free_1_L0 a1 n0) v17 v18 x43
      )
    ) else (
      bno (cut v17 0 v18) fun x44 =>
      bno (cut x44 0 v18) fun x45 =>
      some x45
    )
def slices_DeleteFunc_paths_Bind_paths_Bind_h_Free_1 (a0 : (List T_paths_Bind)) (a1 : Int) : Option (List T_paths_Bind) :=
  bno (slices_IndexFunc_paths_Bind_paths_Bind_Free_1 a0 a1) fun x1 =>
  bnd (decide (x1 = (-1))) fun x2 =>
  bif x2 then (
    some a0
  ) else (
    bnd (IntKind.wrap .i64 (x1 + 1)) fun x4 =>
    slices_DeleteFunc_paths_Bind_paths_Bind_h_Free_1_L0 a1 fuel a0 x1 x4
  )

def paths_Free (a0 : T_paths_State) (a1 : Int) : Option T_paths_State :=
  bno (paths_State_own_h a0) fun x1 =>
  bno (paths_Check a0) fun x2 =>
  bnd (decide (x2 = 0)) fun x3 =>
  bif x3 then (
    bno (slices_DeleteFunc_paths_Bind_paths_Bind_h_Free_1 x1.2.2.2.2.2.2.2.2.2.2.2.2.2.2.2.2.2 a1) fun x5 =>
    some ((⟨(⟨(⟨x1.1, x1.2.1, x1.2.2.1, x1.2.2.2.1⟩ : T_paths_Line), (⟨x1.2.2.2.2.1, x1.2.2.2.2.2.1, x1.2.2.2.2.2.2.1, x1.2.2.2.2.2.2.2.1⟩ : T_paths_Line), (⟨x1.2.2.2.2.2.2.2.2.1, x1.2.2.2.2.2.2.2.2.2.1, x1.2.2.2.2.2.2.2.2.2.2.1, x1.2.2.2.2.2.2.2.2.2.2.2.1⟩ : T_paths_Line), (⟨x1.2.2.2.2.2.2.2.2.2.2.2.2.1, x1.2.2.2.2.2.2.2.2.2.2.2.2.2.1, x1.2.2.2.2.2.2.2.2.2.2.2.2.2.2.1, x1.2.2.2.2.2.2.2.2.2.2.2.2.2.2.2.1⟩ : T_paths_Line)⟩ : T_anon24), x1.2.2.2.2.2.2.2.2.2.2.2.2.2.2.2.2.1, x5⟩ : T_paths_State))
  ) else (
    some ((⟨(⟨(⟨x1.1, x1.2.1, x1.2.2.1, x1.2.2.2.1⟩ : T_paths_Line), (⟨x1.2.2.2.2.1, x1.2.2.2.2.2.1, x1.2.2.2.2.2.2.1, x1.2.2.2.2.2.2.2.1⟩ : T_paths_Line), (⟨x1.2.2.2.2.2.2.2.2.1, x1.2.2.2.2.2.2.2.2.2.1, x1.2.2.2.2.2.2.2.2.2.2.1, x1.2.2.2.2.2.2.2.2.2.2.2.1⟩ : T_paths_Line), (⟨x1.2.2.2.2.2.2.2.2.2.2.2.2.1, x1.2.2.2.2.2.2.2.2.2.2.2.2.2.1, x1.2.2.2.2.2.2.2.2.2.2.2.2.2.2.1, x1.2.2.2.2.2.2.2.2.2.2.2.2.2.2.2.1⟩ : T_paths_Line)⟩ : T_anon24), x1.2.2.2.2.2.2.2.2.2.2.2.2.2.2.2.2.1, x1.2.2.2.2.2.2.2.2.2.2.2.2.2.2.2.2.2⟩ : T_paths_State))
  )

def sennitref28_SameInts_L0 (a0 : (List Int)) (a1 : (List Int)) : Nat → Int → Option Bool
  | 0, _ => none
  | n0 + 1, v10 =>
    bnd (decide (v10 < (a0.length : Int))) fun x18 =>
    bif x18 then (
      bno (gix a0 v10) fun x20 =>
      bno (gix a1 v10) fun x21 =>
      bnd (!decide (x20 = x21)) fun x22 =>
      bif x22 then (
        some false
      ) else (
        bnd (IntKind.wrap .i64 (v10 + 1)) fun x24 =>
        (sennitref28_SameInts_L0 a0 a1 n0) x24
      )
    ) else (
      some true
    )
def sennitref28_SameInts (a0 : (List Int)) (a1 : (List Int)) : Option Bool :=
  bnd (!decide ((a0.length : Int) = (a1.length : Int))) fun x1 =>
  bif x1 then (
    some false
  ) else (
    sennitref28_SameInts_L0 a0 a1 fuel 0
  )

def paths_Best (a0 : T_paths_State) : Option Int :=
  bno (paths_Check a0) fun x1 =>
  bnd (!decide (x1 = 0)) fun x2 =>
  bif x2 then (
    some (-1)
  ) else (
    bno (paths_State_best a0) fun x4 =>
    some x4
  )

def slices_Equal_paths_Bind_paths_Bind_L0 (a0 : (List T_paths_Bind)) (a1 : (List T_paths_Bind)) : Nat → Int → Option Bool
  | 0, _ => none
  | n0 + 1, v10 =>
    bnd (decide (v10 < (a0.length : Int))) fun x18 =>
    bif x18 then (
      bno (gix a0 v10) fun x20 =>
      bno (gix a1 v10) fun x21 =>
      bnd ((decide (x20.Stream = x21.Stream) && (decide (x20.Path = x21.Path) && true))) fun x22 =>
      bif (!x22) then (
        some false
      ) else (
        bnd (IntKind.wrap .i64 (v10 + 1)) fun x24 =>
        (slices_Equal_paths_Bind_paths_Bind_L0 a0 a1 n0) x24
      )
    ) else (
      some true
    )
def slices_Equal_paths_Bind_paths_Bind (a0 : (List T_paths_Bind)) (a1 : (List T_paths_Bind)) : Option Bool :=
  bnd (!decide ((a0.length : Int) = (a1.length : Int))) fun x1 =>
  bif x1 then (
    some false
  ) else (
    slices_Equal_paths_Bind_paths_Bind_L0 a0 a1 fuel 0
  )

def paths_Same (a0 : T_paths_State) (a1 : T_paths_State) : Option Bool :=
  bnd ((((a0.Lines.c0.Up == a1.Lines.c0.Up) && ((a0.Lines.c0.Dead == a1.Lines.c0.Dead) && (decide (a0.Lines.c0.Bytes = a1.Lines.c0.Bytes) && (decide (a0.Lines.c0.Ticks = a1.Lines.c0.Ticks) && true)))) && (((a0.Lines.c1.Up == a1.Lines.c1.Up) && ((a0.Lines.c1.Dead == a1.Lines.c1.Dead) && (decide (a0.Lines.c1.Bytes = a1.Lines.c1.Bytes) && (decide (a0.Lines.c1.Ticks = a1.Lines.c1.Ticks) && true)))) && (((a0.Lines.c2.Up == a1.Lines.c2.Up) && ((a0.Lines.c2.Dead == a1.Lines.c2.Dead) && (decide (a0.Lines.c2.Bytes = a1.Lines.c2.Bytes) && (decide (a0.Lines.c2.Ticks = a1.Lines.c2.Ticks) && true)))) && (((a0.Lines.c3.Up == a1.Lines.c3.Up) && ((a0.Lines.c3.Dead == a1.Lines.c3.Dead) && (decide (a0.Lines.c3.Bytes = a1.Lines.c3.Bytes) && (decide (a0.Lines.c3.Ticks = a1.Lines.c3.Ticks) && true)))) && true))))) fun x1 =>
  bnd (decide (a0.Pinned = a1.Pinned)) fun x2 =>
  bnd (x1 && x2) fun x3 =>
  bno (gd (x3 == true) (slices_Equal_paths_Bind_paths_Bind a0.Binds a1.Binds) default) fun x4 =>
  bnd (x3 && x4) fun x5 =>
  some x5

def sennitlaw28_awake  : Option Bool :=
  bno (paths_New) fun x1 =>
  bno (paths_Rise x1 1) fun x2 =>
  bno (paths_Rise x2.1 2) fun x3 =>
  bno (paths_Rise x3.1 2) fun x4 =>
  bno (paths_Note x3.1 2 100 5) fun x5 =>
  bno (paths_Choose x5 7) fun x6 =>
  bno (paths_Pin x6.1) fun x7 =>
  bno (paths_Fall x7.1 2) fun x8 =>
  bno (paths_Choose x8.1 7) fun x9 =>
  bno (paths_Pin x9.1) fun x10 =>
  bno (paths_Free x10.1 7) fun x11 =>
  bno (paths_Rates x5) fun x12 =>
  bnd (x2.2 && x3.2) fun x13 =>
  bnd (x13 && (!x4.2)) fun x14 =>
  bnd (decide (x6.2 = 2)) fun x15 =>
  bnd (x14 && x15) fun x16 =>
  bnd (decide (x7.2 = 2)) fun x17 =>
  bnd (x16 && x17) fun x18 =>
  bno (gd (x18 == true) (sennitref28_SameInts x8.2.1 ([7] : (List Int))) default) fun x19 =>
  bnd (x18 && x19) fun x20 =>
  bnd (x20 && x8.2.2) fun x21 =>
  bnd (decide (x8.1.Pinned = (-1))) fun x22 =>
  bnd (x21 && x22) fun x23 =>
  bnd (decide (x9.2 = 1)) fun x24 =>
  bnd (x23 && x24) fun x25 =>
  bnd (decide (x10.2 = 1)) fun x26 =>
  bnd (x25 && x26) fun x27 =>
  bnd (decide ((x11.Binds.length : Int) = 0)) fun x28 =>
  bnd (x27 && x28) fun x29 =>
  bno (gd (x29 == true) (paths_Alive x10.1) default) fun x30 =>
  bno (gd (x29 == true) (sennitref28_SameInts x30 ([1] : (List Int))) default) fun x31 =>
  bnd (x29 && x31) fun x32 =>
  bno (gd (x32 == true) (paths_Best x5) default) fun x33 =>
  bnd (decide (x33 = 2)) fun x34 =>
  bnd (x32 && x34) fun x35 =>
  bno (gd (x35 == true) (paths_New) default) fun x36 =>
  bno (gd (x35 == true) (paths_Best x36) default) fun x37 =>
  bnd (decide (x37 = (-1))) fun x38 =>
  bnd (x35 && x38) fun x39 =>
  bnd (decide ((x12.length : Int) = 4)) fun x40 =>
  bnd (x39 && x40) fun x41 =>
  bno (gd (x41 == true) (gix x12 0) default) fun x42 =>
  bno (gd (x41 == true) (gauge_Kind x42) default) fun x43 =>
  bnd (decide (x43 = 0)) fun x44 =>
  bnd (x41 && x44) fun x45 =>
  bno (gd (x45 == true) (gix x12 2) default) fun x46 =>
  bnd (fCmp .eql x46 4626322717216342016) fun x47 =>
  bnd (x45 && x47) fun x48 =>
  bno (gd (x48 == true) (paths_Check x10.1) default) fun x49 =>
  bnd (decide (x49 = 0)) fun x50 =>
  bnd (x48 && x50) fun x51 =>
  bno (gd (x51 == true) (paths_Check ((⟨(⟨(⟨false, false, 0, 0⟩ : T_paths_Line), (⟨false, false, 0, 0⟩ : T_paths_Line), (⟨false, false, 0, 0⟩ : T_paths_Line), (⟨false, false, 0, 0⟩ : T_paths_Line)⟩ : T_anon24), 0, []⟩ : T_paths_State))) default) fun x52 =>
  bnd (decide (x52 = 9)) fun x53 =>
  bnd (x51 && x53) fun x54 =>
  bno (gd (x54 == true) (paths_Same x7.1 x8.1) default) fun x55 =>
  bnd (x54 && (!x55)) fun x56 =>
  bno (gd (x56 == true) (paths_Same x10.1 x10.1) default) fun x57 =>
  bnd (x56 && x57) fun x58 =>
  bnd (bif x58 then true else false) fun x59 =>
  bnd (bif x59 then true else false) fun x60 =>
  bnd (bif x60 then true else false) fun x61 =>
  bnd (bif x61 then true else false) fun x62 =>
  some x62

def sennitlaw28_is_L0 (a0 : (List Int)) (a1 : Int) : Nat → Int → Option Bool
  | 0, _ => none
  | n0 + 1, v7 =>
    bnd (decide (v7 < (a0.length : Int))) fun x14 =>
    bif x14 then (
      bno (gix a0 v7) fun x16 =>
      bnd (decide (x16 = a1)) fun x17 =>
      bif x17 then (
        some true
      ) else (
        bnd (IntKind.wrap .i64 (v7 + 1)) fun x19 =>
        (sennitlaw28_is_L0 a0 a1 n0) x19
      )
    ) else (
      some false
    )
def sennitlaw28_is (a0 : (List Int)) (a1 : Int) : Option Bool :=
  sennitlaw28_is_L0 a0 a1 fuel 0

def sennitlaw28_PathsBest_L2 (v32 : Int) (v36 : Int) (v40 : Int) (v44 : Int) (x93 : Int) (x94 : (List Int)) (x135 : (T_paths_State × Int)) (x136 : (T_paths_State × Int)) (x138 : T_paths_State) : Nat → Int → Option Bool
  | 0, _ => none
  | n2 + 1, v156 =>
    bnd (decide (v156 < (x94.length : Int))) fun x174 =>
    bif x174 then (
      bno (gix x94 v156) fun x176 =>
      bno (gix x94 0) fun x177 =>
      bnd (!decide (x176 = x177)) fun x178 =>
      bno (gd (x178 == true) (gix x94 v156) default) fun x179 =>
      chk ((x178 == true) = true → 0 ≤ x179 ∧ x179 < 4) <|
      bno (gd (x178 == true) (gix ([v32, v36, v40, v44] : List Int) x179) default) fun x181 =>
      bnd (decide (x181 = 0)) fun x182 =>
      bnd (x178 && x182) fun x183 =>
      bif x183 then (
        bnd (decide (x135.2 = x93)) fun x185 =>
        bnd (decide (x136.2 = x93)) fun x186 =>
        bnd (x185 && x186) fun x187 =>
        bno (gd (x187 == true) (sennitlaw28_awake) default) fun x188 =>
        bnd (x187 && x188) fun x189 =>
        some x189
      ) else (
        bnd (IntKind.wrap .i64 (v156 + 1)) fun x190 =>
        (sennitlaw28_PathsBest_L2 v32 v36 v40 v44 x93 x94 x135 x136 x138 n2) x190
      )
    ) else (
      bnd (decide (x135.2 = x93)) fun x191 =>
      bnd (decide (x136.2 = x93)) fun x192 =>
      bnd (x191 && x192) fun x193 =>
      bno (gd (x193 == true) (gix x94 0) default) fun x194 =>
      chk ((x193 == true) = true → 0 ≤ x194 ∧ x194 < 4) <|
      bno (gd (x193 == true) (gix ([v32, v36, v40, v44] : List Int) x194) default) fun x196 =>
      bnd (!decide (x196 = 0)) fun x197 =>
      bno (gd ((x193 == true) && (x197 == false)) (paths_Best x138) default) fun x198 =>
      bno (gd ((x193 == true) && (x197 == false)) (gix x94 0) default) fun x199 =>
      bnd (decide (x198 = x199)) fun x200 =>
      bnd (x197 || x200) fun x201 =>
      bnd (x193 && x201) fun x202 =>
      bno (gd (x202 == true) (sennitlaw28_awake) default) fun x203 =>
      bnd (x202 && x203) fun x204 =>
      some x204
    )
def sennitlaw28_PathsBest_L1 (a1 : Int) (v29 : Bool) (v30 : Bool) (v31 : Int) (v32 : Int) (v33 : Bool) (v34 : Bool) (v35 : Int) (v36 : Int) (v37 : Bool) (v38 : Bool) (v39 : Int) (v40 : Int) (v41 : Bool) (v42 : Bool) (v43 : Int) (v44 : Int) (v45 : Int) (v46 : (List T_paths_Bind)) (x93 : Int) (x94 : (List Int)) (x100 : (List Nat)) : Nat → Int → Option Bool
  | 0, _ => none
  | n1 + 1, v114 =>
    bnd (decide (v114 < (x94.length : Int))) fun x124 =>
    bif x124 then (
      bno (gix x94 v114) fun x126 =>
      bno (gix x100 x126) fun x127 =>
      bno (gix x100 x93) fun x128 =>
      bno (gauge_Compare x127 x128) fun x129 =>
      bnd (decide (0 < x129)) fun x130 =>
      bif x130 then (
        some false
      ) else (
        bnd (IntKind.wrap .i64 (v114 + 1)) fun x132 =>
        (sennitlaw28_PathsBest_L1 a1 v29 v30 v31 v32 v33 v34 v35 v36 v37 v38 v39 v40 v41 v42 v43 v44 v45 v46 x93 x94 x100 n1) x132
      )
    ) else (
      bnd (IntKind.wrap .i64 a1) fun x133 =>
      bnd (IntKind.wrap .i64 (1 + x133)) fun x134 =>
      bno (paths_Choose ((⟨(⟨(⟨v29, v30, v31, v32⟩ : T_paths_Line), (⟨v33, v34, v35, v36⟩ : T_paths_Line), (⟨v37, v38, v39, v40⟩ : T_paths_Line), (⟨v41, v42, v43, v44⟩ : T_paths_Line)⟩ : T_anon24), v45, v46⟩ : T_paths_State)) x134) fun x135 =>
      bno (paths_Pin ((⟨(⟨(⟨v29, v30, v31, v32⟩ : T_paths_Line), (⟨v33, v34, v35, v36⟩ : T_paths_Line), (⟨v37, v38, v39, v40⟩ : T_paths_Line), (⟨v41, v42, v43, v44⟩ : T_paths_Line)⟩ : T_anon24), v45, v46⟩ : T_paths_State))) fun x136 =>
      bno (gix x94 0) fun x137 =>
      bno (paths_Note ((⟨(⟨(⟨v29, v30, v31, v32⟩ : T_paths_Line), (⟨v33, v34, v35, v36⟩ : T_paths_Line), (⟨v37, v38, v39, v40⟩ : T_paths_Line), (⟨v41, v42, v43, v44⟩ : T_paths_Line)⟩ : T_anon24), v45, v46⟩ : T_paths_State)) x137 1 0) fun x138 =>
      sennitlaw28_PathsBest_L2 v32 v36 v40 v44 x93 x94 x135 x136 x138 fuel 0
    )
def sennitlaw28_PathsBest_L0 (a0 : (List T_sennitlaw28_Act)) (a1 : Int) : Nat → Int → Bool → Bool → Int → Int → Bool → Bool → Int → Int → Bool → Bool → Int → Int → Bool → Bool → Int → Int → Int → (List T_paths_Bind) → Option Bool
  | 0, _, _, _, _, _, _, _, _, _, _, _, _, _, _, _, _, _, _, _ => none
  | n0 + 1, v28, v29, v30, v31, v32, v33, v34, v35, v36, v37, v38, v39, v40, v41, v42, v43, v44, v45, v46 =>
    bnd (decide (v28 < (a0.length : Int))) fun x70 =>
    bif x70 then (
      bno (gix a0 v28) fun x72 =>
      bnd (IntKind.wrap .i64 x72.N) fun x73 =>
      bno (gix a0 v28) fun x74 =>
      bno (remI x74.Kind 3) fun x75 =>
      bnd (decide (x75 = 0)) fun x76 =>
      bif x76 then (
        bno (remI x73 4) fun x78 =>
        bno (paths_Rise ((⟨(⟨(⟨v29, v30, v31, v32⟩ : T_paths_Line), (⟨v33, v34, v35, v36⟩ : T_paths_Line), (⟨v37, v38, v39, v40⟩ : T_paths_Line), (⟨v41, v42, v43, v44⟩ : T_paths_Line)⟩ : T_anon24), v45, v46⟩ : T_paths_State)) x78) fun x79 =>
        bnd (IntKind.wrap .i64 (v28 + 1)) fun x80 =>
        (sennitlaw28_PathsBest_L0 a0 a1 n0) x80 x79.1.Lines.c0.Up x79.1.Lines.c0.Dead x79.1.Lines.c0.Bytes x79.1.Lines.c0.Ticks x79.1.Lines.c1.Up x79.1.Lines.c1.Dead x79.1.Lines.c1.Bytes x79.1.Lines.c1.Ticks x79.1.Lines.c2.Up x79.1.Lines.c2.Dead x79.1.Lines.c2.Bytes x79.1.Lines.c2.Ticks x79.1.Lines.c3.Up x79.1.Lines.c3.Dead x79.1.Lines.c3.Bytes x79.1.Lines.c3.Ticks x79.1.Pinned x79.1.Binds
      ) else (
        bnd (decide (x75 = 1)) fun x81 =>
        bif x81 then (
          bno (remI x73 8) fun x83 =>
          bno (paths_Fall ((⟨(⟨(⟨v29, v30, v31, v32⟩ : T_paths_Line), (⟨v33, v34, v35, v36⟩ : T_paths_Line), (⟨v37, v38, v39, v40⟩ : T_paths_Line), (⟨v41, v42, v43, v44⟩ : T_paths_Line)⟩ : T_anon24), v45, v46⟩ : T_paths_State)) x83) fun x84 =>
          bnd (IntKind.wrap .i64 (v28 + 1)) fun x85 =>
          (sennitlaw28_PathsBest_L0 a0 a1 n0) x85 x84.1.Lines.c0.Up x84.1.Lines.c0.Dead x84.1.Lines.c0.Bytes x84.1.Lines.c0.Ticks x84.1.Lines.c1.Up x84.1.Lines.c1.Dead x84.1.Lines.c1.Bytes x84.1.Lines.c1.Ticks x84.1.Lines.c2.Up x84.1.Lines.c2.Dead x84.1.Lines.c2.Bytes x84.1.Lines.c2.Ticks x84.1.Lines.c3.Up x84.1.Lines.c3.Dead x84.1.Lines.c3.Bytes x84.1.Lines.c3.Ticks x84.1.Pinned x84.1.Binds
        ) else (
          bno (gix a0 v28) fun x86 =>
          bno (remI x86.Path 4) fun x87 =>
          bnd (IntKind.wrap .i64 x87) fun x88 =>
          bno (gix a0 v28) fun x89 =>
          bnd (IntKind.wrap .i64 x89.M) fun x90 =>
          bno (paths_Note ((⟨(⟨(⟨v29, v30, v31, v32⟩ : T_paths_Line), (⟨v33, v34, v35, v36⟩ : T_paths_Line), (⟨v37, v38, v39, v40⟩ : T_paths_Line), (⟨v41, v42, v43, v44⟩ : T_paths_Line)⟩ : T_anon24), v45, v46⟩ : T_paths_State)) x88 x73 x90) fun x91 =>
          bnd (IntKind.wrap .i64 (v28 + 1)) fun x92 =>
          (sennitlaw28_PathsBest_L0 a0 a1 n0) x92 x91.Lines.c0.Up x91.Lines.c0.Dead x91.Lines.c0.Bytes x91.Lines.c0.Ticks x91.Lines.c1.Up x91.Lines.c1.Dead x91.Lines.c1.Bytes x91.Lines.c1.Ticks x91.Lines.c2.Up x91.Lines.c2.Dead x91.Lines.c2.Bytes x91.Lines.c2.Ticks x91.Lines.c3.Up x91.Lines.c3.Dead x91.Lines.c3.Bytes x91.Lines.c3.Ticks x91.Pinned x91.Binds
        )
      )
    ) else (
      bno (paths_Best ((⟨(⟨(⟨v29, v30, v31, v32⟩ : T_paths_Line), (⟨v33, v34, v35, v36⟩ : T_paths_Line), (⟨v37, v38, v39, v40⟩ : T_paths_Line), (⟨v41, v42, v43, v44⟩ : T_paths_Line)⟩ : T_anon24), v45, v46⟩ : T_paths_State))) fun x93 =>
      bno (paths_Alive ((⟨(⟨(⟨v29, v30, v31, v32⟩ : T_paths_Line), (⟨v33, v34, v35, v36⟩ : T_paths_Line), (⟨v37, v38, v39, v40⟩ : T_paths_Line), (⟨v41, v42, v43, v44⟩ : T_paths_Line)⟩ : T_anon24), v45, v46⟩ : T_paths_State))) fun x94 =>
      bnd (decide ((x94.length : Int) = 0)) fun x95 =>
      bif x95 then (
        bnd (decide (x93 = (-1))) fun x97 =>
        bno (gd (x97 == true) (sennitlaw28_awake) default) fun x98 =>
        bnd (x97 && x98) fun x99 =>
        some x99
      ) else (
        bno (paths_Rates ((⟨(⟨(⟨v29, v30, v31, v32⟩ : T_paths_Line), (⟨v33, v34, v35, v36⟩ : T_paths_Line), (⟨v37, v38, v39, v40⟩ : T_paths_Line), (⟨v41, v42, v43, v44⟩ : T_paths_Line)⟩ : T_anon24), v45, v46⟩ : T_paths_State))) fun x100 =>
        bno (sennitlaw28_is x94 x93) fun x101 =>
        bnd (!decide ((x100.length : Int) = 4)) fun x102 =>
        bnd ((!x101) || x102) fun x103 =>
        bif x103 then (
          some false
        ) else (
          sennitlaw28_PathsBest_L1 a1 v29 v30 v31 v32 v33 v34 v35 v36 v37 v38 v39 v40 v41 v42 v43 v44 v45 v46 x93 x94 x100 fuel 0
        )
      )
    )
def sennitlaw28_PathsBest (a0 : (List T_sennitlaw28_Act)) (a1 : Int) : Option Bool :=
  bnd (decide (80 < (a0.length : Int))) fun x1 =>
  bif x1 then (
    bno (sennitlaw28_awake) fun x3 =>
    some x3
  ) else (
    bno (paths_New) fun x4 =>
    sennitlaw28_PathsBest_L0 a0 a1 fuel 0 x4.Lines.c0.Up x4.Lines.c0.Dead x4.Lines.c0.Bytes x4.Lines.c0.Ticks x4.Lines.c1.Up x4.Lines.c1.Dead x4.Lines.c1.Bytes x4.Lines.c1.Ticks x4.Lines.c2.Up x4.Lines.c2.Dead x4.Lines.c2.Bytes x4.Lines.c2.Ticks x4.Lines.c3.Up x4.Lines.c3.Dead x4.Lines.c3.Bytes x4.Lines.c3.Ticks x4.Pinned x4.Binds
  )
end Go.Fn
set_option linter.unusedSimpArgs false
set_option linter.unusedVariables false
open Go Go.IL
namespace Go.Fn



end Go.Fn
