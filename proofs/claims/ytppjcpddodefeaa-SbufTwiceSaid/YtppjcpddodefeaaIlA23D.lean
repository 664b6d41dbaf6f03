/-
  A part of the proof: rules and plain facts. No condition.
-/
import Derived.Test.YtppjcpddodefeaaIlSl
import Derived.Test.YtppjcpddodefeaaIlS
set_option linter.all false
open Go.RowKit (Below)
namespace Go.IL
/-! Lists that are owned and cut off. -/
section
variable {P : Program} {O : Origin} {N : Nat} {S S' : St} {o : Oper} {t : Nat} {Q : Exit → St → Prop}
theorem Rel.same {E : Env} {β : Names} {a : Act} (h : Rel O N S E β a) (h1 : ∀ s, S'.get s = S.get s) (h2 : ∀ j, S'.ent j = S.ent j) : Rel O N S' E β a := by
  have h3 : S'.ent = S.ent := funext h2
  exact ⟨h.n, h.nd, h3 ▸ h.h, fun s => (h1 s).symm ▸ h.sl s⟩
theorem Rel.kill {E : Env} {β : Names} {a : Act} (h : Rel O N S E β a) (t : Nat) : Rel O N (S.set t .dead) E β a := by
  refine ⟨h.n, h.nd, h.h, fun s => ?_⟩
  by_cases hst : t = s
  · subst hst; simp only [St.get, St.set, look_cons, if_true]; exact .dead _ _
  · have := h.sl s
    simpa [St.get, St.set, look_cons, hst] using this
theorem ent_setE {S : St} {id : Nat} {e : Ent} : (S.setE id e).ent id = e := by simp [St.ent, entL, St.setE, look_cons]
theorem ent_setE_ne {S : St} {id j : Nat} {e : Ent} (h : j ≠ id) : (S.setE id e).ent j = S.ent j := by simp [St.ent, entL, St.setE, look_cons, Ne.symm h]
/-- A block is told by less than it has. -/
theorem Rel.shrunk {E : Env} {β : Names} {a : Act} (h : Rel O N S E β a) {id : Nat} {e : TypeId} {ds ds' j : List D} (he : S.ent id = .blk e ds) (hd : ds = ds' ++ j) : Rel O N (S.setE id (.blk e ds')) E β a := by
  subst hd
  have hent := h.h.ent id
  rw [he] at hent
  have held : ∀ j, ((S.setE id (.blk e ds')).ent j).held = (S.ent j).held := fun j => by
    by_cases hj : j = id
    · subst hj; rw [ent_setE, he]; rfl
    · rw [ent_setE_ne hj]
  refine ⟨h.n, h.nd, { h.h with ent := fun k => ?_, inj := fun i j k hi hj => h.h.inj i j k (held i ▸ hi) (held j ▸ hj) }, h.sl⟩
  by_cases hk : k = id
  · subst hk
    rw [ent_setE]
    rcases hent with ⟨h1, h2⟩ | ⟨b, vs, sp, h1, h2, h3, h4, h5⟩
    · exact .inl ⟨h1, (List.append_eq_nil_iff.1 h2).1⟩
    · refine .inr ⟨b, vs.take ds'.length, vs.drop ds'.length ++ sp, h1, h2, by rw [← List.append_assoc, List.take_append_drop]; exact h3, h4, ?_⟩
      have := h5.take ds'.length
      rwa [List.take_append_of_le_length (Nat.le_refl _), List.take_length] at this
  · rw [ent_setE_ne hk]; exact h.h.ent k
theorem flat_split {α : Type} (f : Enc0 α) (l : List α) (k : Nat) : D.flat (l.map f.d) = D.flat ((l.take k).map f.d) ++ D.flat ((l.drop k).map f.d) := by
  rw [f.flat_append, List.take_append_drop]
/-- 's[:i]' of a list that is owned. -/
theorem iop_truncO {α : Type} (f : Enc0 α) {T e e' : TypeId} {x y : Operand} {z : Option Value} {bytes id n : Nat} {l r : List α} {k : IntKind} {h : Int} (ho : o.op = .slice T x none (some y) none) (hd : o.dst = some t) (ht : t < N)
    (hu : P.underlying T = some (.slice e)) (hi : TI P e z f.sz bytes) (hx : SV S x (.osl id f.sz n)) (he : S.ent id = .blk e' (D.flat (l.map f.d))) (hn : l.length ≤ n) (hy : SV S y (.int k h)) (hc : cut l 0 h = some r) :
    IOp P O N o S ((S.setE id (.blk e' (D.flat (r.map f.d)))).set t (.osl id f.sz r.length)) := by
  obtain ⟨⟨_, h0, h1⟩, hr'⟩ := cut_e hc
  have hr2 : l.take h.toNat = r := by simpa using hr'
  have hrl : r.length = h.toNat := by rw [← hr2, List.length_take]; omega
  have key : IOp P O N o S (S.set t (.osl id f.sz r.length)) := iop_of hd ht fun E β a hr => by
    have hhi : Bound S (n : Int) (some y) h := ⟨_, hy⟩
    have hlo : Bound S 0 none 0 := rfl
    have h1 := hx.rd hr
    generalize hv : a.eval x = v at h1
    cases h1 with
    | nosl =>
      have hb := run_bounds (P := P) hr (isS := true) hlo hhi (Int.le_refl 0) h0 (by omega) (Nat.le_refl _)
      have e1 : h.toNat = 0 := by omega
      refine ⟨.slice none 0 0, ?_, by rw [hrl, e1]; exact .nosl _ _ _⟩
      simp only [Option.map_none, Option.map_some] at hb
      simp [execOp, ho, hv, Instr.sliceAt, Instr.slice, run_underlying hu, hb, hi.run_size, e1]
    | osl _ _ b _ cap _ hb' hc' hsz c e2 f2 hcap hcs hcm =>
      have hb := run_bounds (P := P) hr (isS := true) hlo hhi (Int.le_refl 0) h0 (by omega) hc'
      simp only [Option.map_none, Option.map_some] at hb
      refine ⟨.slice (some ⟨b, 0, none⟩) h.toNat cap, ?_, by rw [hrl]; exact .osl _ _ b _ cap _ hb' (by omega) hsz c e2 f2 hcap hcs hcm⟩
      simp [execOp, ho, hv, Instr.sliceAt, Instr.slice, run_underlying hu, hb, hi.run_size, Addr.add]
  intro E β a hr next Q hn'
  refine key E β a hr next Q fun E' β' a' hr' => hn' E' β' a' ?_
  exact hr'.shrunk (ds' := D.flat (r.map f.d)) (j := D.flat ((l.drop h.toNat).map f.d)) he (by rw [← hr2]; exact flat_split f l _)
theorem iop_slice_nils {T e : TypeId} {x y : Operand} {z : Option Value} {size bytes : Nat} {k : IntKind} (ho : o.op = .slice T x (some y) none none) (hd : o.dst = some t) (ht : t < N)
    (hu : P.underlying T = some (.slice e)) (hi : TI P e z size bytes) (hx : SV S x .nils) (hy : SV S y (.int k 0)) : IOp P O N o S (S.set t .nils) :=
  iop_of hd ht fun E β a hr => by
    have h1 := hx.rd hr
    generalize hv : a.eval x = v at h1
    cases h1
    refine ⟨.slice none 0 0, ?_, .nils _⟩
    simp [execOp, ho, hv, Instr.sliceAt, Instr.slice, run_underlying hu, hi.run_size, Instr.sliceBounds, Instr.sliceBound, rd_int (hy.rd hr), asIntOf]
theorem iop_clear_nils {T e : TypeId} {x : Operand} (ho : o.op = .call { callee := .builtin .clear, args := #[x], argTypes := #[T] }) (hd : o.dst = none)
    (hu : P.underlying T = some (.slice e)) (hx : SV S x .nils) : IOp P O N o S S := by
  intro E β a hr next Q hn
  have h1 := hx.rd hr
  generalize hv : a.eval x = v at h1
  cases h1
  have : (execOp a.eval o).run P E.w = .ok (.value (.tuple #[])) E.w := by
    simp [execOp, ho, resolve, invoke, builtin, hv, Builtin.clear_, run_underlying hu]
  unfold Oper.wp
  rw [this]
  simp only [Oper.upon, hd, Act.put]
  exact hn E β _ hr
/-- 'clear(s[i:])' of a list that is owned: what is ahead of it stays. -/
theorem ils_clrtail {α : Type} (f : Enc0 α) {ops : Array Oper} {o1 o2 : Oper} {c : List Oper} {T e e' : TypeId} {y : Operand} {z : Value} {bytes id n t1 tx : Nat} {l r : List α} {k : IntKind} {i : Int} (g1 : quiet o1 = true) (g2 : quiet o2 = true)
    (ho1 : o1.op = .slice T (.tmp tx) (some y) none none) (hd1 : o1.dst = some t1) (ht : t1 < N) (ho2 : o2.op = .call { callee := .builtin .clear, args := #[.tmp t1], argTypes := #[T] }) (hd2 : o2.dst = none)
    (hu : P.underlying T = some (.slice e)) (hi : TI P e (some z) f.sz bytes) (hz : z.cells.size = f.sz) (hz1 : z.cells.toList.all Value.oneCell' = true) (hx : S.get tx = .osl id f.sz n) (he : S.ent id = .blk e' (D.flat (l.map f.d))) (hn : l.length = n)
    (hy : ∀ S1 : St, (∀ s, tx ≠ s → S1.get s = S.get s) → SV S1 y (.int k i)) (hc : cut l 0 i = some r) (K : ILS P O N ops c (((S.setE id (.blk e' (D.flat (r.map f.d)))).set tx .dead).set t1 .dead) Q) : ILS P O N ops (o1 :: o2 :: c) S Q := by
  obtain ⟨⟨_, h0, h1⟩, hr'⟩ := cut_e hc
  have hr2 : l.take i.toNat = r := by simpa using hr'
  have hfl := f.flat_len l
  intro E β a hr
  rcases hr.opened hx he (by rw [hfl, hn]) with ⟨hn0, h3⟩ | ⟨cap, hc1, hc2, h3⟩
  · have hl0 : l = [] := List.length_eq_zero_iff.1 (by omega)
    subst hl0
    obtain rfl : i = 0 := by simp at h1; omega
    obtain rfl : r = [] := by simpa using hr2.symm
    refine ils_cons g1 (iop_slice_nils ho1 hd1 ht hu hi (sv (d := .nils) (by simp [St.op, St.get, St.set, look_cons])) (hy _ fun s hs => by simp [St.get, St.set, look_cons, hs])) (ils_cons g2 (iop_clear_nils ho2 hd2 hu (sv (d := .nils) (by simp [St.op, St.get, St.set, look_cons]))) ?_) E β a h3
    intro E' β' a' h4
    refine K E' β' a' (((h4.kill tx).kill t1).same (fun s => ?_) (fun j => ?_))
    · by_cases h6 : t1 = s <;> by_cases h7 : tx = s <;> simp [St.get, St.set, St.setE, look_cons, h6, h7]
    · simp only [St.ent, entL, St.set, St.setE, look_cons]
      split
      · rename_i h5; subst h5; exact he.symm
      · rfl
  · have hyS := hy ((S.setE id (.blk e' (D.flat (l.map f.d) ++ List.replicate ((cap - n) * f.sz) .dead))).set tx (.rsl id f.sz 0 n cap)) fun s hs => by simp [St.get, St.set, St.setE, look_cons, hs]
    have hin : i.toNat ≤ n := by omega
    have hmul : i.toNat * f.sz + (n - i.toNat) * f.sz = n * f.sz := by rw [← Nat.add_mul]; congr 1; omega
    refine ils_cons g1 (iop_slice_rsl (id := id) (off := 0) (len := n) (cap := cap) (sz := f.sz) (l := i) (h := n) (m := cap) (d := .rsl id f.sz (i.toNat * f.sz) (n - i.toNat) (cap - i.toNat)) ho1 hd1 ht hu hi (sv (d := .rsl _ _ _ _ _) (by simp [St.op, St.get, St.set, look_cons])) ⟨_, hyS⟩ rfl rfl (by simp) h0 (by omega) (by omega) (by omega) (by simp))
      (ils_cons g2 (iop_clear_rsl (e' := e') (ds := D.flat (l.map f.d) ++ List.replicate ((cap - n) * f.sz) D.dead) ho2 hd2 hu hi hz hz1 (sv (d := .rsl id f.sz (i.toNat * f.sz) (n - i.toNat) (cap - i.toNat)) (by simp [St.op, St.get, St.set, look_cons])) (by simp [St.ent, entL, St.set, St.setE, look_cons]) (by rw [List.length_append, hfl, hn, hmul]; exact Nat.le_add_right _ _) rfl) ?_) E β a h3
    intro E' β' a' h4
    have h5 := h4.shrunk (id := id) (e := e') (ds' := D.flat (r.map f.d)) (j := List.replicate ((n - i.toNat) * f.sz) .dead ++ (D.flat (l.map f.d) ++ List.replicate ((cap - n) * f.sz) D.dead).drop (n * f.sz)) ent_setE (by
      unfold splice
      rw [List.length_replicate, hmul, List.take_append_of_le_length (by rw [hfl, hn]; exact Nat.mul_le_mul_right _ hin), f.flat_take, hr2, List.append_assoc])
    refine K E' β' a' (((h5.kill tx).kill t1).same (fun s => ?_) (fun j => ?_))
    · by_cases h6 : t1 = s <;> by_cases h7 : tx = s <;> simp [St.get, St.set, St.setE, look_cons, h6, h7]
    · simp only [St.ent, entL, St.set, St.setE, look_cons]; repeat' split <;> rfl
theorem cut_le {α : Type} {l r : List α} {a b : Int} (h : cut l a b = some r) : r.length ≤ l.length := by
  obtain ⟨_, hr⟩ := cut_e h
  rw [← hr, List.length_drop, List.length_take]; omega
end
end Go.IL
open Go.RowKit (Below)
namespace Go.IL
/-! Calls that are handed memory, in any order with others. -/
section
variable {P : Program} {O : Origin} {N : Nat} {S S' : St} {o : Oper} {t : Nat} {Q : Exit → St → Prop}
structure HandM (S : St) (k : Nat) (A : List Nat) (H0 : List (Nat × Ent)) : Prop where
  nd : A.Nodup
  cov : A.all (fun i => (H0.map fun x => sig k A x.1).contains i) = true
  ents : ∀ x ∈ H0, givenB A x.1 = true ∧ x.2.held = true ∧ S.ent (sig k A x.1) = x.2.ren (sig k A) ∧ x.2.refsIn (givenB A) = true
def backM (m : Nat) (A : List Nat) (i : Nat) : Bool := Nat.blt i m || givenB A i
theorem iop_enterM {f : FuncId} {ds ds' : List D} {r r' : D} {H0 H1 H2 : List (Nat × Ent)} (k m : Nat) (A : List Nat) (hd : o.dst = some t) (ht : t < N)
    (h : ∀ E β a, Rel O N S E β a → ∃ vs : List Value, (execOp a.eval o).run P E.w = .ok (.enter f vs.toArray) E.w ∧ RdL E β vs ds') (hds : D.renL (sig k A) ds = ds') (hp : D.refsInL (givenB A) ds = true)
    (hkm : k + m ≤ 1000) (hfr : ∀ j, j < m → S.ent (k + j) = .fresh) (hh : HandM S k A H0) (hf : FnH P f ds H0 r H1) (hrr : r.ren (sig k A) = r') (hrp : r.refsIn (backM m A) = true) (hH1 : ∀ x ∈ H1, backM m A x.1 = true ∧ x.2.refsIn (backM m A) = true)
    (hH2 : afterH k A H0 H1 S.H = H2) : IOp P O N o S (St.set ⟨S.sl, H2⟩ t r') := by
  intro E β a hr next Q hn
  obtain ⟨vs, hrun, hv⟩ := h E β a hr
  unfold Oper.wp
  rw [hrun]
  simp only [Oper.upon, hd]
  subst hds hrr hH2
  let βc : Names := fun i => if givenB A i = true then β (sig k A i) else none
  have hβc : ∀ id, givenB A id = true → βc id = β (sig k A id) := fun id hid => by simp [βc, hid]
  have hvc : RdL E βc vs ds := RdL.ren hβc ds hv hp
  have h0 : ∀ i, (entL H0 i).held = true → givenB A i = true ∧ S.ent (sig k A i) = (entL H0 i).ren (sig k A) ∧ (entL H0 i).refsIn (givenB A) = true := fun i hi => by
    have h1 := hh.ents _ (entL_held hi)
    exact ⟨h1.1, h1.2.2.1, h1.2.2.2⟩
  have hcall : HOk ⟨E.w, E.X, footB βc H0, βc, none, fun _ => [], fun _ => 0, fun _ => [], fun _ => (#[], .skip, .skip)⟩ E βc (entL H0) := {
    os := rfl, tape := rfl, output := rfl, size := Nat.le_refl _, block := fun _ _ _ => rfl, xlt := hr.h.xlt, xold := fun _ _ _ _ => Iff.rfl, le := Env.le.refl _
    gid := fun i b hi => by
      by_cases hg : givenB A i = true
      · simp only [givenB, Bool.and_eq_true, Nat.ble_eq] at hg; exact hg.1
      · simp [βc, hg] at hi
    given := fun _ _ hi => hi
    ent := fun i => by
      cases hhe : (entL H0 i).held with
      | true =>
        obtain ⟨h1, h2, h3⟩ := h0 i hhe
        have he := hr.h.ent (sig k A i)
        rw [h2] at he
        have hown : ∀ b, βc i = some b → (⟨E.w, E.X, footB βc H0, βc, none, fun _ => [], fun _ => 0, fun _ => [], fun _ => (#[], .skip, .skip)⟩ : Origin).own b := fun b hb => .inr ⟨i, hhe, hb⟩
        cases hE : entL H0 i with
        | none => trivial
        | fresh => rw [hE] at hhe; cases hhe
        | blk e es =>
          rw [hE] at he h3
          rcases he with ⟨g1, g2⟩ | ⟨b, ws, sp, g1, g2, g3, g4, g5⟩
          · exact .inl ⟨(hβc i h1).trans g1, renL_nil g2⟩
          · exact .inr ⟨b, ws, sp, (hβc i h1).trans g1, hown b ((hβc i h1).trans g1), g3, g4, RdL.ren hβc es g5 h3⟩
        | tail e sz n =>
          rw [hE] at he
          rcases he with ⟨g1, g2⟩ | ⟨b, c, g1, g2, g3, g4⟩
          · exact .inl ⟨(hβc i h1).trans g1, g2⟩
          · exact .inr ⟨b, c, (hβc i h1).trans g1, hown b ((hβc i h1).trans g1), g3, g4⟩
        | loop lk es st pe =>
          rw [hE] at h3; cases h3
        | kept n es => rw [hE] at hhe; cases hhe
      | false =>
        cases hE : entL H0 i with
        | none => trivial
        | fresh =>
          show βc i = none
          by_cases hm : i ∈ H0.map (·.1)
          · obtain ⟨e, h1, h2⟩ := look_of_mem (z := defE i) hm
            have h3 := hh.ents _ h1
            have : entL H0 i = e := h2
            rw [hE] at this; rw [← this] at h3; exact absurd h3.2.1 (by simp [Ent.held])
          · have : entL H0 i = defE i := look_not_mem hm
            rw [hE] at this
            unfold defE at this
            split at this
            · cases this
            · rename_i hlt
              have : ¬ givenB A i = true := by simp only [givenB, Bool.and_eq_true, Nat.ble_eq]; omega
              simp [βc, this]
        | blk => rw [hE] at hhe; cases hhe
        | tail => rw [hE] at hhe; cases hhe
        | loop => rw [hE] at hhe; cases hhe
        | kept n es =>
          exfalso
          by_cases hm : i ∈ H0.map (·.1)
          · obtain ⟨e, h1, h2⟩ := look_of_mem (z := defE i) hm
            have h3 := hh.ents _ h1
            have : entL H0 i = e := h2
            rw [hE] at this; rw [← this] at h3; exact absurd h3.2.1 (by simp [Ent.held])
          · have : entL H0 i = defE i := look_not_mem hm
            rw [hE] at this
            unfold defE at this
            split at this <;> cases this
    inj := fun i j b hi hj h1 h2 => by
      obtain ⟨a1, a2, _⟩ := h0 i hi
      obtain ⟨b1, b2, _⟩ := h0 j hj
      have h1 : β (sig k A i) = some b := (hβc i a1).symm.trans h1
      have h2 : β (sig k A j) = some b := (hβc j b1).symm.trans h2
      exact sig_inj hh.nd a1 b1 (hr.h.inj _ _ b (by rw [a2, Ent.held_ren]; exact hi) (by rw [b2, Ent.held_ren]; exact hj) h1 h2) }
  refine (hf E βc vs hr.h.xlt hcall.gid hcall hvc).mono ?_
  rintro e w' ⟨v, rfl, E', β', rfl, hok, hrd⟩
  -- old blocks that were not handed over
  have hfoot : ∀ b, footB βc H0 b → ∃ i, givenB A i = true ∧ (S.ent (sig k A i)).held = true ∧ β (sig k A i) = some b := fun b ⟨i, hi, hb⟩ => by
    obtain ⟨h1, h2, _⟩ := h0 i hi
    exact ⟨i, h1, by rw [h2, Ent.held_ren]; exact hi, by rw [← hβc i h1]; exact hb⟩
  have hfown : ∀ b, footB βc H0 b → O.own b := fun b hb => by
    obtain ⟨i, _, h2, h3⟩ := hfoot b hb
    have he := hr.h.ent (sig k A i)
    exact hr.h.own h2 h3
  have hcown : ∀ b, (⟨E.w, E.X, footB βc H0, βc, none, fun _ => [], fun _ => 0, fun _ => [], fun _ => (#[], .skip, .skip)⟩ : Origin).own b → O.own b := fun b hb => by
    rcases hb with hb | hb
    · exact .inl (Nat.le_trans hr.h.size hb)
    · exact hfown b hb
  have hfrE : ∀ i, k ≤ i ∧ i < k + m → S.ent i = .fresh := fun i h1 => by
    have := hfr (i - k) (by omega)
    rwa [show k + (i - k) = i by omega] at this
  have hfresh : ∀ i, k ≤ i → i < k + m → β i = none := fun i h1 h2 => by
    have he := hr.h.ent i
    rw [hfrE i ⟨h1, h2⟩] at he; exact he
  let βn : Names := fun i => if k ≤ i ∧ i < k + m then β' (i - k) else if i ∈ A then β' (1000 + A.idxOf i) else β i
  have hAk : ∀ i, i ∈ A → ¬ (k ≤ i ∧ i < k + m) := fun i hi hki => by
    have h1 := List.all_eq_true.1 hh.cov i hi
    obtain ⟨x, hx, hxe⟩ := List.mem_map.1 (by simpa using h1 : i ∈ H0.map (fun x => sig k A x.1))
    have h2 := hh.ents x hx
    rw [hxe, hfrE i hki] at h2
    have h3 : (x.2.ren (sig k A)).held = true := by rw [Ent.held_ren]; exact h2.2.1
    rw [← h2.2.2.1] at h3; cases h3
  have hnA : ∀ i, i ∈ A → βn i = β' (1000 + A.idxOf i) := fun i hi => by simp [βn, hAk i hi, hi]
  have hnO : ∀ i, i ∉ A → ¬ (k ≤ i ∧ i < k + m) → βn i = β i := fun i h1 h2 => by simp [βn, h1, h2]
  have hβ1 : β.le βn := fun i b hi => by
    by_cases hki : k ≤ i ∧ i < k + m
    · rw [hfresh i hki.1 hki.2] at hi; cases hi
    · by_cases hA : i ∈ A
      · rw [hnA i hA]
        obtain ⟨h1, h2⟩ := given_of_mem (k := k) hA
        exact hok.given _ _ (((hβc _ h1).trans (by rw [h2])).trans hi)
      · rw [hnO i hA hki]; exact hi
  have hβ2 : ∀ i, backM m A i = true → βn (sig k A i) = β' i := fun i hi => by
    by_cases hg : givenB A i = true
    · rw [hnA _ (sig_given hg), sig_idx hh.nd hg]
    · simp only [backM, hg, Bool.or_false, Nat.blt_eq] at hi
      have h2 : ¬ 1000 ≤ i := by omega
      have h1 : sig k A i = k + i := by simp [sig, h2]
      rw [h1]
      simp [βn, hi]
  have hle : E.le E' := hok.le
  -- the entries behind the call
  have hkey1 : ∀ i, backM m A i = true → ∀ j, backM m A j = true → sig k A i = sig k A j → i = j := fun i hi j hj hij => by
    by_cases hgi : givenB A i = true
    · by_cases hgj : givenB A j = true
      · exact sig_inj hh.nd hgi hgj hij
      · exfalso
        simp only [backM, hgj, Bool.or_false, Nat.blt_eq] at hj
        have h2 : sig k A j = k + j := by simp [sig, show ¬ 1000 ≤ j by omega]
        exact hAk _ (sig_given (k := k) hgi) (by rw [hij, h2]; omega)
    · by_cases hgj : givenB A j = true
      · exfalso
        simp only [backM, hgi, Bool.or_false, Nat.blt_eq] at hi
        have h2 : sig k A i = k + i := by simp [sig, show ¬ 1000 ≤ i by omega]
        exact hAk _ (sig_given (k := k) hgj) (by rw [← hij, h2]; omega)
      · simp only [backM, hgi, hgj, Bool.or_false, Nat.blt_eq] at hi hj
        simp only [sig, show ¬ 1000 ≤ i by omega, show ¬ 1000 ≤ j by omega, if_false] at hij
        omega
  have hent : ∀ i, (St.set ⟨S.sl, afterH k A H0 H1 S.H⟩ t (r.ren (sig k A))).ent i =
      if i ∈ H1.map (fun x => sig k A x.1) then (look (defE i) i (H1.map fun x => (sig k A x.1, x.2.ren (sig k A)))) else if i ∈ H0.map (fun x => sig k A x.1) then .none else S.ent i := fun i => by
    simp only [St.ent, entL, St.set, afterH, look_append, List.map_map]
    have e1 : (Prod.fst ∘ fun x : Nat × Ent => (sig k A x.1, x.2.ren (sig k A))) = fun x => sig k A x.1 := rfl
    have e2 : (Prod.fst ∘ fun x : Nat × Ent => (sig k A x.1, Ent.none)) = fun x => sig k A x.1 := rfl
    rw [e1, e2]
    split
    · rfl
    · split
      · rename_i h1 h2
        obtain ⟨e, h3, h4⟩ := look_of_mem (z := defE i) (l := H0.map fun x => (sig k A x.1, Ent.none)) (by rw [List.map_map, e2]; exact h2)
        rw [h4]
        obtain ⟨x, _, hx⟩ := List.mem_map.1 h3
        cases hx; rfl
      · rfl
  have hlook1 : ∀ j, backM m A j = true → j ∈ H1.map (·.1) → look (defE (sig k A j)) (sig k A j) (H1.map fun x => (sig k A x.1, x.2.ren (sig k A))) = (entL H1 j).ren (sig k A) := by
    intro j hj
    unfold entL
    have aux : ∀ (z z' : Ent) (l : List (Nat × Ent)), (∀ x ∈ l, backM m A x.1 = true) → j ∈ l.map (·.1) → look z (sig k A j) (l.map fun x => (sig k A x.1, x.2.ren (sig k A))) = (look z' j l).ren (sig k A) := by
      intro z z' l
      induction l with
      | nil => intro _ h; simp at h
      | cons x l ih =>
        obtain ⟨i, e⟩ := x
        intro hl hm
        simp only [List.map_cons, look_cons]
        by_cases hij : i = j
        · subst hij; rw [if_pos rfl, if_pos rfl]
        · rw [if_neg (fun h => hij (hkey1 i (hl (i, e) List.mem_cons_self) j hj h)), if_neg hij]
          refine ih (fun x hx => hl x (List.mem_cons_of_mem _ hx)) ?_
          simp only [List.map_cons, List.mem_cons] at hm
          rcases hm with h | h
          · exact absurd h.symm hij
          · exact h
    exact aux _ _ H1 (fun x hx => (hH1 x hx).1)
  have hH1r : ∀ j, j ∈ H1.map (·.1) → backM m A j = true ∧ (entL H1 j).refsIn (backM m A) = true := fun j hj => by
    obtain ⟨e, h1, h2⟩ := look_of_mem (z := defE j) hj
    have h3 := hH1 _ h1
    exact ⟨h3.1, by rw [show entL H1 j = e from h2]; exact h3.2⟩
  have cases1 : ∀ i, i ∈ H1.map (fun x => sig k A x.1) → ∃ j, j ∈ H1.map (·.1) ∧ backM m A j = true ∧ i = sig k A j := fun i hi => by
    obtain ⟨x, hx, rfl⟩ := List.mem_map.1 hi
    exact ⟨x.1, List.mem_map.2 ⟨x, hx, rfl⟩, (hH1 x hx).1, rfl⟩
  -- an entry that was not handed over
  have hold : ∀ i, i ∉ H1.map (fun x => sig k A x.1) → i ∉ H0.map (fun x => sig k A x.1) → (S.ent i).held = true → ∀ b, β i = some b → βn i = some b ∧ b < E.w.heap.size ∧ ¬ footB βc H0 b := fun i h1 h2 h3 b hb => by
    refine ⟨hβ1 i b hb, ?_, ?_⟩
    · exact hr.h.lt h3 hb
    · rintro ⟨j, hj, hbj⟩
      obtain ⟨g1, g2, _⟩ := h0 j hj
      have : i = sig k A j := hr.h.inj i (sig k A j) b h3 (by rw [g2, Ent.held_ren]; exact hj) hb (by rw [← hβc j g1]; exact hbj)
      exact h2 (List.mem_map.2 ⟨_, entL_held hj, this.symm⟩)
  have hcov : ∀ i, i ∈ A → i ∈ H0.map (fun x => sig k A x.1) := fun i hi => by
    have := List.all_eq_true.1 hh.cov i hi
    simpa using this
  have hold' : ∀ i, i ∉ H0.map (fun x => sig k A x.1) → S.ent i ≠ .fresh → βn i = β i := fun i h0 hf => by
    refine hnO i (fun hA => h0 (hcov i hA)) (fun hki => hf ?_)
    exact hfrE i hki
  refine hn E' βn _ ⟨by simp [Act.put, hr.n], hr.nd.mono (fun b hx => (hok.block b (heap_lt hx) (fun hf => by obtain ⟨i, _, h2, h3⟩ := hfoot b hf; exact hr.h.nodef h2 h3 _ hx)).trans hx), ?_, ?_⟩
  · exact {
      os := hok.os.trans hr.h.os, tape := hok.tape.trans hr.h.tape, output := hok.output.trans hr.h.output, size := Nat.le_trans hr.h.size hok.size
      block := fun j hj hf => by
        have hnf : ¬ footB βc H0 j := fun h => by
          rcases hfown j h with h1 | h1
          · omega
          · exact hf h1
        exact (hok.block j (Nat.lt_of_lt_of_le hj hr.h.size) hnf).trans (hr.h.block j hj hf)
      xlt := hok.xlt
      xold := fun b o hb hf => by
        have hnf : ¬ footB βc H0 b := fun h => by
          rcases hfown b h with h1 | h1
          · omega
          · exact hf h1
        exact (hok.xold b o (Nat.lt_of_lt_of_le hb hr.h.size) hnf).trans (hr.h.xold b o hb hf)
      le := hr.h.le.trans hle
      gid := hr.h.gid
      given := fun i b hi => hβ1 i b (hr.h.given i b hi)
      ent := fun i => by
        rw [hent i]
        by_cases hi1 : i ∈ H1.map (fun x => sig k A x.1)
        · rw [if_pos hi1]
          obtain ⟨j, hj, hbj, rfl⟩ := cases1 i hi1
          rw [hlook1 j hbj hj]
          have he := hok.ent j
          have hrf := (hH1r j hj).2
          have hb2 := hβ2 j hbj
          cases hE : entL H1 j with
          | none => trivial
          | fresh => rw [hE] at he; exact hb2.trans he
          | blk e es =>
            rw [hE] at he hrf
            rcases he with ⟨g1, g2⟩ | ⟨b, ws, sp, g1, g2, g3, g4, g5⟩
            · exact .inl ⟨hb2.trans g1, by rw [g2]; rfl⟩
            · exact .inr ⟨b, ws, sp, hb2.trans g1, hcown b g2, g3, g4, RdL.renp (fun id b hid hb => (hβ2 id hid).trans hb) g5 hrf⟩
          | tail e sz n =>
            rw [hE] at he
            rcases he with ⟨g1, g2⟩ | ⟨b, c, g1, g2, g3, g4⟩
            · exact .inl ⟨hb2.trans g1, g2⟩
            · exact .inr ⟨b, c, hb2.trans g1, hcown b g2, g3, g4⟩
          | loop lk es st pe =>
            rw [hE] at hrf; cases hrf
          | kept n es => rw [hE] at hrf; cases hrf
        · rw [if_neg hi1]
          by_cases hi0 : i ∈ H0.map (fun x => sig k A x.1)
          · rw [if_pos hi0]; trivial
          · rw [if_neg hi0]
            have he := hr.h.ent i
            have hnb : ∀ b, (S.ent i).held = true → β i = some b → βn i = some b ∧ E'.w.heap[b]? = E.w.heap[b]? ∧ ∀ o, (E'.X b o ↔ E.X b o) := fun b hhe hb => by
              obtain ⟨g1, g2, g3⟩ := hold i hi1 hi0 hhe b hb
              exact ⟨g1, hok.block b g2 g3, fun o => hok.xold b o g2 g3⟩
            cases hE : S.ent i with
            | none => trivial
            | fresh =>
              rw [hE] at he
              show βn i = none
              by_cases hki : k ≤ i ∧ i < k + m
              · -- a fresh name of the callee's that is told by nothing
                have hbi : i - k ∉ H1.map (·.1) := fun hm => by
                  have hbb := (hH1r _ hm).1
                  refine hi1 ?_
                  obtain ⟨x, hx, hxe⟩ := List.mem_map.1 hm
                  refine List.mem_map.2 ⟨x, hx, ?_⟩
                  have hx' : x.1 = i - k := hxe
                  rw [hx']
                  simp only [sig, show ¬ 1000 ≤ i - k by omega, if_false]
                  omega
                have h3 := hok.ent (i - k)
                have h4 : entL H1 (i - k) = defE (i - k) := look_not_mem hbi
                rw [h4, defE, if_neg (by omega)] at h3
                simp only [βn, hki, and_self, if_true]
                exact h3
              · rw [hnO i (fun hA => hi0 (hcov i hA)) hki]; exact he
            | blk e es =>
              rw [hE] at he
              rcases he with ⟨g1, g2⟩ | ⟨b, ws, sp, g1, g2, g3, g4, g5⟩
              · exact .inl ⟨(hold' i hi0 (by rw [hE]; exact fun h => by cases h)).trans g1, g2⟩
              · obtain ⟨f1, f2, f3⟩ := hnb b (by rw [hE]; rfl) g1
                exact .inr ⟨b, ws, sp, f1, g2, f2.trans g3, fun o => (f3 o).2 (g4 o), RdL.mono hle hβ1 g5⟩
            | tail e sz n =>
              rw [hE] at he
              rcases he with ⟨g1, g2⟩ | ⟨b, c, g1, g2, g3, g4⟩
              · exact .inl ⟨(hold' i hi0 (by rw [hE]; exact fun h => by cases h)).trans g1, g2⟩
              · obtain ⟨f1, f2, f3⟩ := hnb b (by rw [hE]; rfl) g1
                exact .inr ⟨b, c, f1, g2, f2.trans g3, fun o ho => (f3 o).2 (g4 o ho)⟩
            | loop lk es st pe =>
              rw [hE] at he
              obtain ⟨b, q, g1, g2, g3, g4, g5, g6, g7, g8, g9, g10⟩ := he
              obtain ⟨f1, f2, f3⟩ := hnb b (by rw [hE]; rfl) g1
              exact ⟨b, q, f1, g2, f2.trans g3, fun o => (f3 o).2 (g4 o), g5, g6, g7, g8, g9, g10.1, RdL.mono hle hβ1 g10.2⟩
            | kept n es =>
              rw [hE] at he
              exact ⟨RdL.mono hle hβ1 he.1, fun c hc => (hok.block c (heap_lt (he.2 c hc)) (fun hf => by obtain ⟨i, _, h2, h3⟩ := hfoot c hf; exact hr.h.nodef h2 h3 _ (he.2 c hc))).trans (he.2 c hc)⟩
      inj := fun i j b hi hj hbi hbj => by
        rw [hent i] at hi
        rw [hent j] at hj
        have hone : ∀ i, i ∈ H1.map (fun x => sig k A x.1) → (look (defE i) i (H1.map fun x => (sig k A x.1, x.2.ren (sig k A)))).held = true → βn i = some b → ∃ a, (entL H1 a).held = true ∧ β' a = some b ∧ i = sig k A a ∧ backM m A a = true := fun i hm hh hb => by
          obtain ⟨a, ha, hba, rfl⟩ := cases1 i hm
          rw [hlook1 a hba ha, Ent.held_ren] at hh
          exact ⟨a, hh, (hβ2 a hba).symm.trans hb, rfl, hba⟩
        have hown1 : ∀ a, (entL H1 a).held = true → β' a = some b → E.w.heap.size ≤ b ∨ footB βc H0 b := fun a hh hb => by
          exact hok.own hh hb
        have hto : ∀ i, i ∉ H0.map (fun x => sig k A x.1) → (S.ent i).held = true → βn i = some b → β i = some b := fun i h0 hh hb => by
          rw [← hold' i h0 (fun h => by rw [h] at hh; cases hh)]; exact hb
        have hmix : ∀ i j, i ∈ H1.map (fun x => sig k A x.1) → (look (defE i) i (H1.map fun x => (sig k A x.1, x.2.ren (sig k A)))).held = true → βn i = some b → j ∉ H1.map (fun x => sig k A x.1) → j ∉ H0.map (fun x => sig k A x.1) → (S.ent j).held = true → βn j = some b → False := fun i j h1 h2 h3 h4 h5 h6 h7 => by
          obtain ⟨a, ha, hb, _⟩ := hone i h1 h2 h3
          obtain ⟨_, f2, f3⟩ := hold j h4 h5 h6 b (hto j h5 h6 h7)
          rcases hown1 a ha hb with h | h
          · omega
          · exact f3 h
        by_cases hi1 : i ∈ H1.map (fun x => sig k A x.1)
        · rw [if_pos hi1] at hi
          by_cases hj1 : j ∈ H1.map (fun x => sig k A x.1)
          · rw [if_pos hj1] at hj
            obtain ⟨a, ha, hab, rfl, _⟩ := hone i hi1 hi hbi
            obtain ⟨c, hc, hcb, rfl, _⟩ := hone j hj1 hj hbj
            rw [hok.inj a c b ha hc hab hcb]
          · rw [if_neg hj1] at hj
            by_cases hj0 : j ∈ H0.map (fun x => sig k A x.1)
            · rw [if_pos hj0] at hj; cases hj
            · rw [if_neg hj0] at hj
              exact (hmix i j hi1 hi hbi hj1 hj0 hj hbj).elim
        · rw [if_neg hi1] at hi
          by_cases hi0 : i ∈ H0.map (fun x => sig k A x.1)
          · rw [if_pos hi0] at hi; cases hi
          · rw [if_neg hi0] at hi
            by_cases hj1 : j ∈ H1.map (fun x => sig k A x.1)
            · rw [if_pos hj1] at hj
              exact (hmix j i hj1 hj hbj hi1 hi0 hi hbi).elim
            · rw [if_neg hj1] at hj
              by_cases hj0 : j ∈ H0.map (fun x => sig k A x.1)
              · rw [if_pos hj0] at hj; cases hj
              · rw [if_neg hj0] at hj
                exact hr.h.inj i j b hi hj (hto i hi0 hi hbi) (hto j hj0 hj hbj) }
  · intro s
    have hts : t < a.tmps.size := hr.n ▸ ht
    by_cases hst : t = s
    · subst hst
      have h1 := Rd.renp (p := backM m A) (fun id b hid hb => (hβ2 id hid).trans hb) hrd hrp
      simpa [Act.put, St.get, St.set, look_cons, hts] using h1
    · have := Rd.mono hle hβ1 (hr.sl s)
      simpa [Act.put, St.get, St.set, look_cons, hst, Array.getElem?_setIfInBounds_ne] using this

theorem iop_callM {f : FuncId} {xs : List Operand} {ts : Array TypeId} {ds ds' : List D} {r r' : D} {H0 H1 U : List (Nat × Ent)} (k m : Nat) (A : List Nat) (ho : o.op = .call { callee := .value (.func f), args := xs.toArray, argTypes := ts }) (hd : o.dst = some t) (ht : t < N)
    (hc : Callable P f) (hx : SVs S xs ds') (hds : D.renL (sig k A) ds = ds') (hp : D.refsInL (givenB A) ds = true) (hkm : Nat.ble (k + m) 1000 = true) (hfr : ∀ e ∈ (List.range m).map (fun j => S.ent (k + j)), e = .fresh)
    (hh : HandM S k A H0) (hf : FnH P f ds H0 r H1) (hrr : r.ren (sig k A) = r') (hrp : r.refsIn (backM m A) = true) (hH1 : ∀ x ∈ H1, backM m A x.1 = true ∧ x.2.refsIn (backM m A) = true)
    (hU : (H1.map fun x => (sig k A x.1, x.2.ren (sig k A))) ++ (H0.map fun x => (sig k A x.1, Ent.none)) = U) : IOp P O N o S ⟨(t, r') :: S.sl, U ++ S.H⟩ := by
  have h := iop_enterM (P := P) (O := O) (N := N) (S := S) (o := o) (t := t) (f := f) (ds := ds) (ds' := ds') (r := r) (r' := r') (H0 := H0) (H1 := H1) (H2 := U ++ S.H) k m A hd ht (fun E β a hr => ⟨xs.map a.eval, by
    simp [execOp, ho, resolve, Deferred.ofValue, Act.eval, invoke, run_callFunc hc], hx.rd hr⟩) hds hp (Nat.le_of_ble_eq_true hkm) (fun j hj => hfr _ (List.mem_map.2 ⟨j, List.mem_range.2 hj, rfl⟩)) hh hf hrr hrp hH1 (by rw [← hU, afterH, List.append_assoc])
  exact h
end
end Go.IL
namespace Go.IL
section
variable {P : Program} {O : Origin} {N : Nat} {S S' : St} {o : Oper} {t : Nat} {Q : Exit → St → Prop}

/-! Comparison of structs and arrays, nested ones too. -/
end
end Go.IL
open Go.RowKit (Below)
namespace Go.IL
/-- What 'copy' leaves. -/
def cpy {α : Type} (xs ys : List α) : List α := ys.take xs.length ++ xs.drop ys.length
theorem cpy_len {α : Type} (xs ys : List α) : (cpy xs ys).length = xs.length := by simp [cpy]; omega
theorem cpy_lenh {α : Type} {xs ys zs : List α} {n : Nat} (h : cpy xs ys = zs) (hl : xs.length = n) : zs.length = n := by rw [← h, cpy_len, hl]
section
variable {P : Program} {O : Origin} {N : Nat} {S S' : St} {o : Oper} {t : Nat} {Q : Exit → St → Prop}
theorem flat_cpy {α : Type} (f : Enc0 α) (xs ys : List α) : splice (D.flat (xs.map f.d)) 0 ((D.flat (ys.map f.d)).take (min ys.length xs.length * f.sz)) = D.flat ((cpy xs ys).map f.d) := by
  have e1 : (D.flat (ys.map f.d)).take (min ys.length xs.length * f.sz) = D.flat ((ys.take xs.length).map f.d) := by
    have h := flat_split f ys (min ys.length xs.length)
    have hl : (D.flat ((ys.take (min ys.length xs.length)).map f.d)).length = min ys.length xs.length * f.sz := by
      rw [f.flat_len, List.length_take]; congr 1; omega
    rw [h, ← hl, List.take_append_of_le_length (Nat.le_refl _), List.take_length]
    congr 2
    rcases Nat.le_total ys.length xs.length with h | h
    · rw [Nat.min_eq_left h, List.take_length, List.take_of_length_le h]
    · rw [Nat.min_eq_right h]
  rw [e1]
  unfold splice cpy
  have e2 : (D.flat ((ys.take xs.length).map f.d)).length = min ys.length xs.length * f.sz := by rw [f.flat_len, List.length_take]; congr 1; omega
  have e3 : (D.flat (xs.map f.d)).drop (min ys.length xs.length * f.sz) = D.flat ((xs.drop ys.length).map f.d) := by
    have h := flat_split f xs (min ys.length xs.length)
    have hl : (D.flat ((xs.take (min ys.length xs.length)).map f.d)).length = min ys.length xs.length * f.sz := by
      rw [f.flat_len, List.length_take]; congr 1; omega
    rw [h, ← hl, List.drop_append_of_le_length (Nat.le_refl _), List.drop_length, List.nil_append]
    congr 2
    rcases Nat.le_total ys.length xs.length with h | h
    · rw [Nat.min_eq_left h]
    · rw [Nat.min_eq_right h, List.drop_length, List.drop_of_length_le h]
  rw [e2, Nat.zero_add, e3, List.take_zero, List.nil_append, f.flat_append]
/-- 'copy' into a list that is owned. -/
theorem iop_copyO {α : Type} (f : Enc0 α) {T T2 e : TypeId} {x y : Operand} {id n : Nat} {e' : TypeId} {xs ys zs : List α} {z : Option Value} {bytes : Nat} (ho : o.op = .call { callee := .builtin .copy, args := #[x, y], argTypes := #[T, T2] }) (hd : o.dst = some t) (ht : t < N)
    (hu : P.underlying T = some (.slice e)) (hi : TI P e z f.sz bytes) (hx : S.op x = .osl id f.sz n) (hl : xs.length = n) (he : S.ent id = .blk e' (D.flat (xs.map f.d)))
    (hy : ∀ E β a, Rel O N S E β a → Src E β (a.eval y) ys.length (D.flat (ys.map f.d))) (hz : cpy xs ys = zs) : IOp P O N o S ((S.setE id (.blk e' (D.flat (zs.map f.d)))).set t (.int .i64 ((min ys.length n : Nat) : Int))) := by
  intro E β a hr next Q hn
  subst hz
  have h1 : Rd E β (a.eval x) (.osl id f.sz n) := hx ▸ hr.op x
  have hone : ((D.flat (ys.map f.d)).take (min ys.length n * f.sz)).all D.one = true := all_take' (f.one ys) _
  generalize hv : a.eval x = v at h1
  cases h1 with
  | nosl =>
    have hx0 : xs = [] := List.length_eq_zero_iff.1 hl
    subst hx0
    have e0 : cpy ([] : List α) ys = [] := by simp [cpy]
    rw [e0] at hn
    have hsame : Rel O N (S.setE id (.blk e' (D.flat (([] : List α).map f.d)))) E β a := hr.same (fun _ => rfl) (fun j => by
      by_cases hj : j = id
      · subst hj; rw [ent_setE, he]
      · rw [ent_setE_ne hj])
    have hrun0 : ∀ r, (Builtin.copy_ #[T, T2] o.type #[a.eval x, a.eval y]).run P E.w = r → (execOp a.eval o).run P E.w = r.andThen fun v w' => .ok (.value v) w' := fun r hr' => by
      simp [execOp, ho, resolve, invoke, builtin, hr']
    have hra : (Builtin.copy_ #[T, T2] o.type #[a.eval x, a.eval y]).run P E.w = .ok (goInt 0) E.w := by
      have hl0 : ∀ q : Addr, (loadCells q 0).run P E.w = .ok #[] E.w := fun q => by simpa using run_loadCells_list (P := P) E.w q [] (by simp)
      have hmn : ∀ k, Nat.min k 0 = 0 := fun k => Nat.min_zero k
      rcases hy E β a hr with ⟨hyv | ⟨ad, sc, hyv⟩, _, _⟩ | ⟨yb, yoff, ycap, us, hyv, _, _⟩ <;>
      · rw [hv, hyv]
        simp [Builtin.copy_, run_underlying hu, Builtin.lenOf, Builtin.firstCells, hi.run_size, hmn, storeCells, hl0]
    unfold Oper.wp
    rw [hrun0 _ hra]
    simp only [Result.andThen_ok, Oper.upon, hd]
    exact hn E β _ (hsame.set ht (by rw [Nat.min_zero]; unfold goInt; exact .int _ _ _))
  | osl _ _ b _ cap _ hb hc hsz c e2 f2 hcap hcs hcm =>
    subst hl
    exact copy_core ho hd ht hu hi he hy (f.flat_len ys) hone (by rw [f.flat_len]; omega) rfl (flat_cpy f xs ys) E β a hr (by
      rw [hv]; exact .rsl _ _ _ 0 _ cap b 0 hb hc hsz ⟨fun _ => rfl, Nat.le_refl _⟩ c e2 f2 hcap (by omega) hcm) next Q hn
/-- What reads as a list that is full. -/
theorem rd_sliceF {E : Env} {β : Names} {v : Value} {l : List D} (h : Rd E β v (.slice true l)) :
    (v = .slice none 0 0 ∧ l = []) ∨ (∃ b off sz vs, v = .slice (some ⟨b, off, none⟩) l.length l.length ∧ (∀ d ∈ l, d.cells.length = sz) ∧ 0 < sz ∧ E.row b off vs ∧ RdL E β0 vs (D.flat l)) ∨ ∃ ad, v = .slice (some ad) 0 0 ∧ l = [] := by
  cases h with
  | slice _ b off len cap sz _ vs _ hl hc hf hz hsz hr hv => subst hl; rw [hf rfl]; exact .inr (.inl ⟨b, off, sz, vs, rfl, hz, hsz, hr, hv⟩)
  | nslice => exact .inl ⟨rfl, rfl⟩
  | eslice _ ad cap _ hf => rw [hf rfl]; exact .inr (.inr ⟨ad, rfl, rfl⟩)
theorem run_boundsF {E : Env} {β : Names} {a : Act} (hr : Rel O N S E β a) {len cap : Nat} {y m : Operand} {k1 k2 : IntKind} {h : Int} (hy : SV S y (.int k1 h)) (hm : SV S m (.int k2 h)) (h0 : 0 ≤ h) (h1 : h ≤ cap) :
    (Instr.sliceBounds true len cap none (some (a.eval y)) (some (a.eval m))).run P E.w = .ok (0, h.toNat, h.toNat) E.w := by
  have e1 : (h.toNat : Int) = h := by omega
  simp [Instr.sliceBounds, Instr.sliceBound, rd_int (hy.rd hr), rd_int (hm.rd hr), asIntOf, h0, h1, e1]
/-- 's[:n:n]' of any list. -/
theorem iop_slice3 {T e : TypeId} {x y m : Operand} {s r : List D} {f : Bool} {h : Int} {k1 k2 : IntKind} {z : Option Value} {size bytes : Nat} (ho : o.op = .slice T x none (some y) (some m)) (hd : o.dst = some t) (ht : t < N) (hu : P.underlying T = some (.slice e)) (hi' : TI P e z size bytes)
    (hx : SV S x (.slice f s)) (hz : ∀ d ∈ s, d.cells.length = size) (hy : SV S y (.int k1 h)) (hm : SV S m (.int k2 h)) (h0 : 0 ≤ h) (h2 : h ≤ s.length) (hr' : s.take h.toNat = r) : IOp P O N o S (S.set t (.slice true r)) :=
  iop_of hd ht fun E β a hr => by
    subst hr'
    rcases rd_slice (hx.rd hr) with ⟨hev, rfl⟩ | ⟨b, off, cap, sz, vs, hev, hc, _, hzz, hsp, hrow, hvs⟩ | ⟨ad, cap, hev, rfl⟩
    · have e1 : h = 0 := by simp at h2; omega
      subst e1
      have hb := run_boundsF (P := P) hr (len := 0) (cap := 0) hy hm (Int.le_refl 0) (Int.le_refl 0)
      refine ⟨.slice none 0 0, ?_, by simpa using Rd.nslice β true⟩
      simp [execOp, ho, hev, Instr.sliceAt, Instr.slice, run_underlying hu, hb, hi'.run_size]
    · have hb := run_boundsF (P := P) hr (len := s.length) (cap := cap) hy hm h0 (by omega)
      have hlen : (s.take h.toNat).length = h.toNat := by rw [List.length_take]; omega
      by_cases hs0 : h.toNat = 0
      · have hs : s.take h.toNat = [] := by rw [hs0]; rfl
        refine ⟨.slice (some ⟨b, off, none⟩) 0 0, ?_, by rw [hs]; exact .eslice _ _ 0 true (fun _ => rfl)⟩
        rw [hs0] at hb
        simp [execOp, ho, hev, Instr.sliceAt, Instr.slice, run_underlying hu, hb, hi'.run_size, add_none]
      · have hflat := hvs.take (h.toNat * size)
        have hsplit : D.flat s = D.flat (s.take h.toNat) ++ D.flat (s.drop h.toNat) := by
          have : D.flat (s.take h.toNat) ++ D.flat (s.drop h.toNat) = D.flat (s.take h.toNat ++ s.drop h.toNat) := by simp only [D.flat]; rw [← List.flatMap_append]
          rw [this, List.take_append_drop]
        have hfl : (D.flat (s.take h.toNat)).length = h.toNat * size := by
          have : ∀ l : List D, (∀ d ∈ l, d.cells.length = size) → (D.flat l).length = l.length * size := by
            intro l
            induction l with
            | nil => intro _; simp [D.flat]
            | cons d l ih => intro hh; have h1 := ih (fun d' hd' => hh d' (by simp [hd'])); have h2 := hh d (by simp); simp only [D.flat, List.flatMap_cons, List.length_append, List.length_cons] at *; rw [h1, h2, Nat.add_mul]; omega
          rw [this _ (fun d hd => hz d (List.mem_of_mem_take hd)), hlen]
        rw [hsplit, ← hfl, List.take_append_of_le_length (Nat.le_refl _), List.take_length] at hflat
        refine ⟨.slice (some ⟨b, off, none⟩) h.toNat h.toNat, ?_, .slice _ b off _ _ size true (vs.take (D.flat (s.take h.toNat)).length) _ hlen (Nat.le_refl _) (fun _ => rfl) (fun d hd => hz d (List.mem_of_mem_take hd)) ?_ (fun k v hk => ?_) hflat⟩
        · simp [execOp, ho, hev, Instr.sliceAt, Instr.slice, run_underlying hu, hb, hi'.run_size, add_none]
        · have : s ≠ [] := by rintro rfl; simp at h2; omega
          obtain ⟨d, hd⟩ := List.exists_mem_of_ne_nil s this
          have h1 := hz d hd
          have h3 := hzz d hd
          omega
        · rw [List.getElem?_take] at hk
          split at hk
          · exact hrow k v hk
          · cases hk
    · have e1 : h = 0 := by simp at h2; omega
      subst e1
      have hb := run_boundsF (P := P) hr (len := 0) (cap := cap) hy hm (Int.le_refl 0) (by omega)
      refine ⟨.slice (some ad) 0 0, ?_, by simpa using Rd.eslice β ad 0 true (fun _ => rfl)⟩
      simp [execOp, ho, hev, Instr.sliceAt, Instr.slice, run_underlying hu, hb, hi'.run_size, Addr.add]
/-- 'append' to a list that is full, of at least one. -/
theorem iop_app_full {T e : TypeId} {x y : Operand} {z : Value} {size bytes m : Nat} {l es : List D} (id' : Nat)
    (ho : o.op = .call { callee := .builtin .append, args := #[x, y], argTypes := #[T, T] }) (hd : o.dst = some t) (ht : t < N)
    (hu : P.underlying T = some (.slice e)) (hi : TI P e (some z) size bytes) (hz : z.cells.size = size) (hsp : 0 < size) (hfr : S.ent id' = .fresh)
    (hx : SV S x (.slice true l)) (hl : (D.flat l).length = l.length * size) (hy : ∀ E β a, Rel O N S E β a → Src E β (a.eval y) m es) (hes : es.length = m * size) (hne : 0 < m)
    (hm : l.length + m ≤ maxLen) (hb : (l.length + m) * bytes ≤ 140737488355328) :
    IOp P O N o S ((S.setE id' (.blk e (D.flat l ++ es))).set t (.osl id' size (l.length + m))) := by
  have hs1 : S.sl = S.sl := rfl
  have hs2 : ∀ j, S.ent j = S.ent j ∨ S.ent j = .none := fun _ => .inl rfl
  intro E β a hr next Q hn
  obtain ⟨i, hi1, hi2, hi3, hi4⟩ := hi.at
  have hfre : β id' = none := by have := hr.h.ent id'; rw [hfr] at this; exact this
  have hrun : ∀ v, (Builtin.append_ #[T, T] o.type #[a.eval x, a.eval y]).run P E.w = v → (execOp a.eval o).run P E.w = v.andThen fun v w' => .ok (.value v) w' := fun v hv => by
    simp [execOp, ho, resolve, invoke, builtin, hv]
  have hts : t < a.tmps.size := hr.n ▸ ht
  let S2 : St := (S.setE id' (.blk e (D.flat l ++ es))).set t (.osl id' size (l.length + m))
  have slots : ∀ (E' : Env) (β' : Names) (v : Value), E.le E' → β.le β' → Rd E' β' v (.osl id' size (l.length + m)) → ∀ s, Rd E' β' ((a.put (some t) v).tmps.getD s undef) (S2.get s) := by
    intro E' β' v hle hβ hv s
    by_cases hst : t = s
    · subst hst
      simpa [S2, Act.put, St.get, St.set, look_cons, hts] using hv
    · have := Rd.mono hle hβ (hr.sl s)
      simpa [S2, Act.put, St.get, St.set, St.setE, look_cons, hst, Array.getElem?_setIfInBounds_ne, hs1] using this
  let β' : Nat → Names := fun b j => if j = id' then some b else β j
  have hβ : ∀ b, β.le (β' b) := fun b j k hj => by
    by_cases hji : j = id'
    · subst hji; rw [hfre] at hj; cases hj
    · simp [β', hji, hj]
  have hsame : ∀ j, j ≠ id' → S2.ent j = S.ent j := fun j hj => by simp [S2, St.ent, entL, St.setE, St.set, look_cons, Ne.symm hj]
  have hother : ∀ b j, j ≠ id' → (S2.ent j = S.ent j ∧ β' b j = β j) ∨ S2.ent j = .none := by
    intro b j hj
    rw [hsame j hj]
    rcases hs2 j with h | h
    · exact .inl ⟨h, by simp [β', hj]⟩
    · exact .inr h
  have hheld : ∀ j, j ≠ id' → (S2.ent j).held = true → (S.ent j).held = true := fun j hj h => by rw [← hsame j hj]; exact h
  have hheld0 : ∀ j, (S.ent j).held = true → (S.ent j).held = true := fun j h => by
    rcases hs2 j with h1 | h1
    · rw [← h1]; exact h
    · rw [h1] at h; cases h
  have hentid : S2.ent id' = .blk e (D.flat l ++ es) := by simp [S2, St.ent, entL, St.setE, St.set, look_cons]
  have fresh : ∀ (vs us : List Value) (cap : Nat), RdL E β vs (D.flat l) → RdL E β us es → l.length + m ≤ cap → cap ≤ maxLen →
      (Builtin.append_ #[T, T] o.type #[a.eval x, a.eval y]).run P E.w = .ok (.slice (some ⟨E.w.heap.size, 0, none⟩) (l.length + m) cap) (E.w.drew.alloc (.cells (vs.toArray ++ us.toArray ++ Builtin.zeroCells z.cells (cap - (l.length + m))) e)) →
      o.wp P a E.w next Q := by
    intro vs us cap hvs hus hcap hcm hra
    unfold Oper.wp
    rw [hrun _ hra]
    simp only [Result.andThen_ok, Oper.upon, hd]
    let E' : Env := ⟨E.w.drew.alloc (.cells (vs.toArray ++ us.toArray ++ Builtin.zeroCells z.cells (cap - (l.length + m))) e), fun b o => b = E.w.heap.size ∨ E.X b o⟩
    have hs : Step O E E' E.w.heap.size :=
      ⟨rfl, rfl, rfl, by simp [E'], by simp [E'], .inl hr.h.size, fun k hk _ => heap_alloc_old E.w.drew _ hk, fun k o hk => by simp [E', hk], fun _ h => Nat.lt_irrefl _ (heap_lt h)⟩
    have hle : E.le E' := hs.le (fun o v h1 _ => by have := World.block_lt_of_cell? _ _ h1; simp at this) (fun c e f h1 => by have := heap_lt h1; simp at this)
    have hnew : E'.w.heap[E.w.heap.size]? = some (.cells (vs.toArray ++ us.toArray ++ Builtin.zeroCells z.cells (cap - (l.length + m))) e (0, 0)) := heap_alloc_new E.w.drew _
    have hvl := hvs.length
    have hul := hus.length
    have hvs' := (RdL.mono hle (hβ E.w.heap.size) hvs).append (RdL.mono hle (hβ E.w.heap.size) hus)
    refine hn E' (β' E.w.heap.size) _ ⟨by simp [Act.put, hr.n], hr.nd.step hs, ?_, slots E' _ _ hle (hβ _) ?_⟩
    · refine HOk.put hr.h hs hle (hβ _) (fun j hj => hother _ j hj) ?_ (id := id') (by simp [β']) ?_ (fun _ _ => trivial)
      · intro j hj hh hbj
        have := hr.h.held_lt (hheld0 j (hheld j hj hh)) hbj
        omega
      · rw [hentid]
        exact ⟨vs ++ us, (Builtin.zeroCells z.cells (cap - (l.length + m))).toList, by rw [hnew]; simp, fun o => .inl rfl, hvs'⟩
    · exact .osl _ _ E.w.heap.size _ cap size (by simp [β']) hcap hsp _ _ _ hnew
        (by simp only [Array.size_append, List.size_toArray, size_zeroCells, hz, hvl, hul, hl, hes]; rw [← Nat.add_mul, ← Nat.add_mul]; exact Nat.mul_le_mul_right _ (by omega)) hcm
  rcases hy E β a hr with ⟨_, hm0, _⟩ | ⟨yb, yoff, ycap, us, hyv, hyr, hus⟩
  · omega
  · have hul : us.length = m * i.size := by rw [hus.length, hes, hi3]
    have up : ∀ {vs ds}, RdL E β0 vs ds → RdL E β vs ds := fun h => RdL.mono (Env.le.refl _) (fun _ _ h => by cases h) h
    rcases rd_sliceF (hx.rd hr) with ⟨hxv, rfl⟩ | ⟨b, off, sz, vs, hxv, _, _, hrow, hvs⟩ | ⟨ad, hxv, rfl⟩
    · simp only [List.length_nil, Nat.zero_add] at hm hb fresh ⊢
      have hra := run_append_nil (P := P) E.w T o.type e i z hu hi1 hi2 ⟨yb, yoff, none⟩ m ycap us hul hyr hne (by simp [maxLen] at hm; omega) (by rw [hi4]; omega)
      refine fresh [] us (grownCap E.w m 0 e) (.nil _) hus (by simpa using grownCap_ge _ _ _ _) (grownCap_le_maxLen _ _ _ _ (by simpa using hm)) ?_
      rw [hxv, hyv]
      simpa using hra
    · have hvl : vs.length = l.length * i.size := by rw [hvs.length, hl, hi3]
      have hra := run_append_grow (P := P) E.w T o.type e i z hu hi1 hi2 ⟨b, off, none⟩ l.length l.length vs hvl (fun j u hj => by rw [add_none]; exact (hrow j u hj).1) ⟨yb, yoff, none⟩ m ycap us hul hyr (by omega) (by simp [maxLen] at hm; omega) (growslice_fits (by omega) (by rw [hi4]; exact hb))
      refine fresh vs us (grownCap E.w (l.length + m) l.length e) (up hvs) hus (grownCap_ge _ _ _ _) (grownCap_le_maxLen _ _ _ _ hm) ?_
      rw [hxv, hyv]
      exact hra
    · have hra := run_append_grow (P := P) E.w T o.type e i z hu hi1 hi2 ad 0 0 [] (by simp) (fun j u hj => by simp at hj) ⟨yb, yoff, none⟩ m ycap us hul hyr (by omega) (by simp [maxLen] at hm; omega) (growslice_fits (by omega) (by rw [hi4]; simpa using hb))
      refine fresh [] us (grownCap E.w (0 + m) 0 e) (.nil _) hus (by simpa using grownCap_ge _ _ _ _) (grownCap_le_maxLen _ _ _ _ (by simpa using hm)) ?_
      rw [hxv, hyv]
      simpa using hra
theorem iop_cut3T {α : Type} (f : Enc α) {T e : TypeId} {x y m : Operand} {b : Bool} {k1 k2 : IntKind} {xs r : List α} {h : Int} {z : Option Value} {bytes : Nat} (ho : o.op = .slice T x none (some y) (some m)) (hd : o.dst = some t) (ht : t < N) (hu : P.underlying T = some (.slice e)) (hi' : TI P e z f.sz bytes)
    (hx : SV S x (.slice b (xs.map f.d))) (hy : SV S y (.int k1 h)) (hm : SV S m (.int k2 h)) (hc : cut xs 0 h = some r) : IOp P O N o S (S.set t (.slice true (r.map f.d))) := by
  obtain ⟨⟨_, h0, h1⟩, hr⟩ := cut_e hc
  exact iop_slice3 ho hd ht hu hi' hx (f.len xs) hy hm h0 (by simpa using h1) (by rw [← hr, ← List.map_take]; simp)
theorem iop_appF {α : Type} (f : Enc0 α) {T e : TypeId} {x y : Operand} {z : Value} {bytes : Nat} {xs ys zs : List α} (id' : Nat)
    (ho : o.op = .call { callee := .builtin .append, args := #[x, y], argTypes := #[T, T] }) (hd : o.dst = some t) (ht : t < N)
    (hu : P.underlying T = some (.slice e)) (hi : TI P e (some z) f.sz bytes) (hz : z.cells.size = f.sz)
    (hx : SV S x (.slice true (xs.map f.d))) (hfr : S.ent id' = .fresh)
    (hy : ∀ E β a, Rel O N S E β a → Src E β (a.eval y) ys.length (D.flat (ys.map f.d))) (hne : 0 < ys.length) (ha : app bytes xs ys = some zs) :
    IOp P O N o S ((S.setE id' (.blk e (D.flat (zs.map f.d)))).set t (.osl id' f.sz zs.length)) := by
  obtain ⟨⟨h1, h2⟩, rfl⟩ := app_e ha
  have := iop_app_full id' ho hd ht hu hi hz f.pos hfr hx (by rw [f.flat_len, List.length_map]) hy (f.flat_len ys) hne (by rw [List.length_map]; exact h1) (by rw [List.length_map]; exact h2)
  rwa [List.length_map, f.flat_append, ← List.length_append] at this
/-- An operation under a guard: where it is wanted, as if there were none. -/
theorem ils_gsplit {ops : Array Oper} {o : Oper} {l : List Oper} {j tj t : Nat} {want g : Bool} (hg : o.guard = some (j, want)) (hj : (ops[j]?).bind (·.dst) = some tj)
    (hb : Grd S tj want g) (hd : (o.dst, noDefer o.op) = (some t, true)) (ht : t < N) (h1 : g = true → ILS P O N ops ({ o with guard := none } :: l) S Q) (h2 : g = false → ILS P O N ops l (S.set t (.cnd g (.bool false))) Q) : ILS P O N ops (o :: l) S Q := by
  obtain ⟨hd, hnd⟩ := Prod.mk.inj hd
  intro E β a hr
  have hwant := hb.yields hr hj hg
  unfold wpListIn
  rw [hwant]
  cases g with
  | true =>
    simp only [if_true]
    have h3 := h1 rfl E β a hr
    have h4 : Oper.wpIn (fen O.round) 0 P { o with guard := none } a E.w (wpListIn (fen O.round) 0 P ops (fun e a' w' => ∃ S' E' β', E'.w = w' ∧ Rel O N S' E' β' a' ∧ Q e S') l) (fun e a' w' => ∃ S' E' β', E'.w = w' ∧ Rel O N S' E' β' a' ∧ Q e S') := by
      unfold wpListIn at h3
      simp only [Region.wanted, if_true] at h3
      exact h3
    have h5 : Oper.wpIn (fen O.round) 0 P o a E.w (wpListIn (fen O.round) 0 P ops (fun e a' w' => ∃ S' E' β', E'.w = w' ∧ Rel O N S' E' β' a' ∧ Q e S') l) (fun e a' w' => ∃ S' E' β', E'.w = w' ∧ Rel O N S' E' β' a' ∧ Q e S') := h4
    exact h5
  | false =>
    simp only [Bool.false_eq_true, if_false, hd]
    exact ⟨fun _ _ => trivial, (h2 rfl E β _ (hr.set ht (.cnd _ _ _ _ (fun h => by cases h) fun _ => rfl)))⟩
theorem Rel.uncnd {E : Env} {β : Names} {a : Act} (h : Rel O N S E β a) {t : Nat} {g : Bool} {d : D} (hS : S.get t = .cnd g d) (hg : g = true) : Rel O N (S.set t d) E β a := by
  refine ⟨h.n, h.nd, h.h, fun s => ?_⟩
  by_cases hs : t = s
  · subst hs
    have := h.sl t
    rw [hS] at this
    have e : (S.set t d).get t = d := by simp [St.get, St.set, look_cons]
    rw [e]
    generalize a.tmps.getD t undef = v at this ⊢
    cases this with
    | cnd _ _ _ _ k _ => exact k hg
  · have e : (S.set t d).get s = S.get s := by simp [St.get, St.set, look_cons, hs]
    rw [e]; exact h.sl s
/-- What is known to be there is taken as such. -/
theorem ils_uncnd {ops : Array Oper} {l : List Oper} (t : Nat) {g : Bool} {d : D} (hS : S.get t = .cnd g d) (hg : g = true) (k : ILS P O N ops l (S.set t d) Q) : ILS P O N ops l S Q :=
  fun E β a hr => k E β a (hr.uncnd hS hg)
/-- Bytes that are owned, as a string. -/
theorem iop_bytes_strO {T e e' dst : TypeId} {x : Operand} {id n : Nat} {l : List UInt8} (ho : o.op = .convert T dst x) (hd : o.dst = some t) (ht : t < N) (hu : P.underlying T = some (.slice e)) (he : P.underlying e = some (.int .u8)) (hdst : P.underlying dst = some .string)
    (hx : S.op x = .osl id eByte.sz n) (hl0 : l.length = n) (he' : S.ent id = .blk e' (D.flat (l.map eByte.d))) : IOp P O N o S (S.set t (.str l)) :=
  iop_of hd ht fun E β a hr => by
    refine ⟨.string (bs l), ?_, .str _ _⟩
    have hxr : Rd (E.all β S) β (a.eval x) (.slice false (l.map byteD)) := Rd.fd hr.h (FDT eByte he' hl0) (hx ▸ hr.op x)
    rcases rd_slice hxr with ⟨hev, hl⟩ | ⟨b, off, cap, sz, vs, hev, hc, _, hz, hsp, hrow, hvs⟩ | ⟨ad, cap, hev, hl⟩
    rotate_right
    · have hl1 : l = [] := by simpa using hl
      subst hl1
      have hz := run_loadCells_list (P := P) E.w ad [] (fun j v hj => by simp at hj)
      have := run_convert_bytes_string E.w T dst e (some ad) 0 cap hu he hdst (P := P)
      simp only [List.length_nil] at hz
      simp [execOp, ho, hev, this, Conv.bytesToString, Sem.run_bind, hz]
      rfl
    · have hl1 : l = [] := by simpa using hl
      subst hl1
      have := run_convert_bytes_nil (P := P) E.w T e hu he 0 0 dst hdst
      simp [execOp, ho, hev, this]
      rfl
    · rw [flat_byteD] at hvs
      have hv := rdl_bytes hvs
      have h1 := run_convert_bytes_arg (P := P) E.w T e hu he b off l.length cap (l.map fun c => (c.toNat : Int)) (by simp) (fun i hi => by
        have : E.w.cell? ⟨b, off + i, none⟩ = some (.int .u8 (l[i]).toNat) := (hrow i (.int .u8 (l[i]).toNat) (by rw [hv]; simp [hi])).1
        rw [this]; simp [List.getD, hi]) dst hdst
      have h2 : strOfNums (l.map fun c => (c.toNat : Int)) = bs l := by
        have : ∀ s t : ByteArray, s.data.toList = t.data.toList → s = t := fun s t h => by
          cases s; cases t; congr; exact Array.toList_inj.1 h
        apply this
        rw [strOfNums_data]
        simp [bs, List.map_map, Function.comp_def]
      rw [h2] at h1
      simp only [List.length_map] at hev
      simp [execOp, ho, hev, h1]
end
end Go.IL
namespace Go.IL
section
variable {P : Program} {O : Origin} {N : Nat} {S S' : St} {o : Oper} {t : Nat} {Q : Exit → St → Prop}
/-! Short names. -/
theorem lb {a b : Nat} (h : Nat.ble (a + 1) b = true) : a < b := Nat.le_of_ble_eq_true h
theorem svI {x : Operand} {k : IntKind} {n : Int} (h : S.op x = .int k n) : SV S x (.int k n) := sv h
theorem svB {x : Operand} {n : Bool} (h : S.op x = .bool n) : SV S x (.bool n) := sv h
theorem svR {x : Operand} {i j : Nat} (h : S.op x = .ref i j) : SV S x (.ref i j) := sv h
theorem svL {x : Operand} {f : Bool} {l : List D} (h : S.op x = .slice f l) : SV S x (.slice f l) := sv h
theorem svA {x : Operand} (l : List D) (h : S.op x = .agg l) : SV S x (.agg l) := sv h
theorem svcI {x : Operand} {b : Bool} {k : IntKind} {n : Int} (h : S.op x = .cnd b (.int k n)) (hb : b = true) : SV S x (.int k n) := svc h hb
theorem svcB {x : Operand} {b n : Bool} (h : S.op x = .cnd b (.bool n)) (hb : b = true) : SV S x (.bool n) := svc h hb
theorem svcR {x : Operand} {b : Bool} {i j : Nat} (h : S.op x = .cnd b (.ref i j)) (hb : b = true) : SV S x (.ref i j) := svc h hb
theorem svcL {x : Operand} {b : Bool} {f : Bool} {l : List D} (h : S.op x = .cnd b (.slice f l)) (hb : b = true) : SV S x (.slice f l) := svc h hb
theorem svcA {x : Operand} {b : Bool} (l : List D) (h : S.op x = .cnd b (.agg l)) (hb : b = true) : SV S x (.agg l) := svc h hb
theorem mvI {x : Operand} {k : IntKind} {n : Int} (ho : o.op = .move x) (hd : o.dst = some t) (ht : Nat.ble (t + 1) N = true) (hx : S.op x = .int k n) : IOp P O N o S (S.set t (.int k n)) := iop_move ho hd (lb ht) (sv hx)
theorem mvB {x : Operand} {n : Bool} (ho : o.op = .move x) (hd : o.dst = some t) (ht : Nat.ble (t + 1) N = true) (hx : S.op x = .bool n) : IOp P O N o S (S.set t (.bool n)) := iop_move ho hd (lb ht) (sv hx)
theorem mvR {x : Operand} {i j : Nat} (ho : o.op = .move x) (hd : o.dst = some t) (ht : Nat.ble (t + 1) N = true) (hx : S.op x = .ref i j) : IOp P O N o S (S.set t (.ref i j)) := iop_move ho hd (lb ht) (sv hx)
theorem mvL {x : Operand} {f : Bool} {l : List D} (ho : o.op = .move x) (hd : o.dst = some t) (ht : Nat.ble (t + 1) N = true) (hx : S.op x = .slice f l) : IOp P O N o S (S.set t (.slice f l)) := iop_move ho hd (lb ht) (sv hx)
theorem asI {x : Operand} {k : IntKind} {n : Int} (ho : o.op = .assign x) (hd : o.dst = some t) (ht : Nat.ble (t + 1) N = true) (hx : S.op x = .int k n) : IOp P O N o S (S.set t (.int k n)) := iop_assign ho hd (lb ht) (sv hx)
theorem asB {x : Operand} {n : Bool} (ho : o.op = .assign x) (hd : o.dst = some t) (ht : Nat.ble (t + 1) N = true) (hx : S.op x = .bool n) : IOp P O N o S (S.set t (.bool n)) := iop_assign ho hd (lb ht) (sv hx)
def LA (P : Program) (T : TypeId) (u : TypeDesc) (z : Option Value) (size bytes : Nat) (g : Bool) : Prop := P.underlying T = some u ∧ aggOf P T = g ∧ TI P T z size bytes ∧ 0 < size
theorem LA.mk {T : TypeId} {u : TypeDesc} {z : Option Value} {size bytes : Nat} {g : Bool} (h1 : P.underlying T = some u) (h2 : aggOf P T = g) (h3 : TI P T z size bytes) (h4 : 0 < size) : LA P T u z size bytes g := ⟨h1, h2, h3, h4⟩
theorem lra {T : TypeId} {x : Operand} {u : TypeDesc} {z : Option Value} {size bytes : Nat} {id off : Nat} {e : TypeId} {ds : List D} (cs : List D) (l : LA P T u z size bytes true) (ho : o.op = .load T x) (hd : o.dst = some t) (ht : Nat.ble (t + 1) N = true)
    (hx : S.op x = .ref id off) (he : S.ent id = .blk e ds) (hn : off + size ≤ ds.length) (hdd : (ds.drop off).take size = cs) : IOp P O N o S (S.set t (.agg cs)) := iop_load_ra ho hd (lb ht) l.1 l.2.1 l.2.2.1 l.2.2.2 (sv hx) he hn hdd
theorem lrL {T : TypeId} {x : Operand} {u : TypeDesc} {z : Option Value} {size bytes : Nat} {id off : Nat} {e : TypeId} {ds r : List D} {f : Bool} {m : List D} (l : LA P T u z size bytes false) (ho : o.op = .load T x) (hd : o.dst = some t) (ht : Nat.ble (t + 1) N = true)
    (hx : S.op x = .ref id off) (he : S.ent id = .blk e ds) (hn : off + size ≤ ds.length) (hdd : ds.drop off = .slice f m :: r) : IOp P O N o S (S.set t (.slice f m)) := iop_load_rs ho hd (lb ht) l.1 l.2.1 l.2.2.1 l.2.2.2 (sv hx) he hn hdd
theorem rva {x : Nat} {T : TypeId} {id off : Nat} {e : TypeId} {ds cs : List D} {u : TypeDesc} {z : Option Value} {size bytes : Nat} (l : LA P T u z size bytes true) (hx : S.get x = .ref id off) (he : S.ent id = .blk e ds)
    (hn : off + size ≤ ds.length) (hd : (ds.drop off).take size = cs) : ResV P S (.cell x T) (.agg cs) := resv_a hx he l.1 l.2.1 l.2.2.1 l.2.2.2 hn hd
theorem stA {T : TypeId} {x y : Operand} {z : Option Value} {size bytes : Nat} {id off : Nat} {e : TypeId} {ds : List D} (c ds' : List D) (hi : TI P T z size bytes) (ho : o.op = .store T x y) (hd : o.dst = none)
    (hx : S.op x = .ref id off) (he : S.ent id = .blk e ds) (hy : S.op y = .agg c) (hb : (D.agg c).boxable = true) (hsz : (D.agg c).cells.length = size) (h1 : (D.agg c).cells.all D.one = true)
    (hn : off + size ≤ ds.length) (hds : splice ds off (D.agg c).cells = ds') : IOp P O N o S (S.setE id (.blk e ds')) := iop_store ho hd hi (sv hx) he (sv hy) hb hsz h1 hn hds
theorem faR {T : TypeId} {x : Operand} {i : Nat} {fs : Array Field} {F : Field} {z : Option Value} {size bytes : Nat} {id off : Nat} (off' : Nat) (ho : o.op = .fieldAddr T x i) (hd : o.dst = some t) (ht : Nat.ble (t + 1) N = true)
    (hu : P.underlying T = some (.struct fs)) (hf : fs[i]? = some F) (hi : TI P F.type z size bytes) (hs : 0 < size) (hx : S.op x = .ref id off) (ho' : off + F.offset = off') : IOp P O N o S (S.set t (.ref id off')) :=
  iop_fieldAddr_ref ho hd (lb ht) hu hf hi hs (sv hx) ho'
theorem svaI {n : Node} {S0 : St} {s : Nat} {k : IntKind} {m : Int} (hA : Agree n S S0) (hm : n.rs.elem s = true) (h : S0.get s = .int k m) : SV S (.tmp s) (.int k m) := sv (agr hA hm h)
theorem svaB {n : Node} {S0 : St} {s : Nat} {m : Bool} (hA : Agree n S S0) (hm : n.rs.elem s = true) (h : S0.get s = .bool m) : SV S (.tmp s) (.bool m) := sv (agr hA hm h)
theorem svaR {n : Node} {S0 : St} {s i j : Nat} (hA : Agree n S S0) (hm : n.rs.elem s = true) (h : S0.get s = .ref i j) : SV S (.tmp s) (.ref i j) := sv (agr hA hm h)
theorem svaL {n : Node} {S0 : St} {s : Nat} {f : Bool} {l : List D} (hA : Agree n S S0) (hm : n.rs.elem s = true) (h : S0.get s = .slice f l) : SV S (.tmp s) (.slice f l) := sv (agr hA hm h)
theorem svaA {n : Node} {S0 : St} {s : Nat} (l : List D) (hA : Agree n S S0) (hm : n.rs.elem s = true) (h : S0.get s = .agg l) : SV S (.tmp s) (.agg l) := sv (agr hA hm h)
theorem AllW.s {ρ : Nat → Nat} {t : Nat} {d : D} {l : List (Nat × D)} (h : S.get t = d.ren ρ) (hr : d.refsIn S'.okn = true) (k : AllW (SlW S S' ρ) l) : AllW (SlW S S' ρ) ((t, d) :: l) := .cons (.same h hr) k
theorem AllW.sames {ρ : Nat → Nat} : ∀ {l : List (Nat × D)}, l.map (fun p => S.get p.1) = l.map (fun p => p.2.ren ρ) → (l.all fun p => p.2.refsIn S'.okn) = true → AllW (SlW S S' ρ) l
  | [], _, _ => .nil
  | (t, d) :: l, h, hr => by
    simp only [List.map_cons, List.cons.injEq] at h
    simp only [List.all_cons, Bool.and_eq_true] at hr
    exact .cons (.same h.1 hr.1) (AllW.sames h.2 hr.2)
end
theorem SubL.k {d : D} {ds ds' : List D} (t : SubL ds ds') : SubL (d :: ds) (d :: ds') := .cons (.refl d) t
theorem SubL.k4 {a b c d : D} {ds ds' : List D} (t : SubL ds ds') : SubL (a :: b :: c :: d :: ds) (a :: b :: c :: d :: ds') := .k (.k (.k (.k t)))
theorem FDL.k {S : St} {d : D} {ds ds' : List D} (t : FDL S ds ds') : FDL S (d :: ds) (d :: ds') := .cons (.refl d) t
theorem FDL.k4 {S : St} {a b c d : D} {ds ds' : List D} (t : FDL S ds ds') : FDL S (a :: b :: c :: d :: ds) (a :: b :: c :: d :: ds') := .k (.k (.k (.k t)))
theorem SubL.all : ∀ (l : List D), SubL l l
  | [] => .nil
  | d :: l => .cons (.refl d) (SubL.all l)
theorem FDL.all {S : St} (l : List D) : FDL S l l := fdl_refl l
end Go.IL
set_option linter.unusedSimpArgs false
set_option linter.unusedVariables false
open Go Go.IL
namespace Go.Fn
structure T_sennitlaw23_Act where
  Kind : Int
  N : Int
  Path : Int
  Fin : Bool
  deriving DecidableEq, Inhabited
def E_sennitlaw23_Act : Enc T_sennitlaw23_Act := ⟨⟨fun x => .agg [.int .u8 x.Kind, .int .u8 x.N, .int .u8 x.Path, .bool x.Fin], 4, by decide, fun _ => ⟨rfl, rfl⟩⟩, fun _ => rfl⟩

structure T_sbuf_Piece where
  From : Int
  To : Int
  Path : Int
  Fin : Bool
  deriving DecidableEq, Inhabited
def E_sbuf_Piece : Enc T_sbuf_Piece := ⟨⟨fun x => .agg [.int .i64 x.From, .int .i64 x.To, .int .i64 x.Path, .bool x.Fin], 4, by decide, fun _ => ⟨rfl, rfl⟩⟩, fun _ => rfl⟩

structure T_ivals_Ival where
  From : Int
  To : Int
  deriving DecidableEq, Inhabited
def E_ivals_Ival : Enc T_ivals_Ival := ⟨⟨fun x => .agg [.int .i64 x.From, .int .i64 x.To], 2, by decide, fun _ => ⟨rfl, rfl⟩⟩, fun _ => rfl⟩

structure T_sbuf_State where
  Base : Int
  Data : (List UInt8)
  Next : Int
  Pieces : (List T_sbuf_Piece)
  Lost : (List T_ivals_Ival)
  Closed : Bool
  Sent : Bool
  Again : Bool
  Done : Bool
  deriving DecidableEq, Inhabited
def sbuf_New  : Option T_sbuf_State :=
  some (⟨0, [], 0, [], [], false, false, false, false⟩ : T_sbuf_State)

def slices_Clone_ivals_Set_ivals_Ival (a0 : (List T_ivals_Ival)) : Option (List T_ivals_Ival) :=
  bothE a0 (
    some []
  ) (
    bno (app 16 ([] : (List T_ivals_Ival)) a0) fun x3 =>
    some x3
  )

def sbuf_State_own_h (a0 : T_sbuf_State) : Option (Int × (List UInt8) × Int × (List T_sbuf_Piece) × (List T_ivals_Ival) × Bool × Bool × Bool × Bool) :=
  bno (made 32 (a0.Pieces.length : Int) ((⟨0, 0, 0, false⟩ : T_sbuf_Piece) : T_sbuf_Piece)) fun x1 =>
  bnd (cpy x1 a0.Pieces) fun x2 =>
  bno (slices_Clone_ivals_Set_ivals_Ival a0.Lost) fun x3 =>
  some (a0.Base, a0.Data, a0.Next, x2, x3, a0.Closed, a0.Sent, a0.Again, a0.Done)

def ivals_end (a0 : Int) : Option Bool :=
  bnd (decide (0 ≤ a0)) fun x1 =>
  bnd (decide (a0 ≤ 4611686018427387903)) fun x2 =>
  bnd (x1 && x2) fun x3 =>
  some x3

def ivals_Ival_may (a0 : T_ivals_Ival) : Option Bool :=
  bno (ivals_end a0.From) fun x1 =>
  bno (gd (x1 == true) (ivals_end a0.To) default) fun x2 =>
  bnd (x1 && x2) fun x3 =>
  some x3

def ivals_Check_1 (a0 : T_ivals_Ival) : Option Bool :=
  bno (ivals_Ival_may (⟨a0.From, a0.To⟩ : T_ivals_Ival)) fun x1 =>
  some (!x1)

def slices_IndexFunc_ivals_Set_ivals_Ival_Check_1_L0 (a0 : (List T_ivals_Ival)) : Nat → Int → Option Int
  | 0, _ => none
  | n0 + 1, v7 =>
    bnd (decide (v7 < (a0.length : Int))) fun x14 =>
    bif x14 then (
      bno (gix a0 v7) fun x16 =>
      bno (ivals_Check_1 (⟨x16.From, x16.To⟩ : T_ivals_Ival)) fun x17 =>
      bif x17 then (
        some v7
      ) else (
        bnd (IntKind.wrap .i64 (v7 + 1)) fun x19 =>
        (slices_IndexFunc_ivals_Set_ivals_Ival_Check_1_L0 a0 n0) x19
      )
    ) else (
      some (-1)
    )
def slices_IndexFunc_ivals_Set_ivals_Ival_Check_1 (a0 : (List T_ivals_Ival)) : Option Int :=
  slices_IndexFunc_ivals_Set_ivals_Ival_Check_1_L0 a0 fuel 0

def slices_ContainsFunc_ivals_Set_ivals_Ival_Check_1 (a0 : (List T_ivals_Ival)) : Option Bool :=
  bno (slices_IndexFunc_ivals_Set_ivals_Ival_Check_1 a0) fun x1 =>
  bnd (decide (0 ≤ x1)) fun x2 =>
  some x2

def ivals_Ival_none (a0 : T_ivals_Ival) : Option Bool :=
  bnd (decide (a0.To ≤ a0.From)) fun x1 =>
  some x1

def slices_IndexFunc_ivals_Set_ivals_Ival_none_L0 (a0 : (List T_ivals_Ival)) : Nat → Int → Option Int
  | 0, _ => none
  | n0 + 1, v7 =>
    bnd (decide (v7 < (a0.length : Int))) fun x14 =>
    bif x14 then (
      bno (gix a0 v7) fun x16 =>
      bno (ivals_Ival_none (⟨x16.From, x16.To⟩ : T_ivals_Ival)) fun x17 =>
      bif x17 then (
        some v7
      ) else (
        bnd (IntKind.wrap .i64 (v7 + 1)) fun x19 =>
        (slices_IndexFunc_ivals_Set_ivals_Ival_none_L0 a0 n0) x19
      )
    ) else (
      some (-1)
    )
def slices_IndexFunc_ivals_Set_ivals_Ival_none (a0 : (List T_ivals_Ival)) : Option Int :=
  slices_IndexFunc_ivals_Set_ivals_Ival_none_L0 a0 fuel 0

def slices_ContainsFunc_ivals_Set_ivals_Ival_none (a0 : (List T_ivals_Ival)) : Option Bool :=
  bno (slices_IndexFunc_ivals_Set_ivals_Ival_none a0) fun x1 =>
  bnd (decide (0 ≤ x1)) fun x2 =>
  some x2

def ivals_Check_L0 (a0 : (List T_ivals_Ival)) : Nat → Int → Option Int
  | 0, _ => none
  | n0 + 1, v13 =>
    bnd (decide (v13 < (a0.length : Int))) fun x22 =>
    bif x22 then (
      bno (gix a0 v13) fun x24 =>
      bnd (IntKind.wrap .i64 (v13 - 1)) fun x25 =>
      bno (gix a0 x25) fun x26 =>
      bnd (decide (x24.From ≤ x26.To)) fun x27 =>
      bif x27 then (
        some 10
      ) else (
        bnd (IntKind.wrap .i64 (v13 + 1)) fun x29 =>
        (ivals_Check_L0 a0 n0) x29
      )
    ) else (
      some 0
    )
def ivals_Check (a0 : (List T_ivals_Ival)) : Option Int :=
  bno (slices_ContainsFunc_ivals_Set_ivals_Ival_Check_1 a0) fun x1 =>
  bif x1 then (
    some 8
  ) else (
    bno (slices_ContainsFunc_ivals_Set_ivals_Ival_none a0) fun x3 =>
    bif x3 then (
      some 4
    ) else (
      ivals_Check_L0 a0 fuel 1
    )
  )

def sbuf_State_lost (a0 : T_sbuf_State) : Option Bool :=
  bno (ivals_Check a0.Lost) fun x1 =>
  bnd (!decide (x1 = 0)) fun x2 =>
  bif x2 then (
    some false
  ) else (
    bnd (decide ((a0.Lost.length : Int) = 0)) fun x4 =>
    bno (gd (x4 == false) (gix a0.Lost 0) default) fun x5 =>
    bnd (decide (a0.Base ≤ x5.From)) fun x6 =>
    bnd (IntKind.wrap .i64 ((a0.Lost.length : Int) - 1)) fun x7 =>
    bno (gd ((x4 == false) && (x6 == true)) (gix a0.Lost x7) default) fun x8 =>
    bnd (decide (x8.To ≤ a0.Next)) fun x9 =>
    bnd (x6 && x9) fun x10 =>
    bnd (x4 || x10) fun x11 =>
    some x11
  )

def sbuf_path (a0 : Int) : Option Bool :=
  bnd (decide (0 ≤ a0)) fun x1 =>
  bnd (decide (a0 < 4)) fun x2 =>
  bnd (x1 && x2) fun x3 =>
  some x3

def sbuf_Piece_ival (a0 : T_sbuf_Piece) : Option T_ivals_Ival :=
  some (⟨a0.From, a0.To⟩ : T_ivals_Ival)

def slices_Clone_ivals_Set_ivals_Ival_h (a0 : (List T_ivals_Ival)) : Option (List T_ivals_Ival) :=
  bothE a0 (
    some ([] : (List T_ivals_Ival))
  ) (
    bno (app 16 ([] : (List T_ivals_Ival)) a0) fun x3 =>
    some x3
  )

def ivals_Cut_L1 (v52 : Int) (kk0 : Int → (List T_ivals_Ival) → Option (List T_ivals_Ival)) (x99 : T_ivals_Ival) (x100 : Int) (x101 : Int) : Nat → Int → (List T_ivals_Ival) → Option (List T_ivals_Ival)
  | 0, _, _ => none
  | n1 + 1, v113, v114 =>
    bnd (decide (v113 < 2)) fun x127 =>
    bif x127 then (
      bno (gix ([(⟨x99.From, x100⟩ : T_ivals_Ival), (⟨x101, x99.To⟩ : T_ivals_Ival)] : List T_ivals_Ival) v113) fun x129 =>
      bno (ivals_Ival_none (⟨x129.From, x129.To⟩ : T_ivals_Ival)) fun x130 =>
      bif ((!x130) == true) then (
        bno (app 16 v114 (([(⟨x129.From, x129.To⟩ : T_ivals_Ival)] : (List T_ivals_Ival)))) fun x132 =>
        bnd ((!x130) && (!true)) fun x133 =>
        bif x133 then (
          some x132
        ) else (
          bnd (IntKind.wrap .i64 (v113 + 1)) fun x135 =>
          (ivals_Cut_L1 v52 kk0 x99 x100 x101 n1) x135 x132
        )
      ) else (
        bnd ((!x130) && (!false)) fun x136 =>
        bif x136 then (
          some v114
        ) else (
          bnd (IntKind.wrap .i64 (v113 + 1)) fun x138 =>
          (ivals_Cut_L1 v52 kk0 x99 x100 x101 n1) x138 v114
        )
      )
    ) else (
      bnd (IntKind.wrap .i64 (v52 + 1)) fun x139 =>
      kk0 x139 v114
    )
def ivals_Cut_L0 (a0 : (List T_ivals_Ival)) (a1 : T_ivals_Ival) : Nat → Int → (List T_ivals_Ival) → Option (List T_ivals_Ival)
  | 0, _, _ => none
  | n0 + 1, v52, v53 =>
    bnd (decide (v52 < (a0.length : Int))) fun x97 =>
    bif x97 then (
      bno (gix a0 v52) fun x99 =>
      bnd (min x99.To a1.From) fun x100 =>
      bnd (max x99.From a1.To) fun x101 =>
      ivals_Cut_L1 v52 (ivals_Cut_L0 a0 a1 n0) x99 x100 x101 fuel 0 v53
    ) else (
      some v53
    )
def ivals_Cut (a0 : (List T_ivals_Ival)) (a1 : T_ivals_Ival) : Option (List T_ivals_Ival) :=
  bno (ivals_Ival_may (⟨a1.From, a1.To⟩ : T_ivals_Ival)) fun x1 =>
  bno (gd ((!x1) == false) (ivals_Ival_none (⟨a1.From, a1.To⟩ : T_ivals_Ival)) default) fun x2 =>
  bnd ((!x1) || x2) fun x3 =>
  bno (gd (x3 == false) (ivals_Check a0) default) fun x4 =>
  bnd (!decide (x4 = 0)) fun x5 =>
  bnd (x3 || x5) fun x6 =>
  bif x6 then (
    bno (slices_Clone_ivals_Set_ivals_Ival_h a0) fun x8 =>
    some x8
  ) else (
    ivals_Cut_L0 a0 a1 fuel 0 ([] : (List T_ivals_Ival))
  )

def ivals_Gaps_L0 (a0 : (List T_ivals_Ival)) : Nat → (List T_ivals_Ival) → Int → Option (List T_ivals_Ival)
  | 0, _, _ => none
  | n0 + 1, v13, v14 =>
    bnd (decide (v14 < (a0.length : Int))) fun x20 =>
    bif x20 then (
      bno (gix a0 v14) fun x22 =>
      bno (ivals_Cut v13 (⟨x22.From, x22.To⟩ : T_ivals_Ival)) fun x23 =>
      bnd (IntKind.wrap .i64 (v14 + 1)) fun x24 =>
      (ivals_Gaps_L0 a0 n0) x23 x24
    ) else (
      some v13
    )
def ivals_Gaps (a0 : (List T_ivals_Ival)) (a1 : T_ivals_Ival) : Option (List T_ivals_Ival) :=
  bno (ivals_Ival_may (⟨a1.From, a1.To⟩ : T_ivals_Ival)) fun x1 =>
  bno (gd ((!x1) == false) (ivals_Check a0) default) fun x2 =>
  bnd (!decide (x2 = 0)) fun x3 =>
  bnd ((!x1) || x3) fun x4 =>
  bno (gd (x4 == false) (ivals_Ival_none (⟨a1.From, a1.To⟩ : T_ivals_Ival)) default) fun x5 =>
  bnd (x4 || x5) fun x6 =>
  bif x6 then (
    some []
  ) else (
    ivals_Gaps_L0 a0 fuel (([(⟨a1.From, a1.To⟩ : T_ivals_Ival)] : (List T_ivals_Ival))) 0
  )

def slices_Equal_ivals_Set_ivals_Ival_L0 (a0 : (List T_ivals_Ival)) (a1 : (List T_ivals_Ival)) : Nat → Int → Option Bool
  | 0, _ => none
  | n0 + 1, v10 =>
    bnd (decide (v10 < (a0.length : Int))) fun x18 =>
    bif x18 then (
      bno (gix a0 v10) fun x20 =>
      bno (gix a1 v10) fun x21 =>
      bnd ((decide (x20.From = x21.From) && (decide (x20.To = x21.To) && true))) fun x22 =>
      bif (!x22) then (
        some false
      ) else (
        bnd (IntKind.wrap .i64 (v10 + 1)) fun x24 =>
        (slices_Equal_ivals_Set_ivals_Ival_L0 a0 a1 n0) x24
      )
    ) else (
      some true
    )
def slices_Equal_ivals_Set_ivals_Ival (a0 : (List T_ivals_Ival)) (a1 : (List T_ivals_Ival)) : Option Bool :=
  bnd (!decide ((a0.length : Int) = (a1.length : Int))) fun x1 =>
  bif x1 then (
    some false
  ) else (
    slices_Equal_ivals_Set_ivals_Ival_L0 a0 a1 fuel 0
  )

def ivals_Same (a0 : (List T_ivals_Ival)) (a1 : (List T_ivals_Ival)) : Option Bool :=
  bno (slices_Equal_ivals_Set_ivals_Ival a0 a1) fun x1 =>
  some x1

def sbuf_State_fits (a0 : T_sbuf_State) (a1 : T_sbuf_Piece) (a2 : Int) : Option Bool :=
  bnd (decide (a1.From < a2)) fun x1 =>
  bnd (decide (a1.To < a1.From)) fun x2 =>
  bnd (x1 || x2) fun x3 =>
  bnd (decide (a0.Next < a1.To)) fun x4 =>
  bnd (x3 || x4) fun x5 =>
  bno (gd (x5 == false) (sbuf_path a1.Path) default) fun x6 =>
  bnd (x5 || (!x6)) fun x7 =>
  bif x7 then (
    some false
  ) else (
    bnd (decide (a1.From = a1.To)) fun x9 =>
    bif x9 then (
      some a1.Fin
    ) else (
      bno (sbuf_Piece_ival a1) fun x11 =>
      bno (ivals_Gaps a0.Lost (⟨x11.From, x11.To⟩ : T_ivals_Ival)) fun x12 =>
      bno (sbuf_Piece_ival a1) fun x13 =>
      bno (ivals_Same x12 ([(⟨x13.From, x13.To⟩ : T_ivals_Ival)] : (List T_ivals_Ival))) fun x14 =>
      some x14
    )
  )

def sbuf_State_end (a0 : T_sbuf_State) : Option Int :=
  bnd (IntKind.wrap .i64 (a0.Base + (a0.Data.length : Int))) fun x1 =>
  some x1

def sbuf_State_ends_L0 (a0 : T_sbuf_State) : Nat → Int → Int → Option Bool
  | 0, _, _ => none
  | n0 + 1, v11, v12 =>
    bnd (decide (v12 < (a0.Pieces.length : Int))) fun x23 =>
    bif x23 then (
      bno (gix a0.Pieces v12) fun x25 =>
      bif x25.Fin then (
        bnd (IntKind.wrap .i64 (v11 + 1)) fun x27 =>
        bno (sbuf_State_end a0) fun x28 =>
        bnd (!decide (x25.To = x28)) fun x29 =>
        bif x29 then (
          some false
        ) else (
          bnd (IntKind.wrap .i64 (v12 + 1)) fun x31 =>
          (sbuf_State_ends_L0 a0 n0) x27 x31
        )
      ) else (
        bnd (IntKind.wrap .i64 (v12 + 1)) fun x32 =>
        (sbuf_State_ends_L0 a0 n0) v11 x32
      )
    ) else (
      bif (!a0.Sent) then (
        bnd (decide (v11 = 0)) fun x34 =>
        bnd (x34 && (!a0.Again)) fun x35 =>
        bnd (x35 && (!a0.Done)) fun x36 =>
        some x36
      ) else (
        bno (gd ((!a0.Closed) == false) (sbuf_State_end a0) default) fun x37 =>
        bnd (!decide (a0.Next = x37)) fun x38 =>
        bnd ((!a0.Closed) || x38) fun x39 =>
        bnd (a0.Again && a0.Done) fun x40 =>
        bnd (x39 || x40) fun x41 =>
        bif x41 then (
          some false
        ) else (
          bnd ((!a0.Again) && (!a0.Done)) fun x43 =>
          bnd (decide (v11 = 1)) fun x44 =>
          bnd (x43 && x44) fun x45 =>
          bnd (decide (v11 = 0)) fun x46 =>
          bnd ((!x43) && x46) fun x47 =>
          bnd (x45 || x47) fun x48 =>
          some x48
        )
      )
    )
def sbuf_State_ends (a0 : T_sbuf_State) : Option Bool :=
  sbuf_State_ends_L0 a0 fuel 0 0

def sbuf_Check_L1 (a0 : T_sbuf_State) : Nat → Int → Int → Option Int
  | 0, _, _ => none
  | n1 + 1, v21, v22 =>
    bnd (decide (v22 < (a0.Pieces.length : Int))) fun x29 =>
    bif x29 then (
      bno (gix a0.Pieces v22) fun x31 =>
      bno (sbuf_State_fits a0 x31 v21) fun x32 =>
      bif (!x32) then (
        some 10
      ) else (
        bnd (IntKind.wrap .i64 (v22 + 1)) fun x34 =>
        (sbuf_Check_L1 a0 n1) x31.To x34
      )
    ) else (
      bno (sbuf_State_ends a0) fun x35 =>
      bif (!x35) then (
        some 9
      ) else (
        some 0
      )
    )
def sbuf_Check_J0 (a0 : T_sbuf_State) (v9 : Bool) : Option Int :=
  bif v9 then (
    some 8
  ) else (
    bnd (decide (4096 < (a0.Data.length : Int))) fun x11 =>
    bif x11 then (
      some 5
    ) else (
      bno (sbuf_State_lost a0) fun x13 =>
      bif (!x13) then (
        some 4
      ) else (
        sbuf_Check_L1 a0 fuel a0.Base 0
      )
    )
  )
def sbuf_Check (a0 : T_sbuf_State) : Option Int :=
  bnd (decide (a0.Base < 0)) fun x37 =>
  bif x37 then (
    sbuf_Check_J0 a0 x37
  ) else (
    bnd (decide (1099511623680 < a0.Base)) fun x39 =>
    bif x39 then (
      sbuf_Check_J0 a0 x39
    ) else (
      bnd (decide (a0.Next < a0.Base)) fun x41 =>
      bif x41 then (
        sbuf_Check_J0 a0 x41
      ) else (
        bnd (IntKind.wrap .i64 (a0.Next - a0.Base)) fun x43 =>
        bnd (decide ((a0.Data.length : Int) < x43)) fun x44 =>
        sbuf_Check_J0 a0 x44
      )
    )
  )

def sbuf_Room (a0 : T_sbuf_State) : Option Int :=
  bif a0.Closed then (
    some 0
  ) else (
    bnd (IntKind.wrap .i64 (4096 - (a0.Data.length : Int))) fun x2 =>
    some x2
  )

def sbuf_Write (a0 : T_sbuf_State) (a1 : (List UInt8)) : Option (T_sbuf_State × Int) :=
  bno (sbuf_State_own_h a0) fun x1 =>
  bno (sbuf_Check a0) fun x2 =>
  bnd (!decide (x2 = 0)) fun x3 =>
  bif x3 then (
    some ((⟨x1.1, x1.2.1, x1.2.2.1, x1.2.2.2.1, x1.2.2.2.2.1, x1.2.2.2.2.2.1, x1.2.2.2.2.2.2.1, x1.2.2.2.2.2.2.2.1, x1.2.2.2.2.2.2.2.2⟩ : T_sbuf_State), 0)
  ) else (
    bno (sbuf_Room a0) fun x5 =>
    bnd (min x5 (a1.length : Int)) fun x6 =>
    bno (sbuf_State_end a0) fun x7 =>
    bnd (IntKind.wrap .i64 (1099511623680 - x6)) fun x8 =>
    bnd (decide (x8 < x7)) fun x9 =>
    bif x9 then (
      some ((⟨x1.1, x1.2.1, x1.2.2.1, x1.2.2.2.1, x1.2.2.2.2.1, x1.2.2.2.2.2.1, x1.2.2.2.2.2.2.1, x1.2.2.2.2.2.2.2.1, x1.2.2.2.2.2.2.2.2⟩ : T_sbuf_State), 0)
    ) else (
      bno (cut a1 0 x6) fun x11 =>
      bno (cat x1.2.1 x11) fun x12 =>
      some ((⟨x1.1, x12, x1.2.2.1, x1.2.2.2.1, x1.2.2.2.2.1, x1.2.2.2.2.2.1, x1.2.2.2.2.2.2.1, x1.2.2.2.2.2.2.2.1, x1.2.2.2.2.2.2.2.2⟩ : T_sbuf_State), x6)
    )
  )

def sbuf_Close (a0 : T_sbuf_State) : Option T_sbuf_State :=
  bno (sbuf_State_own_h a0) fun x1 =>
  bno (gd (x1.2.2.2.2.2.1 == false) (sbuf_Check a0) default) fun x2 =>
  bnd (decide (x2 = 0)) fun x3 =>
  bnd (x1.2.2.2.2.2.1 || x3) fun x4 =>
  some (⟨x1.1, x1.2.1, x1.2.2.1, x1.2.2.2.1, x1.2.2.2.2.1, x4, x1.2.2.2.2.2.2.1, x1.2.2.2.2.2.2.2.1, x1.2.2.2.2.2.2.2.2⟩ : T_sbuf_State)

def sbuf_State_due (a0 : T_sbuf_State) : Option Bool :=
  bnd ((!a0.Closed) || a0.Done) fun x1 =>
  bif x1 then (
    some false
  ) else (
    bnd (a0.Again || (!a0.Sent)) fun x3 =>
    some x3
  )

def sbuf_State_next (a0 : T_sbuf_State) (a1 : Int) (a2 : Int) : Option (T_sbuf_Piece × Bool) :=
  bnd (decide (0 < (a0.Lost.length : Int))) fun x1 =>
  bif x1 then (
    bno (gix a0.Lost 0) fun x3 =>
    bnd (IntKind.wrap .i64 (x3.To - x3.From)) fun x4 =>
    bnd (min a1 x4) fun x5 =>
    bnd (IntKind.wrap .i64 (x3.From + x5)) fun x6 =>
    some ((⟨x3.From, x6, 0, false⟩ : T_sbuf_Piece), true)
  ) else (
    bno (sbuf_State_end a0) fun x7 =>
    bnd (IntKind.wrap .i64 (x7 - a0.Next)) fun x8 =>
    bnd (decide (0 < x8)) fun x9 =>
    bif x9 then (
      bnd (max a2 a0.Next) fun x11 =>
      bnd (IntKind.wrap .i64 (x11 - a0.Next)) fun x12 =>
      bnd (min (min x8 a1) x12) fun x13 =>
      bnd (IntKind.wrap .i64 (a0.Next + x13)) fun x14 =>
      bnd (decide (0 < x13)) fun x15 =>
      some ((⟨a0.Next, x14, 0, false⟩ : T_sbuf_Piece), x15)
    ) else (
      bno (sbuf_State_due a0) fun x16 =>
      some ((⟨a0.Next, a0.Next, 0, false⟩ : T_sbuf_Piece), x16)
    )
  )

def sbuf_State_place_1 (a0 : T_sbuf_Piece) (a1 : T_sbuf_Piece) : Option Bool :=
  bnd (decide (a1.From < a0.From)) fun x1 =>
  bnd (decide (a0.From = a1.From)) fun x2 =>
  bnd (decide (a1.To ≤ a0.To)) fun x3 =>
  bnd (x2 && x3) fun x4 =>
  bnd (x1 || x4) fun x5 =>
  some x5

def slices_IndexFunc_sbuf_Piece_sbuf_Piece_place_1_L0 (a0 : (List T_sbuf_Piece)) (a1 : T_sbuf_Piece) : Nat → Int → Option Int
  | 0, _ => none
  | n0 + 1, v7 =>
    bnd (decide (v7 < (a0.length : Int))) fun x14 =>
    bif x14 then (
      bno (gix a0 v7) fun x16 =>
      bno (sbuf_State_place_1 x16 a1) fun x17 =>
      bif x17 then (
        some v7
      ) else (
        bnd (IntKind.wrap .i64 (v7 + 1)) fun x19 =>
        (slices_IndexFunc_sbuf_Piece_sbuf_Piece_place_1_L0 a0 a1 n0) x19
      )
    ) else (
      some (-1)
    )
def slices_IndexFunc_sbuf_Piece_sbuf_Piece_place_1 (a0 : (List T_sbuf_Piece)) (a1 : T_sbuf_Piece) : Option Int :=
  slices_IndexFunc_sbuf_Piece_sbuf_Piece_place_1_L0 a0 a1 fuel 0

def sbuf_State_place (a0 : T_sbuf_State) (a1 : T_sbuf_Piece) : Option Int :=
  bno (cut a0.Pieces 0 (a0.Pieces.length : Int)) fun x1 =>
  bno (sbuf_State_end a0) fun x2 =>
  bno (sbuf_State_end a0) fun x3 =>
  bnd (IntKind.wrap .i64 (x3 + 1)) fun x4 =>
  bno (app 32 x1 (([(⟨x2, x4, 0, false⟩ : T_sbuf_Piece)] : (List T_sbuf_Piece)))) fun x5 =>
  bno (slices_IndexFunc_sbuf_Piece_sbuf_Piece_place_1 x5 a1) fun x6 =>
  some x6

def slices_Insert_sbuf_Piece_sbuf_Piece_h (a0 : Int) (a1 : (List T_sbuf_Piece)) (a2 : (List T_sbuf_Piece)) : Option (List T_sbuf_Piece) := insS 32 a2 a0 a1

def sbuf_Pick_J1 (a0 : T_sbuf_State) (a1 : Int) (x1 : (Int × (List UInt8) × Int × (List T_sbuf_Piece) × (List T_ivals_Ival) × Bool × Bool × Bool × Bool)) (x9 : (T_sbuf_Piece × Bool)) (x11 : Int) (v16 : (List T_ivals_Ival)) (v22 : Bool) (v23 : Bool) (v24 : Bool) : Option (T_sbuf_State × T_sbuf_Piece × (List UInt8) × Bool) :=
  bno (sbuf_State_place a0 (⟨x9.1.From, x9.1.To, a1, v24⟩ : T_sbuf_Piece)) fun x25 =>
  bno (slices_Insert_sbuf_Piece_sbuf_Piece_h x25 ([(⟨x9.1.From, x9.1.To, a1, v24⟩ : T_sbuf_Piece)] : (List T_sbuf_Piece)) x1.2.2.2.1) fun x26 =>
  bnd (IntKind.wrap .i64 (x9.1.From - a0.Base)) fun x27 =>
  bnd (IntKind.wrap .i64 (x9.1.To - a0.Base)) fun x28 =>
  bno (cut a0.Data x27 x28) fun x29 =>
  some (((⟨x1.1, x1.2.1, x11, x26, v16, x1.2.2.2.2.2.1, v22, v23, x1.2.2.2.2.2.2.2.2⟩ : T_sbuf_State), (⟨x9.1.From, x9.1.To, a1, v24⟩ : T_sbuf_Piece), x29, true))
def sbuf_Pick_J0 (a0 : T_sbuf_State) (a1 : Int) (x1 : (Int × (List UInt8) × Int × (List T_sbuf_Piece) × (List T_ivals_Ival) × Bool × Bool × Bool × Bool)) (x9 : (T_sbuf_Piece × Bool)) (x11 : Int) (v16 : (List T_ivals_Ival)) : Option (T_sbuf_State × T_sbuf_Piece × (List UInt8) × Bool) :=
  bno (sbuf_State_end a0) fun x30 =>
  bnd (decide (x9.1.To = x30)) fun x31 =>
  bno (gd (x31 == true) (sbuf_State_due a0) default) fun x32 =>
  bnd (x31 && x32) fun x33 =>
  bif x33 then (
    sbuf_Pick_J1 a0 a1 x1 x9 x11 v16 true false x33
  ) else (
    sbuf_Pick_J1 a0 a1 x1 x9 x11 v16 x1.2.2.2.2.2.2.1 x1.2.2.2.2.2.2.2.1 x33
  )
def sbuf_Pick (a0 : T_sbuf_State) (a1 : Int) (a2 : Int) (a3 : Int) : Option (T_sbuf_State × T_sbuf_Piece × (List UInt8) × Bool) :=
  bno (sbuf_State_own_h a0) fun x1 =>
  bno (sbuf_path a1) fun x2 =>
  bnd (decide (a2 < 1)) fun x3 =>
  bnd ((!x2) || x3) fun x4 =>
  bno (gd (x4 == false) (sbuf_Check a0) default) fun x5 =>
  bnd (!decide (x5 = 0)) fun x6 =>
  bnd (x4 || x6) fun x7 =>
  bif x7 then (
    some (((⟨x1.1, x1.2.1, x1.2.2.1, x1.2.2.2.1, x1.2.2.2.2.1, x1.2.2.2.2.2.1, x1.2.2.2.2.2.2.1, x1.2.2.2.2.2.2.2.1, x1.2.2.2.2.2.2.2.2⟩ : T_sbuf_State), (⟨0, 0, 0, false⟩ : T_sbuf_Piece), [], false))
  ) else (
    bno (sbuf_State_next a0 a2 a3) fun x9 =>
    bif (!x9.2) then (
      some (((⟨x1.1, x1.2.1, x1.2.2.1, x1.2.2.2.1, x1.2.2.2.2.1, x1.2.2.2.2.2.1, x1.2.2.2.2.2.2.1, x1.2.2.2.2.2.2.2.1, x1.2.2.2.2.2.2.2.2⟩ : T_sbuf_State), (⟨0, 0, 0, false⟩ : T_sbuf_Piece), [], false))
    ) else (
      bnd (max x1.2.2.1 x9.1.To) fun x11 =>
      bnd (decide (x9.1.From < x9.1.To)) fun x35 =>
      bif x35 then (
        bno (sbuf_Piece_ival (⟨x9.1.From, x9.1.To, a1, x9.1.Fin⟩ : T_sbuf_Piece)) fun x37 =>
        bno (ivals_Cut x1.2.2.2.2.1 (⟨x37.From, x37.To⟩ : T_ivals_Ival)) fun x38 =>
        sbuf_Pick_J0 a0 a1 x1 x9 x11 x38
      ) else (
        sbuf_Pick_J0 a0 a1 x1 x9 x11 x1.2.2.2.2.1
      )
    )
  )

def sbuf_Dead_1 (a0 : T_sbuf_Piece) (a1 : Int) : Option Bool :=
  bnd (decide (a0.Path = a1)) fun x1 =>
  some x1

def ivals_Set_put_h (a0 : T_ivals_Ival) (a1 : (List T_ivals_Ival)) : Option (List T_ivals_Ival) :=
  bno (ivals_Ival_none (⟨a0.From, a0.To⟩ : T_ivals_Ival)) fun x1 =>
  bif x1 then (
    some a1
  ) else (
    bnd (decide (0 < (a1.length : Int))) fun x3 =>
    bnd (IntKind.wrap .i64 ((a1.length : Int) - 1)) fun x4 =>
    bno (gd (x3 == true) (gix a1 x4) default) fun x5 =>
    bno (gd (x3 == true) (a1[(x4 : Int).toNat]?) default) fun x6 =>
    bnd (decide (a0.From ≤ x6.To)) fun x7 =>
    bnd (x3 && x7) fun x8 =>
    bif x8 then (
      bnd (IntKind.wrap .i64 ((a1.length : Int) - 1)) fun x10 =>
      bnd (IntKind.wrap .i64 ((a1.length : Int) - 1)) fun x11 =>
      bno (gix a1 x11) fun x12 =>
      bno (a1[(x11 : Int).toNat]?) fun x13 =>
      bnd (max x13.To a0.To) fun x14 =>
      bno (gix a1 x10) fun x15 =>
      bno (a1[(x10 : Int).toNat]?) fun x16 =>
      bnd (a1.set ((x10 : Int).toNat) (⟨x16.From, x14⟩ : T_ivals_Ival)) fun x17 =>
      some x17
    ) else (
      bno (app 16 a1 (([(⟨a0.From, a0.To⟩ : T_ivals_Ival)] : (List T_ivals_Ival)))) fun x18 =>
      some x18
    )
  )

def ivals_Add_J1 (v26 : Int) (kk0 : (List T_ivals_Ival) → Bool → Int → Option (List T_ivals_Ival)) (x44 : T_ivals_Ival) (v49 : (List T_ivals_Ival)) (v50 : Bool) : Option (List T_ivals_Ival) :=
  bno (ivals_Set_put_h (⟨x44.From, x44.To⟩ : T_ivals_Ival) v49) fun x51 =>
  bnd (IntKind.wrap .i64 (v26 + 1)) fun x52 =>
  kk0 x51 v50 x52
def ivals_Add_L0 (a0 : (List T_ivals_Ival)) (a1 : T_ivals_Ival) : Nat → (List T_ivals_Ival) → Bool → Int → Option (List T_ivals_Ival)
  | 0, _, _, _ => none
  | n0 + 1, v24, v25, v26 =>
    bnd (decide (v26 < (a0.length : Int))) fun x42 =>
    bif x42 then (
      bno (gix a0 v26) fun x44 =>
      bnd (decide (a1.From ≤ x44.From)) fun x53 =>
      bnd ((!v25) && x53) fun x54 =>
      bif x54 then (
        bno (ivals_Set_put_h (⟨a1.From, a1.To⟩ : T_ivals_Ival) v24) fun x56 =>
        ivals_Add_J1 v26 (ivals_Add_L0 a0 a1 n0) x44 x56 true
      ) else (
        ivals_Add_J1 v26 (ivals_Add_L0 a0 a1 n0) x44 v24 v25
      )
    ) else (
      bif (!v25) then (
        bno (ivals_Set_put_h (⟨a1.From, a1.To⟩ : T_ivals_Ival) v24) fun x58 =>
        some x58
      ) else (
        some v24
      )
    )
def ivals_Add (a0 : (List T_ivals_Ival)) (a1 : T_ivals_Ival) : Option (List T_ivals_Ival) :=
  bno (ivals_Ival_may (⟨a1.From, a1.To⟩ : T_ivals_Ival)) fun x1 =>
  bno (gd ((!x1) == false) (ivals_Ival_none (⟨a1.From, a1.To⟩ : T_ivals_Ival)) default) fun x2 =>
  bnd ((!x1) || x2) fun x3 =>
  bno (gd (x3 == false) (ivals_Check a0) default) fun x4 =>
  bnd (!decide (x4 = 0)) fun x5 =>
  bnd (x3 || x5) fun x6 =>
  bif x6 then (
    bno (slices_Clone_ivals_Set_ivals_Ival_h a0) fun x8 =>
    some x8
  ) else (
    ivals_Add_L0 a0 a1 fuel ([] : (List T_ivals_Ival)) false 0
  )

def slices_IndexFunc_sbuf_Piece_sbuf_Piece_Dead_1_L0 (a0 : (List T_sbuf_Piece)) (a1 : Int) : Nat → Int → Option Int
  | 0, _ => none
  | n0 + 1, v7 =>
    bnd (decide (v7 < (a0.length : Int))) fun x14 =>
    bif x14 then (
      bno (gix a0 v7) fun x16 =>
      bno (sbuf_Dead_1 x16 a1) fun x17 =>
      bif x17 then (
        some v7
      ) else (
        bnd (IntKind.wrap .i64 (v7 + 1)) fun x19 =>
        (slices_IndexFunc_sbuf_Piece_sbuf_Piece_Dead_1_L0 a0 a1 n0) x19
      )
    ) else (
      some (-1)
    )
def slices_IndexFunc_sbuf_Piece_sbuf_Piece_Dead_1 (a0 : (List T_sbuf_Piece)) (a1 : Int) : Option Int :=
  slices_IndexFunc_sbuf_Piece_sbuf_Piece_Dead_1_L0 a0 a1 fuel 0

def slices_DeleteFunc_sbuf_Piece_sbuf_Piece_h_Dead_1_L0 (a1 : Int) : Nat → (List T_sbuf_Piece) → Int → Int → Option (List T_sbuf_Piece)
  | 0, _, _, _ => none
  | n0 + 1, v17, v18, v19 =>
    bnd (decide (v19 < (v17.length : Int))) fun x32 =>
    bif x32 then (
      bno (gix v17 v19) fun x34 =>
      bno (v17[(v19 : Int).toNat]?) fun x35 =>
      bno (sbuf_Dead_1 x35 a1) fun x36 =>
      bif (!x36) then (
        bno (gix v17 v18) fun x38 =>
        bno (v17[(v18 : Int).toNat]?) fun x39 =>
        bnd (v17.set ((v18 : Int).toNat) x35) fun x40 =>
        bnd (IntKind.wrap .i64 (v18 + 1)) fun x41 =>
        bnd (IntKind.wrap .i64 (v19 + 1)) fun x42 =>
        (slices_DeleteFunc_sbuf_Piece_sbuf_Piece_h_Dead_1_L0 a1 n0) x40 x41 x42
      ) else (
        bnd (IntKind.wrap .i64 (v19 + 1)) fun x43 =>
        (slices_DeleteFunc_sbuf_Piece_sbuf_Piece_h_Dead_1_L0 a1 n0) v17 v18 x43
      )
    ) else (
      bno (cut v17 0 v18) fun x44 =>
      bno (cut x44 0 v18) fun x45 =>
      some x45
    )
def slices_DeleteFunc_sbuf_Piece_sbuf_Piece_h_Dead_1 (a0 : (List T_sbuf_Piece)) (a1 : Int) : Option (List T_sbuf_Piece) :=
  bno (slices_IndexFunc_sbuf_Piece_sbuf_Piece_Dead_1 a0 a1) fun x1 =>
  bnd (decide (x1 = (-1))) fun x2 =>
  bif x2 then (
    some a0
  ) else (
    bnd (IntKind.wrap .i64 (x1 + 1)) fun x4 =>
    slices_DeleteFunc_sbuf_Piece_sbuf_Piece_h_Dead_1_L0 a1 fuel a0 x1 x4
  )

def sbuf_Dead_L0 (a0 : T_sbuf_State) (a1 : Int) (x1 : (Int × (List UInt8) × Int × (List T_sbuf_Piece) × (List T_ivals_Ival) × Bool × Bool × Bool × Bool)) : Nat → Int → (List T_ivals_Ival) → Bool → Option T_sbuf_State
  | 0, _, _, _ => none
  | n0 + 1, v15, v16, v17 =>
    bnd (decide (v15 < (a0.Pieces.length : Int))) fun x28 =>
    bif x28 then (
      bno (gix a0.Pieces v15) fun x30 =>
      bno (sbuf_Dead_1 x30 a1) fun x31 =>
      bif x31 then (
        bno (sbuf_Piece_ival x30) fun x33 =>
        bno (ivals_Add v16 (⟨x33.From, x33.To⟩ : T_ivals_Ival)) fun x34 =>
        bnd (v17 || x30.Fin) fun x35 =>
        bnd (IntKind.wrap .i64 (v15 + 1)) fun x36 =>
        (sbuf_Dead_L0 a0 a1 x1 n0) x36 x34 x35
      ) else (
        bnd (IntKind.wrap .i64 (v15 + 1)) fun x37 =>
        (sbuf_Dead_L0 a0 a1 x1 n0) x37 v16 v17
      )
    ) else (
      bno (slices_DeleteFunc_sbuf_Piece_sbuf_Piece_h_Dead_1 x1.2.2.2.1 a1) fun x38 =>
      some (⟨x1.1, x1.2.1, x1.2.2.1, x38, v16, x1.2.2.2.2.2.1, x1.2.2.2.2.2.2.1, v17, x1.2.2.2.2.2.2.2.2⟩ : T_sbuf_State)
    )
def sbuf_Dead (a0 : T_sbuf_State) (a1 : Int) : Option T_sbuf_State :=
  bno (sbuf_State_own_h a0) fun x1 =>
  bno (sbuf_Check a0) fun x2 =>
  bnd (!decide (x2 = 0)) fun x3 =>
  bif x3 then (
    some (⟨x1.1, x1.2.1, x1.2.2.1, x1.2.2.2.1, x1.2.2.2.2.1, x1.2.2.2.2.2.1, x1.2.2.2.2.2.2.1, x1.2.2.2.2.2.2.2.1, x1.2.2.2.2.2.2.2.2⟩ : T_sbuf_State)
  ) else (
    sbuf_Dead_L0 a0 a1 x1 fuel 0 x1.2.2.2.2.1 x1.2.2.2.2.2.2.2.1
  )

def sbuf_Came_1 (a0 : T_sbuf_Piece) : Option Bool :=
  bnd (decide (a0.From = a0.To)) fun x1 =>
  bnd (x1 && (!a0.Fin)) fun x2 =>
  some x2

def slices_IndexFunc_sbuf_Piece_sbuf_Piece_Came_1_L0 (a0 : (List T_sbuf_Piece)) : Nat → Int → Option Int
  | 0, _ => none
  | n0 + 1, v7 =>
    bnd (decide (v7 < (a0.length : Int))) fun x14 =>
    bif x14 then (
      bno (gix a0 v7) fun x16 =>
      bno (sbuf_Came_1 x16) fun x17 =>
      bif x17 then (
        some v7
      ) else (
        bnd (IntKind.wrap .i64 (v7 + 1)) fun x19 =>
        (slices_IndexFunc_sbuf_Piece_sbuf_Piece_Came_1_L0 a0 n0) x19
      )
    ) else (
      some (-1)
    )
def slices_IndexFunc_sbuf_Piece_sbuf_Piece_Came_1 (a0 : (List T_sbuf_Piece)) : Option Int :=
  slices_IndexFunc_sbuf_Piece_sbuf_Piece_Came_1_L0 a0 fuel 0

def slices_DeleteFunc_sbuf_Piece_sbuf_Piece_h_Came_1_L0  : Nat → (List T_sbuf_Piece) → Int → Int → Option (List T_sbuf_Piece)
  | 0, _, _, _ => none
  | n0 + 1, v17, v18, v19 =>
    bnd (decide (v19 < (v17.length : Int))) fun x32 =>
    bif x32 then (
      bno (gix v17 v19) fun x34 =>
      bno (v17[(v19 : Int).toNat]?) fun x35 =>
      bno (sbuf_Came_1 x35) fun x36 =>
      bif (!x36) then (
        bno (gix v17 v18) fun x38 =>
        bno (v17[(v18 : Int).toNat]?) fun x39 =>
        bnd (v17.set ((v18 : Int).toNat) x35) fun x40 =>
        bnd (IntKind.wrap .i64 (v18 + 1)) fun x41 =>
        bnd (IntKind.wrap .i64 (v19 + 1)) fun x42 =>
        (slices_DeleteFunc_sbuf_Piece_sbuf_Piece_h_Came_1_L0 n0) x40 x41 x42
      ) else (
        bnd (IntKind.wrap .i64 (v19 + 1)) fun x43 =>
        (slices_DeleteFunc_sbuf_Piece_sbuf_Piece_h_Came_1_L0 n0) v17 v18 x43
      )
    ) else (
      bno (cut v17 0 v18) fun x44 =>
      bno (cut x44 0 v18) fun x45 =>
      some x45
    )
def slices_DeleteFunc_sbuf_Piece_sbuf_Piece_h_Came_1 (a0 : (List T_sbuf_Piece)) : Option (List T_sbuf_Piece) :=
  bno (slices_IndexFunc_sbuf_Piece_sbuf_Piece_Came_1 a0) fun x1 =>
  bnd (decide (x1 = (-1))) fun x2 =>
  bif x2 then (
    some a0
  ) else (
    bnd (IntKind.wrap .i64 (x1 + 1)) fun x4 =>
    slices_DeleteFunc_sbuf_Piece_sbuf_Piece_h_Came_1_L0 fuel a0 x1 x4
  )

def sbuf_Came_L0 (a0 : T_sbuf_State) (a2 : Bool) (x1 : (Int × (List UInt8) × Int × (List T_sbuf_Piece) × (List T_ivals_Ival) × Bool × Bool × Bool × Bool)) (x14 : Int) : Nat → Int → (List T_sbuf_Piece) → Option T_sbuf_State
  | 0, _, _ => none
  | n0 + 1, v31, v32 =>
    bnd (decide (v31 < (x1.2.2.2.1.length : Int))) fun x49 =>
    bif x49 then (
      bno (gix v32 v31) fun x51 =>
      bno (v32[(v31 : Int).toNat]?) fun x52 =>
      bnd (max x52.From x14) fun x53 =>
      bno (v32[(v31 : Int).toNat]?) fun x54 =>
      bnd (max x54.To x14) fun x55 =>
      bno (v32[(v31 : Int).toNat]?) fun x56 =>
      bnd (v32.set ((v31 : Int).toNat) (⟨x53, x56.To, x56.Path, x56.Fin⟩ : T_sbuf_Piece)) fun x57 =>
      bno (x57[(v31 : Int).toNat]?) fun x58 =>
      bnd (x57.set ((v31 : Int).toNat) (⟨x58.From, x55, x58.Path, x58.Fin⟩ : T_sbuf_Piece)) fun x59 =>
      bno (x59[(v31 : Int).toNat]?) fun x60 =>
      bnd (x60.Fin && (!a2)) fun x61 =>
      bno (x59[(v31 : Int).toNat]?) fun x62 =>
      bnd (x59.set ((v31 : Int).toNat) (⟨x62.From, x62.To, x62.Path, x61⟩ : T_sbuf_Piece)) fun x63 =>
      bnd (IntKind.wrap .i64 (v31 + 1)) fun x64 =>
      (sbuf_Came_L0 a0 a2 x1 x14 n0) x64 x63
    ) else (
      bno (slices_DeleteFunc_sbuf_Piece_sbuf_Piece_h_Came_1 v32) fun x65 =>
      bnd (IntKind.wrap .i64 (x14 - a0.Base)) fun x66 =>
      bno (cut a0.Data x66 (a0.Data.length : Int)) fun x67 =>
      bno (ivals_Cut x1.2.2.2.2.1 (⟨0, x14⟩ : T_ivals_Ival)) fun x68 =>
      bif a2 then (
        some (⟨x14, x67, x1.2.2.1, x65, x68, x1.2.2.2.2.2.1, x1.2.2.2.2.2.2.1, false, true⟩ : T_sbuf_State)
      ) else (
        some (⟨x14, x67, x1.2.2.1, x65, x68, x1.2.2.2.2.2.1, x1.2.2.2.2.2.2.1, x1.2.2.2.2.2.2.2.1, x1.2.2.2.2.2.2.2.2⟩ : T_sbuf_State)
      )
    )
def sbuf_Came (a0 : T_sbuf_State) (a1 : Int) (a2 : Bool) : Option T_sbuf_State :=
  bno (sbuf_State_own_h a0) fun x1 =>
  bno (sbuf_Check a0) fun x2 =>
  bnd (!decide (x2 = 0)) fun x3 =>
  bnd (decide (a1 < 0)) fun x4 =>
  bnd (x3 || x4) fun x5 =>
  bnd (decide (a0.Next < a1)) fun x6 =>
  bnd (x5 || x6) fun x7 =>
  bno (gd ((x7 == false) && (a2 == true)) (sbuf_State_end a0) default) fun x8 =>
  bnd (!decide (a1 = x8)) fun x9 =>
  bnd (x9 || (!a0.Sent)) fun x10 =>
  bnd (a2 && x10) fun x11 =>
  bnd (x7 || x11) fun x12 =>
  bif x12 then (
    some (⟨x1.1, x1.2.1, x1.2.2.1, x1.2.2.2.1, x1.2.2.2.2.1, x1.2.2.2.2.2.1, x1.2.2.2.2.2.2.1, x1.2.2.2.2.2.2.2.1, x1.2.2.2.2.2.2.2.2⟩ : T_sbuf_State)
  ) else (
    bnd (max a1 a0.Base) fun x14 =>
    sbuf_Came_L0 a0 a2 x1 x14 fuel 0 x1.2.2.2.1
  )

def sbuf_Over (a0 : T_sbuf_State) : Option Bool :=
  bnd (decide (a0.Data = ([] : List UInt8))) fun x1 =>
  bnd (a0.Done && x1) fun x2 =>
  some x2

def sbuf_Want (a0 : T_sbuf_State) (a1 : Int) : Option Bool :=
  bno (sbuf_Check a0) fun x1 =>
  bnd (!decide (x1 = 0)) fun x2 =>
  bif x2 then (
    some false
  ) else (
    bno (sbuf_State_next a0 1 a1) fun x4 =>
    some x4.2
  )

def slices_Equal_sbuf_Piece_sbuf_Piece_L0 (a0 : (List T_sbuf_Piece)) (a1 : (List T_sbuf_Piece)) : Nat → Int → Option Bool
  | 0, _ => none
  | n0 + 1, v10 =>
    bnd (decide (v10 < (a0.length : Int))) fun x18 =>
    bif x18 then (
      bno (gix a0 v10) fun x20 =>
      bno (gix a1 v10) fun x21 =>
      bnd ((decide (x20.From = x21.From) && (decide (x20.To = x21.To) && (decide (x20.Path = x21.Path) && ((x20.Fin == x21.Fin) && true))))) fun x22 =>
      bif (!x22) then (
        some false
      ) else (
        bnd (IntKind.wrap .i64 (v10 + 1)) fun x24 =>
        (slices_Equal_sbuf_Piece_sbuf_Piece_L0 a0 a1 n0) x24
      )
    ) else (
      some true
    )
def slices_Equal_sbuf_Piece_sbuf_Piece (a0 : (List T_sbuf_Piece)) (a1 : (List T_sbuf_Piece)) : Option Bool :=
  bnd (!decide ((a0.length : Int) = (a1.length : Int))) fun x1 =>
  bif x1 then (
    some false
  ) else (
    slices_Equal_sbuf_Piece_sbuf_Piece_L0 a0 a1 fuel 0
  )

def sbuf_Same (a0 : T_sbuf_State) (a1 : T_sbuf_State) : Option Bool :=
  bno (slices_Equal_sbuf_Piece_sbuf_Piece a0.Pieces a1.Pieces) fun x1 =>
  bno (gd ((!x1) == false) (ivals_Same a0.Lost a1.Lost) default) fun x2 =>
  bnd ((!x1) || (!x2)) fun x3 =>
  bif x3 then (
    some false
  ) else (
    bnd (a0.Closed == a1.Closed) fun x5 =>
    bnd (a0.Sent == a1.Sent) fun x6 =>
    bnd (x5 && x6) fun x7 =>
    bnd (a0.Again == a1.Again) fun x8 =>
    bnd (x7 && x8) fun x9 =>
    bnd (a0.Done == a1.Done) fun x10 =>
    bnd (x9 && x10) fun x11 =>
    bnd (decide (a0.Base = a1.Base)) fun x12 =>
    bnd (x11 && x12) fun x13 =>
    bnd (decide (a0.Data = a1.Data)) fun x14 =>
    bnd (x13 && x14) fun x15 =>
    bnd (decide (a0.Next = a1.Next)) fun x16 =>
    bnd (x15 && x16) fun x17 =>
    some x17
  )

def sennitlaw23_awake  : Option Bool :=
  bno (sbuf_New) fun x1 =>
  bno (sbuf_Write x1 [97, 98, 99]) fun x2 =>
  bno (sbuf_Close x2.1) fun x3 =>
  bno (sbuf_Pick x3 0 9 9) fun x4 =>
  bno (sbuf_Dead x4.1 0) fun x5 =>
  bno (sbuf_Pick x5 1 2 0) fun x6 =>
  bno (sbuf_Pick x6.1 2 2 0) fun x7 =>
  bno (sbuf_Came x7.1 3 true) fun x8 =>
  bnd (decide (x2.2 = 3)) fun x9 =>
  bnd ((decide (x4.2.1.From = 0) && (decide (x4.2.1.To = 3) && (decide (x4.2.1.Path = 0) && ((x4.2.1.Fin == true) && true))))) fun x10 =>
  bnd (x9 && x10) fun x11 =>
  bnd (decide (x4.2.2.1 = ([97, 98, 99] : List UInt8))) fun x12 =>
  bnd (x11 && x12) fun x13 =>
  bnd (x13 && x4.2.2.2) fun x14 =>
  bnd (x14 && x5.Again) fun x15 =>
  bnd (decide ((x5.Lost.length : Int) = 1)) fun x16 =>
  bnd (x15 && x16) fun x17 =>
  bnd ((decide (x6.2.1.From = 0) && (decide (x6.2.1.To = 2) && (decide (x6.2.1.Path = 1) && ((x6.2.1.Fin == false) && true))))) fun x18 =>
  bnd (x17 && x18) fun x19 =>
  bnd (decide (x6.2.2.1 = ([97, 98] : List UInt8))) fun x20 =>
  bnd (x19 && x20) fun x21 =>
  bnd (x21 && x6.2.2.2) fun x22 =>
  bnd ((decide (x7.2.1.From = 2) && (decide (x7.2.1.To = 3) && (decide (x7.2.1.Path = 2) && ((x7.2.1.Fin == true) && true))))) fun x23 =>
  bnd (x22 && x23) fun x24 =>
  bnd (decide (x7.2.2.1 = ([99] : List UInt8))) fun x25 =>
  bnd (x24 && x25) fun x26 =>
  bnd (x26 && x7.2.2.2) fun x27 =>
  bnd (decide ((x7.1.Pieces.length : Int) = 2)) fun x28 =>
  bnd (x27 && x28) fun x29 =>
  bno (gd (x29 == true) (sbuf_Over x8) default) fun x30 =>
  bnd (x29 && x30) fun x31 =>
  bnd (decide (x8.Base = 3)) fun x32 =>
  bnd (x31 && x32) fun x33 =>
  bno (gd (x33 == true) (sbuf_Over x7.1) default) fun x34 =>
  bnd (x33 && (!x34)) fun x35 =>
  bno (gd (x35 == true) (sbuf_Want x5 0) default) fun x36 =>
  bnd (x35 && x36) fun x37 =>
  bno (gd (x37 == true) (sbuf_Want x7.1 9) default) fun x38 =>
  bnd (x37 && (!x38)) fun x39 =>
  bno (gd (x39 == true) (sbuf_Room x4.1) default) fun x40 =>
  bnd (decide (x40 = 0)) fun x41 =>
  bnd (x39 && x41) fun x42 =>
  bno (gd (x42 == true) (sbuf_New) default) fun x43 =>
  bno (gd (x42 == true) (sbuf_Room x43) default) fun x44 =>
  bnd (decide (x44 = 4096)) fun x45 =>
  bnd (x42 && x45) fun x46 =>
  bno (gd (x46 == true) (sbuf_Check x8) default) fun x47 =>
  bnd (decide (x47 = 0)) fun x48 =>
  bnd (x46 && x48) fun x49 =>
  bno (gd (x49 == true) (sbuf_Check (⟨0, [], 0, [], [], false, true, false, false⟩ : T_sbuf_State)) default) fun x50 =>
  bnd (decide (x50 = 9)) fun x51 =>
  bnd (x49 && x51) fun x52 =>
  bno (gd (x52 == true) (sbuf_Same x7.1 x8) default) fun x53 =>
  bnd (x52 && (!x53)) fun x54 =>
  bno (gd (x54 == true) (sbuf_Same x8 x8) default) fun x55 =>
  bnd (x54 && x55) fun x56 =>
  bnd (bif x56 then true else false) fun x57 =>
  bnd (bif x57 then true else false) fun x58 =>
  bnd (bif x58 then true else false) fun x59 =>
  bnd (bif x59 then true else false) fun x60 =>
  bnd (bif x60 then true else false) fun x61 =>
  some x61

def sennitlaw23_done (a0 : T_sbuf_State) (a1 : T_sennitlaw23_Act) (a2 : Int) : Option T_sbuf_State :=
  bno (remI a1.Kind 5) fun x1 =>
  bnd (decide (x1 = 1)) fun x2 =>
  bif x2 then (
    bno (remI a1.Path 4) fun x4 =>
    bnd (IntKind.wrap .i64 x4) fun x5 =>
    bnd (IntKind.wrap .i64 a1.N) fun x6 =>
    bno (sbuf_Pick a0 x5 x6 a2) fun x7 =>
    some x7.1
  ) else (
    bnd (decide (x1 = 2)) fun x8 =>
    bif x8 then (
      bnd (IntKind.wrap .i64 a1.N) fun x10 =>
      bnd (IntKind.wrap .i64 (a0.Base + x10)) fun x11 =>
      bno (sbuf_Came a0 x11 a1.Fin) fun x12 =>
      some x12
    ) else (
      bnd (decide (x1 = 3)) fun x13 =>
      bif x13 then (
        bno (remI a1.Path 4) fun x15 =>
        bnd (IntKind.wrap .i64 x15) fun x16 =>
        bno (sbuf_Dead a0 x16) fun x17 =>
        some x17
      ) else (
        bnd (decide (x1 = 4)) fun x18 =>
        bif x18 then (
          bif a1.Fin then (
            bno (sbuf_Close a0) fun x21 =>
            some x21
          ) else (
            some a0
          )
        ) else (
          some a0
        )
      )
    )
  )

def sennitlaw23_SbufTwice_J1 (a0 : (List T_sennitlaw23_Act)) (v37 : Int) (kk0 : Int → Int → (List UInt8) → Int → (List T_sbuf_Piece) → (List T_ivals_Ival) → Bool → Bool → Bool → Bool → Option Bool) (v90 : Int) (v91 : (List UInt8)) (v92 : Int) (v93 : (List T_sbuf_Piece)) (v94 : (List T_ivals_Ival)) (v95 : Bool) (v96 : Bool) (v97 : Bool) (v98 : Bool) : Option Bool :=
  bno (gix a0 v37) fun x99 =>
  bno (sennitlaw23_done (⟨v90, v91, v92, v93, v94, v95, v96, v97, v98⟩ : T_sbuf_State) x99 1000) fun x100 =>
  bnd (IntKind.wrap .i64 (v37 + 1)) fun x101 =>
  kk0 x101 x100.Base x100.Data x100.Next x100.Pieces x100.Lost x100.Closed x100.Sent x100.Again x100.Done
def sennitlaw23_SbufTwice_L0 (a0 : (List T_sennitlaw23_Act)) (a1 : Int) (a2 : Int) : Nat → Int → Int → (List UInt8) → Int → (List T_sbuf_Piece) → (List T_ivals_Ival) → Bool → Bool → Bool → Bool → Option Bool
  | 0, _, _, _, _, _, _, _, _, _, _ => none
  | n0 + 1, v37, v38, v39, v40, v41, v42, v43, v44, v45, v46 =>
    bnd (decide (v37 < (a0.length : Int))) fun x79 =>
    bif x79 then (
      bno (gix a0 v37) fun x102 =>
      bno (remI x102.Kind 5) fun x103 =>
      bnd (decide (x103 = 0)) fun x104 =>
      bif x104 then (
        bno (gix a0 v37) fun x106 =>
        bno (remI x106.N 60) fun x107 =>
        bnd (IntKind.wrap .i64 x107) fun x108 =>
        bno (made 1 x108 (0 : UInt8)) fun x109 =>
        bno (sbuf_Write (⟨v38, v39, v40, v41, v42, v43, v44, v45, v46⟩ : T_sbuf_State) x109) fun x110 =>
        sennitlaw23_SbufTwice_J1 a0 v37 (sennitlaw23_SbufTwice_L0 a0 a1 a2 n0) x110.1.Base x110.1.Data x110.1.Next x110.1.Pieces x110.1.Lost x110.1.Closed x110.1.Sent x110.1.Again x110.1.Done
      ) else (
        sennitlaw23_SbufTwice_J1 a0 v37 (sennitlaw23_SbufTwice_L0 a0 a1 a2 n0) v38 v39 v40 v41 v42 v43 v44 v45 v46
      )
    ) else (
      bno (remI a1 4) fun x111 =>
      bnd (IntKind.wrap .i64 x111) fun x112 =>
      bno (sbuf_Dead (⟨v38, v39, v40, v41, v42, v43, v44, v45, v46⟩ : T_sbuf_State) x112) fun x113 =>
      bnd (IntKind.wrap .i64 a2) fun x114 =>
      bnd (IntKind.wrap .i64 (v38 + x114)) fun x115 =>
      bno (sbuf_Came (⟨v38, v39, v40, v41, v42, v43, v44, v45, v46⟩ : T_sbuf_State) x115 false) fun x116 =>
      bno (sbuf_Dead (⟨v38, v39, v40, v41, v42, v43, v44, v45, v46⟩ : T_sbuf_State) x112) fun x117 =>
      bno (sbuf_Came x117 v40 false) fun x118 =>
      bno (sbuf_Came (⟨v38, v39, v40, v41, v42, v43, v44, v45, v46⟩ : T_sbuf_State) v40 false) fun x119 =>
      bno (sbuf_Dead x119 x112) fun x120 =>
      bno (sbuf_Dead x113 x112) fun x121 =>
      bno (sbuf_Same x121 x113) fun x122 =>
      bnd (IntKind.wrap .i64 a2) fun x123 =>
      bnd (IntKind.wrap .i64 (v38 + x123)) fun x124 =>
      bno (gd (x122 == true) (sbuf_Came x116 x124 false) default) fun x125 =>
      bno (gd (x122 == true) (sbuf_Same x125 x116) default) fun x126 =>
      bnd (x122 && x126) fun x127 =>
      bno (gd (x127 == true) (sbuf_Same x118 x120) default) fun x128 =>
      bnd (x127 && x128) fun x129 =>
      bnd (decide (x118.Base = v40)) fun x130 =>
      bnd (x129 && x130) fun x131 =>
      bno (gd (x131 == true) (sbuf_Check x118) default) fun x132 =>
      bnd (decide (x132 = 0)) fun x133 =>
      bnd (x131 && x133) fun x134 =>
      bno (gd (x134 == true) (sennitlaw23_awake) default) fun x135 =>
      bnd (x134 && x135) fun x136 =>
      some x136
    )
def sennitlaw23_SbufTwice (a0 : (List T_sennitlaw23_Act)) (a1 : Int) (a2 : Int) : Option Bool :=
  bnd (decide (60 < (a0.length : Int))) fun x1 =>
  bif x1 then (
    bno (sennitlaw23_awake) fun x3 =>
    some x3
  ) else (
    bno (sbuf_New) fun x4 =>
    sennitlaw23_SbufTwice_L0 a0 a1 a2 fuel 0 x4.Base x4.Data x4.Next x4.Pieces x4.Lost x4.Closed x4.Sent x4.Again x4.Done
  )
end Go.Fn
