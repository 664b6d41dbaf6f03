/-
  A part of the proof: rules and plain facts. No condition.
-/
import Derived.Test.YtnokcmkfkfeaiaaGreatIlSl
import Derived.Test.YtnokcmkfkfeaiaaGreatIlS
set_option linter.all false
open Go.RowKit (Below)
namespace Go.IL
/-! Lists that are owned and cut off. -/
section
variable {P : Program} {O : cM} {N : Nat} {S S' : St} {o : Oper} {t : Nat} {Q : Exit → St → Prop}
theorem Rel.same {E : Env} {β : bZ} {a : Act} (h : Rel O N S E β a) (h1 : ∀ s, S'.get s = S.get s) (h2 : ∀ j, S'.ent j = S.ent j) : Rel O N S' E β a := by
  have h3 : S'.ent = S.ent := funext h2
  exact ⟨h.n, h.nd, h3 ▸ h.h, fun s => (h1 s).symm ▸ h.sl s⟩
theorem Rel.kill {E : Env} {β : bZ} {a : Act} (h : Rel O N S E β a) (t : Nat) : Rel O N (S.set t .dead) E β a := by
  refine ⟨h.n, h.nd, h.h, fun s => ?_⟩
  by_cases hst : t = s
  · subst hst; simp only [St.get, St.set, bB, if_true]; exact .dead _ _
  · have := h.sl s
    simpa [St.get, St.set, bB, hst] using this
theorem sH {S : St} {id : Nat} {e : Ent} : (S.setE id e).ent id = e := by simp [St.ent, entL, St.setE, bB]
theorem pS {S : St} {id j : Nat} {e : Ent} (h : j ≠ id) : (S.setE id e).ent j = S.ent j := by simp [St.ent, entL, St.setE, bB, Ne.symm h]
/-- A block is told by less than it has. -/
theorem Rel.shrunk {E : Env} {β : bZ} {a : Act} (h : Rel O N S E β a) {id : Nat} {e : TypeId} {ds ds' j : List D} (he : S.ent id = .blk e ds) (hd : ds = ds' ++ j) : Rel O N (S.setE id (.blk e ds')) E β a := by
  subst hd
  have hent := h.h.ent id
  rw [he] at hent
  have held : ∀ j, ((S.setE id (.blk e ds')).ent j).held = (S.ent j).held := fun j => by
    by_cases hj : j = id
    · subst hj; rw [sH, he]; rfl
    · rw [pS hj]
  refine ⟨h.n, h.nd, { h.h with ent := fun k => ?_, inj := fun i j k hi hj => h.h.inj i j k (held i ▸ hi) (held j ▸ hj) }, h.sl⟩
  by_cases hk : k = id
  · subst hk
    rw [sH]
    rcases hent with ⟨h1, h2⟩ | ⟨b, vs, sp, h1, h2, h3, h4, h5⟩
    · exact .inl ⟨h1, (List.append_eq_nil_iff.1 h2).1⟩
    · refine .inr ⟨b, vs.take ds'.length, vs.drop ds'.length ++ sp, h1, h2, by rw [← List.append_assoc, List.take_append_drop]; exact h3, h4, ?_⟩
      have := h5.take ds'.length
      rwa [List.take_append_of_le_length (Nat.le_refl _), List.take_length] at this
  · rw [pS hk]; exact h.h.ent k
theorem oY {α : Type} (f : Enc0 α) (l : List α) (k : Nat) : D.flat (l.map f.d) = D.flat ((l.take k).map f.d) ++ D.flat ((l.drop k).map f.d) := by
  rw [f.flat_append, List.take_append_drop]
/-- 's[:i]' of a list that is owned. -/
theorem uH {α : Type} (f : Enc0 α) {T e e' : TypeId} {x y : Operand} {z : Option Value} {bytes id n : Nat} {l r : List α} {k : IntKind} {h : Int} (ho : o.op = .slice T x none (some y) none) (hd : o.dst = some t) (ht : t < N)
    (hu : P.underlying T = some (.slice e)) (hi : TI P e z f.sz bytes) (hx : SV S x (.osl id f.sz n)) (he : S.ent id = .blk e' (D.flat (l.map f.d))) (hn : l.length ≤ n) (hy : SV S y (.int k h)) (hc : cut l 0 h = some r) :
    IOp P O N o S ((S.setE id (.blk e' (D.flat (r.map f.d)))).set t (.osl id f.sz r.length)) := by
  obtain ⟨⟨_, h0, h1⟩, hr'⟩ := zY hc
  have hr2 : l.take h.toNat = r := by simpa using hr'
  have hrl : r.length = h.toNat := by rw [← hr2, List.length_take]; omega
  have key : IOp P O N o S (S.set t (.osl id f.sz r.length)) := eR hd ht fun E β a hr => by
    have hhi : nX S (n : Int) (some y) h := ⟨_, hy⟩
    have hlo : nX S 0 none 0 := rfl
    have h1 := hx.rd hr
    generalize hv : a.eval x = v at h1
    cases h1 with
    | nosl =>
      have hb := lF (P := P) hr (isS := true) hlo hhi (Int.le_refl 0) h0 (by omega) (Nat.le_refl _)
      have e1 : h.toNat = 0 := by omega
      refine ⟨.slice none 0 0, ?_, by rw [hrl, e1]; exact .nosl _ _ _⟩
      simp only [Option.map_none, Option.map_some] at hb
      simp [execOp, ho, hv, Instr.sliceAt, Instr.slice, run_underlying hu, hb, hi.run_size, e1]
    | osl _ _ b _ cap _ hb' hc' hsz c e2 f2 hcap hcs hcm =>
      have hb := lF (P := P) hr (isS := true) hlo hhi (Int.le_refl 0) h0 (by omega) hc'
      simp only [Option.map_none, Option.map_some] at hb
      refine ⟨.slice (some ⟨b, 0, none⟩) h.toNat cap, ?_, by rw [hrl]; exact .osl _ _ b _ cap _ hb' (by omega) hsz c e2 f2 hcap hcs hcm⟩
      simp [execOp, ho, hv, Instr.sliceAt, Instr.slice, run_underlying hu, hb, hi.run_size, Addr.add]
  intro E β a hr next Q hn'
  refine key E β a hr next Q fun E' β' a' hr' => hn' E' β' a' ?_
  exact hr'.shrunk (ds' := D.flat (r.map f.d)) (j := D.flat ((l.drop h.toNat).map f.d)) he (by rw [← hr2]; exact oY f l _)
theorem tV {T e : TypeId} {x y : Operand} {z : Option Value} {size bytes : Nat} {k : IntKind} (ho : o.op = .slice T x (some y) none none) (hd : o.dst = some t) (ht : t < N)
    (hu : P.underlying T = some (.slice e)) (hi : TI P e z size bytes) (hx : SV S x .nils) (hy : SV S y (.int k 0)) : IOp P O N o S (S.set t .nils) :=
  eR hd ht fun E β a hr => by
    have h1 := hx.rd hr
    generalize hv : a.eval x = v at h1
    cases h1
    refine ⟨.slice none 0 0, ?_, .nils _⟩
    simp [execOp, ho, hv, Instr.sliceAt, Instr.slice, run_underlying hu, hi.run_size, Instr.sliceBounds, Instr.sliceBound, fF (hy.rd hr), asIntOf]
theorem tD {T e : TypeId} {x y1 y2 y3 : Operand} {z : Option Value} {size bytes : Nat} {k1 k2 k3 : IntKind} (ho : o.op = .slice T x (some y1) (some y2) (some y3)) (hd : o.dst = some t) (ht : t < N)
    (hu : P.underlying T = some (.slice e)) (hi : TI P e z size bytes) (hx : SV S x .nils) (hy1 : SV S y1 (.int k1 0)) (hy2 : SV S y2 (.int k2 0)) (hy3 : SV S y3 (.int k3 0)) : IOp P O N o S (S.set t .nils) :=
  eR hd ht fun E β a hr => by
    have h1 := hx.rd hr
    generalize hv : a.eval x = v at h1
    cases h1
    refine ⟨.slice none 0 0, ?_, .nils _⟩
    simp [execOp, ho, hv, Instr.sliceAt, Instr.slice, run_underlying hu, hi.run_size, Instr.sliceBounds, Instr.sliceBound, fF (hy1.rd hr), fF (hy2.rd hr), fF (hy3.rd hr), asIntOf]
theorem uC {A Z C : List D} {off : Nat} (h : A.length = off) : eQ (A ++ Z) off C = A ++ (C ++ Z.drop C.length) := by
  subst h
  unfold eQ
  rw [List.take_append_of_le_length (Nat.le_refl _), List.take_length, ← List.drop_drop, List.drop_append_of_le_length (Nat.le_refl _), List.drop_length, List.nil_append, List.append_assoc]
theorem tW {T e : TypeId} {x : Operand} (ho : o.op = .call { callee := .builtin .clear, args := #[x], argTypes := #[T] }) (hd : o.dst = none)
    (hu : P.underlying T = some (.slice e)) (hx : SV S x .nils) : IOp P O N o S S := by
  intro E β a hr next Q hn
  have h1 := hx.rd hr
  generalize hv : a.eval x = v at h1
  cases h1
  have : (execOp a.eval o).run P E.w = .ok (.value (.tuple #[])) E.w := by
    simp [execOp, ho, resolve, invoke, builtin, hv, Builtin.clear_, run_underlying hu]
  unfold Oper.wp
  rw [this]
  simp only [Oper.upon, hd, Act.put]
  exact hn E β _ hr
/-- 'clear(s[i:])' of a list that is owned: what is ahead of it stays. -/
theorem tL {α : Type} (f : Enc0 α) {ops : Array Oper} {o1 o2 : Oper} {c : List Oper} {T e e' : TypeId} {y : Operand} {z : Value} {bytes id n t1 tx : Nat} {l r : List α} {k : IntKind} {i : Int} (g1 : uV o1 = true) (g2 : uV o2 = true)
    (ho1 : o1.op = .slice T (.tmp tx) (some y) none none) (hd1 : o1.dst = some t1) (ht : t1 < N) (ho2 : o2.op = .call { callee := .builtin .clear, args := #[.tmp t1], argTypes := #[T] }) (hd2 : o2.dst = none)
    (hu : P.underlying T = some (.slice e)) (hi : TI P e (some z) f.sz bytes) (hz : z.cells.size = f.sz) (hz1 : z.cells.toList.all Value.oneCell' = true) (hx : S.get tx = .osl id f.sz n) (he : S.ent id = .blk e' (D.flat (l.map f.d))) (hn : l.length = n)
    (hy : ∀ S1 : St, (∀ s, tx ≠ s → S1.get s = S.get s) → SV S1 y (.int k i)) (hc : cut l 0 i = some r) (K : ILS P O N ops c (((S.setE id (.blk e' (D.flat (r.map f.d)))).set tx .dead).set t1 .dead) Q) : ILS P O N ops (o1 :: o2 :: c) S Q := by
  obtain ⟨⟨_, h0, h1⟩, hr'⟩ := zY hc
  have hr2 : l.take i.toNat = r := by simpa using hr'
  have hfl := f.flat_len l
  intro E β a hr
  rcases hr.opened hx he (by rw [hfl, hn]) with ⟨hn0, h3⟩ | ⟨cap, hc1, hc2, h3⟩
  · have hl0 : l = [] := List.length_eq_zero_iff.1 (by omega)
    subst hl0
    obtain rfl : i = 0 := by simp at h1; omega
    obtain rfl : r = [] := by simpa using hr2.symm
    refine aA g1 (tV ho1 hd1 ht hu hi (sv (d := .nils) (by simp [St.op, St.get, St.set, bB])) (hy _ fun s hs => by simp [St.get, St.set, bB, hs])) (aA g2 (tW ho2 hd2 hu (sv (d := .nils) (by simp [St.op, St.get, St.set, bB]))) ?_) E β a h3
    intro E' β' a' h4
    refine K E' β' a' (((h4.kill tx).kill t1).same (fun s => ?_) (fun j => ?_))
    · by_cases h6 : t1 = s <;> by_cases h7 : tx = s <;> simp [St.get, St.set, St.setE, bB, h6, h7]
    · simp only [St.ent, entL, St.set, St.setE, bB]
      split
      · rename_i h5; subst h5; exact he.symm
      · rfl
  · have hyS := hy ((S.setE id (.blk e' (D.flat (l.map f.d) ++ List.replicate ((cap - n) * f.sz) .dead))).set tx (.rsl id f.sz 0 n cap)) fun s hs => by simp [St.get, St.set, St.setE, bB, hs]
    have hin : i.toNat ≤ n := by omega
    have hmul : i.toNat * f.sz + (n - i.toNat) * f.sz = n * f.sz := by rw [← Nat.add_mul]; congr 1; omega
    refine aA g1 (dS (id := id) (off := 0) (len := n) (cap := cap) (sz := f.sz) (l := i) (h := n) (m := cap) (d := .rsl id f.sz (i.toNat * f.sz) (n - i.toNat) (cap - i.toNat)) ho1 hd1 ht hu hi (sv (d := .rsl _ _ _ _ _) (by simp [St.op, St.get, St.set, bB])) ⟨_, hyS⟩ rfl rfl (by simp) h0 (by omega) (by omega) (by omega) (by simp))
      (aA g2 (qL (e' := e') (ds := D.flat (l.map f.d) ++ List.replicate ((cap - n) * f.sz) D.dead) ho2 hd2 hu hi hz hz1 (sv (d := .rsl id f.sz (i.toNat * f.sz) (n - i.toNat) (cap - i.toNat)) (by simp [St.op, St.get, St.set, bB])) (by simp [St.ent, entL, St.set, St.setE, bB]) (by rw [List.length_append, hfl, hn, hmul]; exact Nat.le_add_right _ _) rfl) ?_) E β a h3
    intro E' β' a' h4
    have h5 := h4.shrunk (id := id) (e := e') (ds' := D.flat (r.map f.d)) (j := List.replicate ((n - i.toNat) * f.sz) .dead ++ (D.flat (l.map f.d) ++ List.replicate ((cap - n) * f.sz) D.dead).drop (n * f.sz)) sH (by
      unfold eQ
      rw [List.length_replicate, hmul, List.take_append_of_le_length (by rw [hfl, hn]; exact Nat.mul_le_mul_right _ hin), f.flat_take, hr2, List.append_assoc])
    refine K E' β' a' (((h5.kill tx).kill t1).same (fun s => ?_) (fun j => ?_))
    · by_cases h6 : t1 = s <;> by_cases h7 : tx = s <;> simp [St.get, St.set, St.setE, bB, h6, h7]
    · simp only [St.ent, entL, St.set, St.setE, bB]; repeat' split <;> rfl
theorem kE {b : Frame} {a : Act} {k : List Item} {cs : List Frame} {w : World} {c : Code} : step P (lone (b.atR a (.code (.scope c) :: k)) cs w) = .next (lone (b.atR a (.code c :: .inScope c :: k)) cs w) :=
  step_lone_go (by simp [stepG, stepG.exec, Frame.atR])
theorem uO {b : Frame} {a : Act} {k : List Item} {cs : List Frame} {w : World} {c : Code} : step P (lone (b.atR a (.inScope c :: k)) cs w) = .next (lone (b.atR a k) cs w) :=
  step_lone_go (by simp [stepG, stepG.exec, Frame.atR])
theorem zD {F : Fence} {n : Nat} {a : Act} {w : World} {R : Exit → Act → World → Prop} {c : Code} (h : c.wpIn F n P (Exit.noGoto R) a w) : (Code.scope c).wpIn F n P R a w := by
  intro b k cs hro hb hr
  have h0 : (lone (b.atR a (.code (.scope c) :: k)) cs w).fenced P F := fenced_calm hb hr rfl
  obtain ⟨e, a₁, w₁, hq, harr⟩ := h b (.inScope c :: k) cs hro hb hr
  cases e with
  | normal => exact ⟨.normal, a₁, w₁, hq, .head h0 kE (StepsIn.trans harr (.one (fenced_calm hb hr rfl) uO))⟩
  | exit id =>
    have hx : exitTo id (.inScope c :: k) = exitTo id k := by simp [exitTo]
    exact ⟨.exit id, a₁, w₁, hq, fun k' hk => .head h0 kE (harr.1 k' (by rw [hx]; exact hk)),
      fun hr' hk => let ⟨k₁, h1, h2⟩ := harr.2 hr' (by rw [hx]; exact hk); ⟨k₁, h1, .head h0 kE h2⟩⟩
  | goto l => exact hq.elim
  | ret => exact ⟨_, a₁, w₁, hq, .of_steps (.one h0 kE) harr⟩
  | panic ch => exact ⟨_, a₁, w₁, hq, .of_steps (.one h0 kE) harr⟩
  | outgrown => exact ⟨_, a₁, w₁, hq, .of_steps (.one h0 kE) harr⟩
/-- A scope that is left without a jump. -/
def aBu (Q : Exit → St → Prop) : Exit → St → Prop
  | .goto _, _ => False
  | e, S => Q e S
theorem aAb {c : Code} (h : IWP P O N c S (aBu Q)) : IWP P O N (.scope c) S Q := by
  intro E β a hr
  refine zD (wpIn_mono (h E β a hr) ?_)
  rintro e a' w' ⟨S', E', β', rfl, h2, h3⟩
  cases e with
  | goto l => exact h3.elim
  | _ => exact ⟨S', E', β', rfl, h2, h3⟩
theorem aBH (h : Q .ret S) : aBu Q .ret S := h
theorem aB4 {α : Type} {l r : List α} {a b : Int} (h : cut l a b = some r) : r.length ≤ l.length := by
  obtain ⟨_, hr⟩ := zY h
  rw [← hr, List.length_drop, List.length_take]; omega
end
end Go.IL
open Go.RowKit (Below)
namespace Go.IL
/-! Calls that are handed memory, in any order with others. -/
section
variable {P : Program} {O : cM} {N : Nat} {S S' : St} {o : Oper} {t : Nat} {Q : Exit → St → Prop}
structure HandM (S : St) (k : Nat) (A : List Nat) (H0 : List (Nat × Ent)) : Prop where
  nd : A.Nodup
  cov : A.all (fun i => (H0.map fun x => sig k A x.1).contains i) = true
  ents : ∀ x ∈ H0, eB A x.1 = true ∧ x.2.held = true ∧ S.ent (sig k A x.1) = x.2.ren (sig k A) ∧ x.2.refsIn (eB A) = true
def nH (m : Nat) (A : List Nat) (i : Nat) : Bool := Nat.blt i m || eB A i
theorem zS {f : FuncId} {ds ds' : List D} {r r' : D} {H0 H1 H2 : List (Nat × Ent)} (k m : Nat) (A : List Nat) (hd : o.dst = some t) (ht : t < N)
    (h : ∀ E β a, Rel O N S E β a → ∃ vs : List Value, (execOp a.eval o).run P E.w = .ok (.enter f vs.toArray) E.w ∧ RdL E β vs ds') (hds : D.renL (sig k A) ds = ds') (hp : D.refsInL (eB A) ds = true)
    (hkm : k + m ≤ 1000) (hfr : ∀ j, j < m → S.ent (k + j) = .fresh) (hh : HandM S k A H0) (hf : FnH P f ds H0 r H1) (hrr : r.ren (sig k A) = r') (hrp : r.refsIn (nH m A) = true) (hH1 : ∀ x ∈ H1, nH m A x.1 = true ∧ x.2.refsIn (nH m A) = true)
    (hH2 : qV k A H0 H1 S.H = H2) : IOp P O N o S (St.set ⟨S.sl, H2⟩ t r') := by
  intro E β a hr next Q hn
  obtain ⟨vs, hrun, hv⟩ := h E β a hr
  unfold Oper.wp
  rw [hrun]
  simp only [Oper.upon, hd]
  subst hds hrr hH2
  let βc : bZ := fun i => if eB A i = true then β (sig k A i) else none
  have hβc : ∀ id, eB A id = true → βc id = β (sig k A id) := fun id hid => by simp [βc, hid]
  have hvc : RdL E βc vs ds := RdL.ren hβc ds hv hp
  have h0 : ∀ i, (entL H0 i).held = true → eB A i = true ∧ S.ent (sig k A i) = (entL H0 i).ren (sig k A) ∧ (entL H0 i).refsIn (eB A) = true := fun i hi => by
    have h1 := hh.ents _ (qP hi)
    exact ⟨h1.1, h1.2.2.1, h1.2.2.2⟩
  have hcall : HOk ⟨E.w, E.X, lZ βc H0, βc, none, fun _ => [], fun _ => 0, fun _ => [], fun _ => (#[], .skip, .skip)⟩ E βc (entL H0) := {
    os := rfl, tape := rfl, output := rfl, size := Nat.le_refl _, block := fun _ _ _ => rfl, xlt := hr.h.xlt, xold := fun _ _ _ _ => Iff.rfl, le := Env.le.refl _
    gid := fun i b hi => by
      by_cases hg : eB A i = true
      · simp only [eB, Bool.and_eq_true, Nat.ble_eq] at hg; exact hg.1
      · simp [βc, hg] at hi
    given := fun _ _ hi => hi
    ent := fun i => by
      cases hhe : (entL H0 i).held with
      | true =>
        obtain ⟨h1, h2, h3⟩ := h0 i hhe
        have he := hr.h.ent (sig k A i)
        rw [h2] at he
        have hown : ∀ b, βc i = some b → (⟨E.w, E.X, lZ βc H0, βc, none, fun _ => [], fun _ => 0, fun _ => [], fun _ => (#[], .skip, .skip)⟩ : cM).own b := fun b hb => .inr ⟨i, hhe, hb⟩
        cases hE : entL H0 i with
        | none => trivial
        | fresh => rw [hE] at hhe; cases hhe
        | blk e es =>
          rw [hE] at he h3
          rcases he with ⟨g1, g2⟩ | ⟨b, ws, sp, g1, g2, g3, g4, g5⟩
          · exact .inl ⟨(hβc i h1).trans g1, rZ g2⟩
          · exact .inr ⟨b, ws, sp, (hβc i h1).trans g1, hown b ((hβc i h1).trans g1), g3, g4, RdL.ren hβc es g5 h3⟩
        | tail e sz n =>
          rw [hE] at he
          rcases he with ⟨g1, g2⟩ | ⟨b, c, g1, g2, g3, g4⟩
          · exact .inl ⟨(hβc i h1).trans g1, g2⟩
          · exact .inr ⟨b, c, (hβc i h1).trans g1, hown b ((hβc i h1).trans g1), g3, g4⟩
        | loop lk es st pe =>
          rw [hE] at h3; cases h3
        | kept n es => rw [hE] at hhe; cases hhe
      | false =>
        cases hE : entL H0 i with
        | none => trivial
        | fresh =>
          show βc i = none
          by_cases hm : i ∈ H0.map (·.1)
          · obtain ⟨e, h1, h2⟩ := gS (z := defE i) hm
            have h3 := hh.ents _ h1
            have : entL H0 i = e := h2
            rw [hE] at this; rw [← this] at h3; exact absurd h3.2.1 (by simp [Ent.held])
          · have : entL H0 i = defE i := fN hm
            rw [hE] at this
            unfold defE at this
            split at this
            · cases this
            · rename_i hlt
              have : ¬ eB A i = true := by simp only [eB, Bool.and_eq_true, Nat.ble_eq]; omega
              simp [βc, this]
        | blk => rw [hE] at hhe; cases hhe
        | tail => rw [hE] at hhe; cases hhe
        | loop => rw [hE] at hhe; cases hhe
        | kept n es =>
          exfalso
          by_cases hm : i ∈ H0.map (·.1)
          · obtain ⟨e, h1, h2⟩ := gS (z := defE i) hm
            have h3 := hh.ents _ h1
            have : entL H0 i = e := h2
            rw [hE] at this; rw [← this] at h3; exact absurd h3.2.1 (by simp [Ent.held])
          · have : entL H0 i = defE i := fN hm
            rw [hE] at this
            unfold defE at this
            split at this <;> cases this
    inj := fun i j b hi hj h1 h2 => by
      obtain ⟨a1, a2, _⟩ := h0 i hi
      obtain ⟨b1, b2, _⟩ := h0 j hj
      have h1 : β (sig k A i) = some b := (hβc i a1).symm.trans h1
      have h2 : β (sig k A j) = some b := (hβc j b1).symm.trans h2
      exact uQ hh.nd a1 b1 (hr.h.inj _ _ b (by rw [a2, Ent.held_ren]; exact hi) (by rw [b2, Ent.held_ren]; exact hj) h1 h2) }
  refine (hf E βc vs hr.h.xlt hcall.gid hcall hvc).mono ?_
  rintro e w' ⟨v, rfl, E', β', rfl, hok, hrd⟩
  -- old blocks that were not handed over
  have hfoot : ∀ b, lZ βc H0 b → ∃ i, eB A i = true ∧ (S.ent (sig k A i)).held = true ∧ β (sig k A i) = some b := fun b ⟨i, hi, hb⟩ => by
    obtain ⟨h1, h2, _⟩ := h0 i hi
    exact ⟨i, h1, by rw [h2, Ent.held_ren]; exact hi, by rw [← hβc i h1]; exact hb⟩
  have hfown : ∀ b, lZ βc H0 b → O.own b := fun b hb => by
    obtain ⟨i, _, h2, h3⟩ := hfoot b hb
    have he := hr.h.ent (sig k A i)
    exact hr.h.own h2 h3
  have hcown : ∀ b, (⟨E.w, E.X, lZ βc H0, βc, none, fun _ => [], fun _ => 0, fun _ => [], fun _ => (#[], .skip, .skip)⟩ : cM).own b → O.own b := fun b hb => by
    rcases hb with hb | hb
    · exact .inl (Nat.le_trans hr.h.size hb)
    · exact hfown b hb
  have hfrE : ∀ i, k ≤ i ∧ i < k + m → S.ent i = .fresh := fun i h1 => by
    have := hfr (i - k) (by omega)
    rwa [show k + (i - k) = i by omega] at this
  have hfresh : ∀ i, k ≤ i → i < k + m → β i = none := fun i h1 h2 => by
    have he := hr.h.ent i
    rw [hfrE i ⟨h1, h2⟩] at he; exact he
  let βn : bZ := fun i => if k ≤ i ∧ i < k + m then β' (i - k) else if i ∈ A then β' (1000 + A.idxOf i) else β i
  have hAk : ∀ i, i ∈ A → ¬ (k ≤ i ∧ i < k + m) := fun i hi hki => by
    have h1 := List.all_eq_true.1 hh.cov i hi
    obtain ⟨x, hx, hxe⟩ := List.mem_map.1 (by simpa using h1 : i ∈ H0.map (fun x => sig k A x.1))
    have h2 := hh.ents x hx
    rw [hxe, hfrE i hki] at h2
    have h3 : (x.2.ren (sig k A)).held = true := by rw [Ent.held_ren]; exact h2.2.1
    rw [← h2.2.2.1] at h3; cases h3
  have hnA : ∀ i, i ∈ A → βn i = β' (1000 + A.idxOf i) := fun i hi => by simp [βn, hAk i hi, hi]
  have hnO : ∀ i, i ∉ A → ¬ (k ≤ i ∧ i < k + m) → βn i = β i := fun i h1 h2 => by simp [βn, h1, h2]
  have hβ1 : β.le βn := fun i b hi => by
    by_cases hki : k ≤ i ∧ i < k + m
    · rw [hfresh i hki.1 hki.2] at hi; cases hi
    · by_cases hA : i ∈ A
      · rw [hnA i hA]
        obtain ⟨h1, h2⟩ := rS (k := k) hA
        exact hok.given _ _ (((hβc _ h1).trans (by rw [h2])).trans hi)
      · rw [hnO i hA hki]; exact hi
  have hβ2 : ∀ i, nH m A i = true → βn (sig k A i) = β' i := fun i hi => by
    by_cases hg : eB A i = true
    · rw [hnA _ (mQ hg), uR hh.nd hg]
    · simp only [nH, hg, Bool.or_false, Nat.blt_eq] at hi
      have h2 : ¬ 1000 ≤ i := by omega
      have h1 : sig k A i = k + i := by simp [sig, h2]
      rw [h1]
      simp [βn, hi]
  have hle : E.le E' := hok.le
  -- the entries behind the call
  have hkey1 : ∀ i, nH m A i = true → ∀ j, nH m A j = true → sig k A i = sig k A j → i = j := fun i hi j hj hij => by
    by_cases hgi : eB A i = true
    · by_cases hgj : eB A j = true
      · exact uQ hh.nd hgi hgj hij
      · exfalso
        simp only [nH, hgj, Bool.or_false, Nat.blt_eq] at hj
        have h2 : sig k A j = k + j := by simp [sig, show ¬ 1000 ≤ j by omega]
        exact hAk _ (mQ (k := k) hgi) (by rw [hij, h2]; omega)
    · by_cases hgj : eB A j = true
      · exfalso
        simp only [nH, hgi, Bool.or_false, Nat.blt_eq] at hi
        have h2 : sig k A i = k + i := by simp [sig, show ¬ 1000 ≤ i by omega]
        exact hAk _ (mQ (k := k) hgj) (by rw [← hij, h2]; omega)
      · simp only [nH, hgi, hgj, Bool.or_false, Nat.blt_eq] at hi hj
        simp only [sig, show ¬ 1000 ≤ i by omega, show ¬ 1000 ≤ j by omega, if_false] at hij
        omega
  have hent : ∀ i, (St.set ⟨S.sl, qV k A H0 H1 S.H⟩ t (r.ren (sig k A))).ent i =
      if i ∈ H1.map (fun x => sig k A x.1) then (look (defE i) i (H1.map fun x => (sig k A x.1, x.2.ren (sig k A)))) else if i ∈ H0.map (fun x => sig k A x.1) then .none else S.ent i := fun i => by
    simp only [St.ent, entL, St.set, qV, lW, List.map_map]
    have e1 : (Prod.fst ∘ fun x : Nat × Ent => (sig k A x.1, x.2.ren (sig k A))) = fun x => sig k A x.1 := rfl
    have e2 : (Prod.fst ∘ fun x : Nat × Ent => (sig k A x.1, Ent.none)) = fun x => sig k A x.1 := rfl
    rw [e1, e2]
    split
    · rfl
    · split
      · rename_i h1 h2
        obtain ⟨e, h3, h4⟩ := gS (z := defE i) (l := H0.map fun x => (sig k A x.1, Ent.none)) (by rw [List.map_map, e2]; exact h2)
        rw [h4]
        obtain ⟨x, _, hx⟩ := List.mem_map.1 h3
        cases hx; rfl
      · rfl
  have hlook1 : ∀ j, nH m A j = true → j ∈ H1.map (·.1) → look (defE (sig k A j)) (sig k A j) (H1.map fun x => (sig k A x.1, x.2.ren (sig k A))) = (entL H1 j).ren (sig k A) := by
    intro j hj
    unfold entL
    have aux : ∀ (z z' : Ent) (l : List (Nat × Ent)), (∀ x ∈ l, nH m A x.1 = true) → j ∈ l.map (·.1) → look z (sig k A j) (l.map fun x => (sig k A x.1, x.2.ren (sig k A))) = (look z' j l).ren (sig k A) := by
      intro z z' l
      induction l with
      | nil => intro _ h; simp at h
      | cons x l ih =>
        obtain ⟨i, e⟩ := x
        intro hl hm
        simp only [List.map_cons, bB]
        by_cases hij : i = j
        · subst hij; rw [if_pos rfl, if_pos rfl]
        · rw [if_neg (fun h => hij (hkey1 i (hl (i, e) List.mem_cons_self) j hj h)), if_neg hij]
          refine ih (fun x hx => hl x (List.mem_cons_of_mem _ hx)) ?_
          simp only [List.map_cons, List.mem_cons] at hm
          rcases hm with h | h
          · exact absurd h.symm hij
          · exact h
    exact aux _ _ H1 (fun x hx => (hH1 x hx).1)
  have hH1r : ∀ j, j ∈ H1.map (·.1) → nH m A j = true ∧ (entL H1 j).refsIn (nH m A) = true := fun j hj => by
    obtain ⟨e, h1, h2⟩ := gS (z := defE j) hj
    have h3 := hH1 _ h1
    exact ⟨h3.1, by rw [show entL H1 j = e from h2]; exact h3.2⟩
  have cases1 : ∀ i, i ∈ H1.map (fun x => sig k A x.1) → ∃ j, j ∈ H1.map (·.1) ∧ nH m A j = true ∧ i = sig k A j := fun i hi => by
    obtain ⟨x, hx, rfl⟩ := List.mem_map.1 hi
    exact ⟨x.1, List.mem_map.2 ⟨x, hx, rfl⟩, (hH1 x hx).1, rfl⟩
  -- an entry that was not handed over
  have hold : ∀ i, i ∉ H1.map (fun x => sig k A x.1) → i ∉ H0.map (fun x => sig k A x.1) → (S.ent i).held = true → ∀ b, β i = some b → βn i = some b ∧ b < E.w.heap.size ∧ ¬ lZ βc H0 b := fun i h1 h2 h3 b hb => by
    refine ⟨hβ1 i b hb, ?_, ?_⟩
    · exact hr.h.lt h3 hb
    · rintro ⟨j, hj, hbj⟩
      obtain ⟨g1, g2, _⟩ := h0 j hj
      have : i = sig k A j := hr.h.inj i (sig k A j) b h3 (by rw [g2, Ent.held_ren]; exact hj) hb (by rw [← hβc j g1]; exact hbj)
      exact h2 (List.mem_map.2 ⟨_, qP hj, this.symm⟩)
  have hcov : ∀ i, i ∈ A → i ∈ H0.map (fun x => sig k A x.1) := fun i hi => by
    have := List.all_eq_true.1 hh.cov i hi
    simpa using this
  have hold' : ∀ i, i ∉ H0.map (fun x => sig k A x.1) → S.ent i ≠ .fresh → βn i = β i := fun i h0 hf => by
    refine hnO i (fun hA => h0 (hcov i hA)) (fun hki => hf ?_)
    exact hfrE i hki
  refine hn E' βn _ ⟨by simp [Act.put, hr.n], hr.nd.mono (fun b hx => (hok.block b (dI hx) (fun hf => by obtain ⟨i, _, h2, h3⟩ := hfoot b hf; exact hr.h.nodef h2 h3 _ hx)).trans hx), ?_, ?_⟩
  · exact {
      os := hok.os.trans hr.h.os, tape := hok.tape.trans hr.h.tape, output := hok.output.trans hr.h.output, size := Nat.le_trans hr.h.size hok.size
      block := fun j hj hf => by
        have hnf : ¬ lZ βc H0 j := fun h => by
          rcases hfown j h with h1 | h1
          · omega
          · exact hf h1
        exact (hok.block j (Nat.lt_of_lt_of_le hj hr.h.size) hnf).trans (hr.h.block j hj hf)
      xlt := hok.xlt
      xold := fun b o hb hf => by
        have hnf : ¬ lZ βc H0 b := fun h => by
          rcases hfown b h with h1 | h1
          · omega
          · exact hf h1
        exact (hok.xold b o (Nat.lt_of_lt_of_le hb hr.h.size) hnf).trans (hr.h.xold b o hb hf)
      le := hr.h.le.trans hle
      gid := hr.h.gid
      given := fun i b hi => hβ1 i b (hr.h.given i b hi)
      ent := fun i => by
        rw [hent i]
        by_cases hi1 : i ∈ H1.map (fun x => sig k A x.1)
        · rw [if_pos hi1]
          obtain ⟨j, hj, hbj, rfl⟩ := cases1 i hi1
          rw [hlook1 j hbj hj]
          have he := hok.ent j
          have hrf := (hH1r j hj).2
          have hb2 := hβ2 j hbj
          cases hE : entL H1 j with
          | none => trivial
          | fresh => rw [hE] at he; exact hb2.trans he
          | blk e es =>
            rw [hE] at he hrf
            rcases he with ⟨g1, g2⟩ | ⟨b, ws, sp, g1, g2, g3, g4, g5⟩
            · exact .inl ⟨hb2.trans g1, by rw [g2]; rfl⟩
            · exact .inr ⟨b, ws, sp, hb2.trans g1, hcown b g2, g3, g4, RdL.renp (fun id b hid hb => (hβ2 id hid).trans hb) g5 hrf⟩
          | tail e sz n =>
            rw [hE] at he
            rcases he with ⟨g1, g2⟩ | ⟨b, c, g1, g2, g3, g4⟩
            · exact .inl ⟨hb2.trans g1, g2⟩
            · exact .inr ⟨b, c, hb2.trans g1, hcown b g2, g3, g4⟩
          | loop lk es st pe =>
            rw [hE] at hrf; cases hrf
          | kept n es => rw [hE] at hrf; cases hrf
        · rw [if_neg hi1]
          by_cases hi0 : i ∈ H0.map (fun x => sig k A x.1)
          · rw [if_pos hi0]; trivial
          · rw [if_neg hi0]
            have he := hr.h.ent i
            have hnb : ∀ b, (S.ent i).held = true → β i = some b → βn i = some b ∧ E'.w.heap[b]? = E.w.heap[b]? ∧ ∀ o, (E'.X b o ↔ E.X b o) := fun b hhe hb => by
              obtain ⟨g1, g2, g3⟩ := hold i hi1 hi0 hhe b hb
              exact ⟨g1, hok.block b g2 g3, fun o => hok.xold b o g2 g3⟩
            cases hE : S.ent i with
            | none => trivial
            | fresh =>
              rw [hE] at he
              show βn i = none
              by_cases hki : k ≤ i ∧ i < k + m
              · -- a fresh name of the callee's that is told by nothing
                have hbi : i - k ∉ H1.map (·.1) := fun hm => by
                  have hbb := (hH1r _ hm).1
                  refine hi1 ?_
                  obtain ⟨x, hx, hxe⟩ := List.mem_map.1 hm
                  refine List.mem_map.2 ⟨x, hx, ?_⟩
                  have hx' : x.1 = i - k := hxe
                  rw [hx']
                  simp only [sig, show ¬ 1000 ≤ i - k by omega, if_false]
                  omega
                have h3 := hok.ent (i - k)
                have h4 : entL H1 (i - k) = defE (i - k) := fN hbi
                rw [h4, defE, if_neg (by omega)] at h3
                simp only [βn, hki, and_self, if_true]
                exact h3
              · rw [hnO i (fun hA => hi0 (hcov i hA)) hki]; exact he
            | blk e es =>
              rw [hE] at he
              rcases he with ⟨g1, g2⟩ | ⟨b, ws, sp, g1, g2, g3, g4, g5⟩
              · exact .inl ⟨(hold' i hi0 (by rw [hE]; exact fun h => by cases h)).trans g1, g2⟩
              · obtain ⟨f1, f2, f3⟩ := hnb b (by rw [hE]; rfl) g1
                exact .inr ⟨b, ws, sp, f1, g2, f2.trans g3, fun o => (f3 o).2 (g4 o), RdL.mono hle hβ1 g5⟩
            | tail e sz n =>
              rw [hE] at he
              rcases he with ⟨g1, g2⟩ | ⟨b, c, g1, g2, g3, g4⟩
              · exact .inl ⟨(hold' i hi0 (by rw [hE]; exact fun h => by cases h)).trans g1, g2⟩
              · obtain ⟨f1, f2, f3⟩ := hnb b (by rw [hE]; rfl) g1
                exact .inr ⟨b, c, f1, g2, f2.trans g3, fun o ho => (f3 o).2 (g4 o ho)⟩
            | loop lk es st pe =>
              rw [hE] at he
              obtain ⟨b, q, g1, g2, g3, g4, g5, g6, g7, g8, g9, g10⟩ := he
              obtain ⟨f1, f2, f3⟩ := hnb b (by rw [hE]; rfl) g1
              exact ⟨b, q, f1, g2, f2.trans g3, fun o => (f3 o).2 (g4 o), g5, g6, g7, g8, g9, g10.1, RdL.mono hle hβ1 g10.2⟩
            | kept n es =>
              rw [hE] at he
              exact ⟨RdL.mono hle hβ1 he.1, fun c hc => (hok.block c (dI (he.2 c hc)) (fun hf => by obtain ⟨i, _, h2, h3⟩ := hfoot c hf; exact hr.h.nodef h2 h3 _ (he.2 c hc))).trans (he.2 c hc)⟩
      inj := fun i j b hi hj hbi hbj => by
        rw [hent i] at hi
        rw [hent j] at hj
        have hone : ∀ i, i ∈ H1.map (fun x => sig k A x.1) → (look (defE i) i (H1.map fun x => (sig k A x.1, x.2.ren (sig k A)))).held = true → βn i = some b → ∃ a, (entL H1 a).held = true ∧ β' a = some b ∧ i = sig k A a ∧ nH m A a = true := fun i hm hh hb => by
          obtain ⟨a, ha, hba, rfl⟩ := cases1 i hm
          rw [hlook1 a hba ha, Ent.held_ren] at hh
          exact ⟨a, hh, (hβ2 a hba).symm.trans hb, rfl, hba⟩
        have hown1 : ∀ a, (entL H1 a).held = true → β' a = some b → E.w.heap.size ≤ b ∨ lZ βc H0 b := fun a hh hb => by
          exact hok.own hh hb
        have hto : ∀ i, i ∉ H0.map (fun x => sig k A x.1) → (S.ent i).held = true → βn i = some b → β i = some b := fun i h0 hh hb => by
          rw [← hold' i h0 (fun h => by rw [h] at hh; cases hh)]; exact hb
        have hmix : ∀ i j, i ∈ H1.map (fun x => sig k A x.1) → (look (defE i) i (H1.map fun x => (sig k A x.1, x.2.ren (sig k A)))).held = true → βn i = some b → j ∉ H1.map (fun x => sig k A x.1) → j ∉ H0.map (fun x => sig k A x.1) → (S.ent j).held = true → βn j = some b → False := fun i j h1 h2 h3 h4 h5 h6 h7 => by
          obtain ⟨a, ha, hb, _⟩ := hone i h1 h2 h3
          obtain ⟨_, f2, f3⟩ := hold j h4 h5 h6 b (hto j h5 h6 h7)
          rcases hown1 a ha hb with h | h
          · omega
          · exact f3 h
        by_cases hi1 : i ∈ H1.map (fun x => sig k A x.1)
        · rw [if_pos hi1] at hi
          by_cases hj1 : j ∈ H1.map (fun x => sig k A x.1)
          · rw [if_pos hj1] at hj
            obtain ⟨a, ha, hab, rfl, _⟩ := hone i hi1 hi hbi
            obtain ⟨c, hc, hcb, rfl, _⟩ := hone j hj1 hj hbj
            rw [hok.inj a c b ha hc hab hcb]
          · rw [if_neg hj1] at hj
            by_cases hj0 : j ∈ H0.map (fun x => sig k A x.1)
            · rw [if_pos hj0] at hj; cases hj
            · rw [if_neg hj0] at hj
              exact (hmix i j hi1 hi hbi hj1 hj0 hj hbj).elim
        · rw [if_neg hi1] at hi
          by_cases hi0 : i ∈ H0.map (fun x => sig k A x.1)
          · rw [if_pos hi0] at hi; cases hi
          · rw [if_neg hi0] at hi
            by_cases hj1 : j ∈ H1.map (fun x => sig k A x.1)
            · rw [if_pos hj1] at hj
              exact (hmix j i hj1 hj hbj hi1 hi0 hi hbi).elim
            · rw [if_neg hj1] at hj
              by_cases hj0 : j ∈ H0.map (fun x => sig k A x.1)
              · rw [if_pos hj0] at hj; cases hj
              · rw [if_neg hj0] at hj
                exact hr.h.inj i j b hi hj (hto i hi0 hi hbi) (hto j hj0 hj hbj) }
  · intro s
    have hts : t < a.tmps.size := hr.n ▸ ht
    by_cases hst : t = s
    · subst hst
      have h1 := Rd.renp (p := nH m A) (fun id b hid hb => (hβ2 id hid).trans hb) hrd hrp
      simpa [Act.put, St.get, St.set, bB, hts] using h1
    · have := Rd.mono hle hβ1 (hr.sl s)
      simpa [Act.put, St.get, St.set, bB, hst, Array.getElem?_setIfInBounds_ne] using this

theorem aAl {f : FuncId} {xs : List Operand} {ts : Array TypeId} {ds ds' : List D} {r r' : D} {H0 H1 U : List (Nat × Ent)} (k m : Nat) (A : List Nat) (ho : o.op = .call { callee := .value (.func f), args := xs.toArray, argTypes := ts }) (hd : o.dst = some t) (ht : t < N)
    (hc : bH P f) (hx : SVs S xs ds') (hds : D.renL (sig k A) ds = ds') (hp : D.refsInL (eB A) ds = true) (hkm : Nat.ble (k + m) 1000 = true) (hfr : ∀ e ∈ (List.range m).map (fun j => S.ent (k + j)), e = .fresh)
    (hh : HandM S k A H0) (hf : FnH P f ds H0 r H1) (hrr : r.ren (sig k A) = r') (hrp : r.refsIn (nH m A) = true) (hH1 : ∀ x ∈ H1, nH m A x.1 = true ∧ x.2.refsIn (nH m A) = true)
    (hU : (H1.map fun x => (sig k A x.1, x.2.ren (sig k A))) ++ (H0.map fun x => (sig k A x.1, Ent.none)) = U) : IOp P O N o S ⟨(t, r') :: S.sl, U ++ S.H⟩ := by
  have h := zS (P := P) (O := O) (N := N) (S := S) (o := o) (t := t) (f := f) (ds := ds) (ds' := ds') (r := r) (r' := r') (H0 := H0) (H1 := H1) (H2 := U ++ S.H) k m A hd ht (fun E β a hr => ⟨xs.map a.eval, by
    simp [execOp, ho, resolve, Deferred.ofValue, Act.eval, invoke, gD hc], hx.rd hr⟩) hds hp (Nat.le_of_ble_eq_true hkm) (fun j hj => hfr _ (List.mem_map.2 ⟨j, List.mem_range.2 hj, rfl⟩)) hh hf hrr hrp hH1 (by rw [← hU, qV, List.append_assoc])
  exact h
end
end Go.IL
namespace Go.IL
section
variable {P : Program} {O : cM} {N : Nat} {S S' : St} {o : Oper} {t : Nat} {Q : Exit → St → Prop}

/-! Comparison of structs and arrays, nested ones too. -/
end
end Go.IL
open Go.RowKit (Below)
namespace Go.IL
/-- What 'copy' leaves. -/
def cpy {α : Type} (xs ys : List α) : List α := ys.take xs.length ++ xs.drop ys.length
theorem cpy_len {α : Type} (xs ys : List α) : (cpy xs ys).length = xs.length := by simp [cpy]; omega
theorem aBk {α : Type} {xs ys zs : List α} {n : Nat} (h : cpy xs ys = zs) (hl : xs.length = n) : zs.length = n := by rw [← h, cpy_len, hl]
section
variable {P : Program} {O : cM} {N : Nat} {S S' : St} {o : Oper} {t : Nat} {Q : Exit → St → Prop}
theorem aBe {α : Type} (f : Enc0 α) (xs ys : List α) : eQ (D.flat (xs.map f.d)) 0 ((D.flat (ys.map f.d)).take (min ys.length xs.length * f.sz)) = D.flat ((cpy xs ys).map f.d) := by
  have e1 : (D.flat (ys.map f.d)).take (min ys.length xs.length * f.sz) = D.flat ((ys.take xs.length).map f.d) := by
    have h := oY f ys (min ys.length xs.length)
    have hl : (D.flat ((ys.take (min ys.length xs.length)).map f.d)).length = min ys.length xs.length * f.sz := by
      rw [f.flat_len, List.length_take]; congr 1; omega
    rw [h, ← hl, List.take_append_of_le_length (Nat.le_refl _), List.take_length]
    congr 2
    rcases Nat.le_total ys.length xs.length with h | h
    · rw [Nat.min_eq_left h, List.take_length, List.take_of_length_le h]
    · rw [Nat.min_eq_right h]
  rw [e1]
  unfold eQ cpy
  have e2 : (D.flat ((ys.take xs.length).map f.d)).length = min ys.length xs.length * f.sz := by rw [f.flat_len, List.length_take]; congr 1; omega
  have e3 : (D.flat (xs.map f.d)).drop (min ys.length xs.length * f.sz) = D.flat ((xs.drop ys.length).map f.d) := by
    have h := oY f xs (min ys.length xs.length)
    have hl : (D.flat ((xs.take (min ys.length xs.length)).map f.d)).length = min ys.length xs.length * f.sz := by
      rw [f.flat_len, List.length_take]; congr 1; omega
    rw [h, ← hl, List.drop_append_of_le_length (Nat.le_refl _), List.drop_length, List.nil_append]
    congr 2
    rcases Nat.le_total ys.length xs.length with h | h
    · rw [Nat.min_eq_left h]
    · rw [Nat.min_eq_right h, List.drop_length, List.drop_of_length_le h]
  rw [e2, Nat.zero_add, e3, List.take_zero, List.nil_append, f.flat_append]
/-- 'copy' into a list that is owned. -/
theorem aAj {α : Type} (f : Enc0 α) {T T2 e : TypeId} {x y : Operand} {id n : Nat} {e' : TypeId} {xs ys zs : List α} {z : Option Value} {bytes : Nat} (ho : o.op = .call { callee := .builtin .copy, args := #[x, y], argTypes := #[T, T2] }) (hd : o.dst = some t) (ht : t < N)
    (hu : P.underlying T = some (.slice e)) (hi : TI P e z f.sz bytes) (hx : S.op x = .osl id f.sz n) (hl : xs.length = n) (he : S.ent id = .blk e' (D.flat (xs.map f.d)))
    (hy : ∀ E β a, Rel O N S E β a → Src E β (a.eval y) ys.length (D.flat (ys.map f.d))) (hz : cpy xs ys = zs) : IOp P O N o S ((S.setE id (.blk e' (D.flat (zs.map f.d)))).set t (.int .i64 ((min ys.length n : Nat) : Int))) := by
  intro E β a hr next Q hn
  subst hz
  have h1 : Rd E β (a.eval x) (.osl id f.sz n) := hx ▸ hr.op x
  have hone : ((D.flat (ys.map f.d)).take (min ys.length n * f.sz)).all D.one = true := qT (f.one ys) _
  generalize hv : a.eval x = v at h1
  cases h1 with
  | nosl =>
    have hx0 : xs = [] := List.length_eq_zero_iff.1 hl
    subst hx0
    have e0 : cpy ([] : List α) ys = [] := by simp [cpy]
    rw [e0] at hn
    have hsame : Rel O N (S.setE id (.blk e' (D.flat (([] : List α).map f.d)))) E β a := hr.same (fun _ => rfl) (fun j => by
      by_cases hj : j = id
      · subst hj; rw [sH, he]
      · rw [pS hj])
    have hrun0 : ∀ r, (Builtin.copy_ #[T, T2] o.type #[a.eval x, a.eval y]).run P E.w = r → (execOp a.eval o).run P E.w = r.andThen fun v w' => .ok (.value v) w' := fun r hr' => by
      simp [execOp, ho, resolve, invoke, builtin, hr']
    have hra : (Builtin.copy_ #[T, T2] o.type #[a.eval x, a.eval y]).run P E.w = .ok (goInt 0) E.w := by
      have hl0 : ∀ q : Addr, (loadCells q 0).run P E.w = .ok #[] E.w := fun q => by simpa using run_loadCells_list (P := P) E.w q [] (by simp)
      have hmn : ∀ k, Nat.min k 0 = 0 := fun k => Nat.min_zero k
      rcases hy E β a hr with ⟨hyv | ⟨ad, sc, hyv⟩, _, _⟩ | ⟨yb, yoff, ycap, us, hyv, _, _⟩ <;>
      · rw [hv, hyv]
        simp [Builtin.copy_, run_underlying hu, Builtin.lenOf, Builtin.firstCells, hi.run_size, hmn, storeCells, hl0]
    unfold Oper.wp
    rw [hrun0 _ hra]
    simp only [Result.andThen_ok, Oper.upon, hd]
    exact hn E β _ (hsame.set ht (by rw [Nat.min_zero]; unfold goInt; exact .int _ _ _))
  | osl _ _ b _ cap _ hb hc hsz c e2 f2 hcap hcs hcm =>
    subst hl
    exact wX ho hd ht hu hi he hy (f.flat_len ys) hone (by rw [f.flat_len]; omega) rfl (aBe f xs ys) E β a hr (by
      rw [hv]; exact .rsl _ _ _ 0 _ cap b 0 hb hc hsz ⟨fun _ => rfl, Nat.le_refl _⟩ c e2 f2 hcap (by omega) hcm) next Q hn
/-- What reads as a list that is full. -/
theorem aAL {E : Env} {β : bZ} {v : Value} {l : List D} (h : Rd E β v (.slice true l)) :
    (v = .slice none 0 0 ∧ l = []) ∨ (∃ b off sz vs, v = .slice (some ⟨b, off, none⟩) l.length l.length ∧ (∀ d ∈ l, d.cells.length = sz) ∧ 0 < sz ∧ E.row b off vs ∧ RdL E β0 vs (D.flat l)) ∨ ∃ ad, v = .slice (some ad) 0 0 ∧ l = [] := by
  cases h with
  | slice _ b off len cap sz _ vs _ hl hc hf hz hsz hr hv => subst hl; rw [hf rfl]; exact .inr (.inl ⟨b, off, sz, vs, rfl, hz, hsz, hr, hv⟩)
  | nslice => exact .inl ⟨rfl, rfl⟩
  | eslice _ ad cap _ hf => rw [hf rfl]; exact .inr (.inr ⟨ad, rfl, rfl⟩)
theorem pJ {E : Env} {β : bZ} {a : Act} (hr : Rel O N S E β a) {len cap : Nat} {y m : Operand} {k1 k2 : IntKind} {h : Int} (hy : SV S y (.int k1 h)) (hm : SV S m (.int k2 h)) (h0 : 0 ≤ h) (h1 : h ≤ cap) :
    (Instr.sliceBounds true len cap none (some (a.eval y)) (some (a.eval m))).run P E.w = .ok (0, h.toNat, h.toNat) E.w := by
  have e1 : (h.toNat : Int) = h := by omega
  simp [Instr.sliceBounds, Instr.sliceBound, fF (hy.rd hr), fF (hm.rd hr), asIntOf, h0, h1, e1]
/-- 's[:n:n]' of any list. -/
theorem zQ {T e : TypeId} {x y m : Operand} {s r : List D} {f : Bool} {h : Int} {k1 k2 : IntKind} {z : Option Value} {size bytes : Nat} (ho : o.op = .slice T x none (some y) (some m)) (hd : o.dst = some t) (ht : t < N) (hu : P.underlying T = some (.slice e)) (hi' : TI P e z size bytes)
    (hx : SV S x (.slice f s)) (hz : ∀ d ∈ s, d.cells.length = size) (hy : SV S y (.int k1 h)) (hm : SV S m (.int k2 h)) (h0 : 0 ≤ h) (h2 : h ≤ s.length) (hr' : s.take h.toNat = r) : IOp P O N o S (S.set t (.slice true r)) :=
  eR hd ht fun E β a hr => by
    subst hr'
    rcases mA (hx.rd hr) with ⟨hev, rfl⟩ | ⟨b, off, cap, sz, vs, hev, hc, _, hzz, hsp, hrow, hvs⟩ | ⟨ad, cap, hev, rfl⟩
    · have e1 : h = 0 := by simp at h2; omega
      subst e1
      have hb := pJ (P := P) hr (len := 0) (cap := 0) hy hm (Int.le_refl 0) (Int.le_refl 0)
      refine ⟨.slice none 0 0, ?_, by simpa using Rd.nslice β true⟩
      simp [execOp, ho, hev, Instr.sliceAt, Instr.slice, run_underlying hu, hb, hi'.run_size]
    · have hb := pJ (P := P) hr (len := s.length) (cap := cap) hy hm h0 (by omega)
      have hlen : (s.take h.toNat).length = h.toNat := by rw [List.length_take]; omega
      by_cases hs0 : h.toNat = 0
      · have hs : s.take h.toNat = [] := by rw [hs0]; rfl
        refine ⟨.slice (some ⟨b, off, none⟩) 0 0, ?_, by rw [hs]; exact .eslice _ _ 0 true (fun _ => rfl)⟩
        rw [hs0] at hb
        simp [execOp, ho, hev, Instr.sliceAt, Instr.slice, run_underlying hu, hb, hi'.run_size, fJ]
      · have hflat := hvs.take (h.toNat * size)
        have hsplit : D.flat s = D.flat (s.take h.toNat) ++ D.flat (s.drop h.toNat) := by
          have : D.flat (s.take h.toNat) ++ D.flat (s.drop h.toNat) = D.flat (s.take h.toNat ++ s.drop h.toNat) := by simp only [D.flat]; rw [← List.flatMap_append]
          rw [this, List.take_append_drop]
        have hfl : (D.flat (s.take h.toNat)).length = h.toNat * size := by
          have : ∀ l : List D, (∀ d ∈ l, d.cells.length = size) → (D.flat l).length = l.length * size := by
            intro l
            induction l with
            | nil => intro _; simp [D.flat]
            | cons d l ih => intro hh; have h1 := ih (fun d' hd' => hh d' (by simp [hd'])); have h2 := hh d (by simp); simp only [D.flat, List.flatMap_cons, List.length_append, List.length_cons] at *; rw [h1, h2, Nat.add_mul]; omega
          rw [this _ (fun d hd => hz d (List.mem_of_mem_take hd)), hlen]
        rw [hsplit, ← hfl, List.take_append_of_le_length (Nat.le_refl _), List.take_length] at hflat
        refine ⟨.slice (some ⟨b, off, none⟩) h.toNat h.toNat, ?_, .slice _ b off _ _ size true (vs.take (D.flat (s.take h.toNat)).length) _ hlen (Nat.le_refl _) (fun _ => rfl) (fun d hd => hz d (List.mem_of_mem_take hd)) ?_ (fun k v hk => ?_) hflat⟩
        · simp [execOp, ho, hev, Instr.sliceAt, Instr.slice, run_underlying hu, hb, hi'.run_size, fJ]
        · have : s ≠ [] := by rintro rfl; simp at h2; omega
          obtain ⟨d, hd⟩ := List.exists_mem_of_ne_nil s this
          have h1 := hz d hd
          have h3 := hzz d hd
          omega
        · rw [List.getElem?_take] at hk
          split at hk
          · exact hrow k v hk
          · cases hk
    · have e1 : h = 0 := by simp at h2; omega
      subst e1
      have hb := pJ (P := P) hr (len := 0) (cap := cap) hy hm (Int.le_refl 0) (by omega)
      refine ⟨.slice (some ad) 0 0, ?_, by simpa using Rd.eslice β ad 0 true (fun _ => rfl)⟩
      simp [execOp, ho, hev, Instr.sliceAt, Instr.slice, run_underlying hu, hb, hi'.run_size, Addr.add]
/-- 'append' to a list that is full, of at least one. -/
theorem wQ {T e : TypeId} {x y : Operand} {z : Value} {size bytes m : Nat} {l es : List D} (id' : Nat)
    (ho : o.op = .call { callee := .builtin .append, args := #[x, y], argTypes := #[T, T] }) (hd : o.dst = some t) (ht : t < N)
    (hu : P.underlying T = some (.slice e)) (hi : TI P e (some z) size bytes) (hz : z.cells.size = size) (hsp : 0 < size) (hfr : S.ent id' = .fresh)
    (hx : SV S x (.slice true l)) (hl : (D.flat l).length = l.length * size) (hy : ∀ E β a, Rel O N S E β a → Src E β (a.eval y) m es) (hes : es.length = m * size) (hne : 0 < m)
    (hm : l.length + m ≤ maxLen) (hb : (l.length + m) * bytes ≤ 140737488355328) :
    IOp P O N o S ((S.setE id' (.blk e (D.flat l ++ es))).set t (.osl id' size (l.length + m))) := by
  have hs1 : S.sl = S.sl := rfl
  have hs2 : ∀ j, S.ent j = S.ent j ∨ S.ent j = .none := fun _ => .inl rfl
  intro E β a hr next Q hn
  obtain ⟨i, hi1, hi2, hi3, hi4⟩ := hi.at
  have hfre : β id' = none := by have := hr.h.ent id'; rw [hfr] at this; exact this
  have hrun : ∀ v, (Builtin.append_ #[T, T] o.type #[a.eval x, a.eval y]).run P E.w = v → (execOp a.eval o).run P E.w = v.andThen fun v w' => .ok (.value v) w' := fun v hv => by
    simp [execOp, ho, resolve, invoke, builtin, hv]
  have hts : t < a.tmps.size := hr.n ▸ ht
  let S2 : St := (S.setE id' (.blk e (D.flat l ++ es))).set t (.osl id' size (l.length + m))
  have slots : ∀ (E' : Env) (β' : bZ) (v : Value), E.le E' → β.le β' → Rd E' β' v (.osl id' size (l.length + m)) → ∀ s, Rd E' β' ((a.put (some t) v).tmps.getD s undef) (S2.get s) := by
    intro E' β' v hle hβ hv s
    by_cases hst : t = s
    · subst hst
      simpa [S2, Act.put, St.get, St.set, bB, hts] using hv
    · have := Rd.mono hle hβ (hr.sl s)
      simpa [S2, Act.put, St.get, St.set, St.setE, bB, hst, Array.getElem?_setIfInBounds_ne, hs1] using this
  let β' : Nat → bZ := fun b j => if j = id' then some b else β j
  have hβ : ∀ b, β.le (β' b) := fun b j k hj => by
    by_cases hji : j = id'
    · subst hji; rw [hfre] at hj; cases hj
    · simp [β', hji, hj]
  have hsame : ∀ j, j ≠ id' → S2.ent j = S.ent j := fun j hj => by simp [S2, St.ent, entL, St.setE, St.set, bB, Ne.symm hj]
  have hother : ∀ b j, j ≠ id' → (S2.ent j = S.ent j ∧ β' b j = β j) ∨ S2.ent j = .none := by
    intro b j hj
    rw [hsame j hj]
    rcases hs2 j with h | h
    · exact .inl ⟨h, by simp [β', hj]⟩
    · exact .inr h
  have hheld : ∀ j, j ≠ id' → (S2.ent j).held = true → (S.ent j).held = true := fun j hj h => by rw [← hsame j hj]; exact h
  have hheld0 : ∀ j, (S.ent j).held = true → (S.ent j).held = true := fun j h => by
    rcases hs2 j with h1 | h1
    · rw [← h1]; exact h
    · rw [h1] at h; cases h
  have hentid : S2.ent id' = .blk e (D.flat l ++ es) := by simp [S2, St.ent, entL, St.setE, St.set, bB]
  have fresh : ∀ (vs us : List Value) (cap : Nat), RdL E β vs (D.flat l) → RdL E β us es → l.length + m ≤ cap → cap ≤ maxLen →
      (Builtin.append_ #[T, T] o.type #[a.eval x, a.eval y]).run P E.w = .ok (.slice (some ⟨E.w.heap.size, 0, none⟩) (l.length + m) cap) (E.w.drew.alloc (.cells (vs.toArray ++ us.toArray ++ Builtin.zeroCells z.cells (cap - (l.length + m))) e)) →
      o.wp P a E.w next Q := by
    intro vs us cap hvs hus hcap hcm hra
    unfold Oper.wp
    rw [hrun _ hra]
    simp only [Result.andThen_ok, Oper.upon, hd]
    let E' : Env := ⟨E.w.drew.alloc (.cells (vs.toArray ++ us.toArray ++ Builtin.zeroCells z.cells (cap - (l.length + m))) e), fun b o => b = E.w.heap.size ∨ E.X b o⟩
    have hs : Step O E E' E.w.heap.size :=
      ⟨rfl, rfl, rfl, by simp [E'], by simp [E'], .inl hr.h.size, fun k hk _ => heap_alloc_old E.w.drew _ hk, fun k o hk => by simp [E', hk], fun _ h => Nat.lt_irrefl _ (dI h)⟩
    have hle : E.le E' := hs.le (fun o v h1 _ => by have := World.block_lt_of_cell? _ _ h1; simp at this) (fun c e f h1 => by have := dI h1; simp at this)
    have hnew : E'.w.heap[E.w.heap.size]? = some (.cells (vs.toArray ++ us.toArray ++ Builtin.zeroCells z.cells (cap - (l.length + m))) e (0, 0)) := heap_alloc_new E.w.drew _
    have hvl := hvs.length
    have hul := hus.length
    have hvs' := (RdL.mono hle (hβ E.w.heap.size) hvs).append (RdL.mono hle (hβ E.w.heap.size) hus)
    refine hn E' (β' E.w.heap.size) _ ⟨by simp [Act.put, hr.n], hr.nd.step hs, ?_, slots E' _ _ hle (hβ _) ?_⟩
    · refine HOk.put hr.h hs hle (hβ _) (fun j hj => hother _ j hj) ?_ (id := id') (by simp [β']) ?_ (fun _ _ => trivial)
      · intro j hj hh hbj
        have := hr.h.held_lt (hheld0 j (hheld j hj hh)) hbj
        omega
      · rw [hentid]
        exact ⟨vs ++ us, (Builtin.zeroCells z.cells (cap - (l.length + m))).toList, by rw [hnew]; simp, fun o => .inl rfl, hvs'⟩
    · exact .osl _ _ E.w.heap.size _ cap size (by simp [β']) hcap hsp _ _ _ hnew
        (by simp only [Array.size_append, List.size_toArray, size_zeroCells, hz, hvl, hul, hl, hes]; rw [← Nat.add_mul, ← Nat.add_mul]; exact Nat.mul_le_mul_right _ (by omega)) hcm
  rcases hy E β a hr with ⟨_, hm0, _⟩ | ⟨yb, yoff, ycap, us, hyv, hyr, hus⟩
  · omega
  · have hul : us.length = m * i.size := by rw [hus.length, hes, hi3]
    have up : ∀ {vs ds}, RdL E β0 vs ds → RdL E β vs ds := fun h => RdL.mono (Env.le.refl _) (fun _ _ h => by cases h) h
    rcases aAL (hx.rd hr) with ⟨hxv, rfl⟩ | ⟨b, off, sz, vs, hxv, _, _, hrow, hvs⟩ | ⟨ad, hxv, rfl⟩
    · simp only [List.length_nil, Nat.zero_add] at hm hb fresh ⊢
      have hra := run_append_nil (P := P) E.w T o.type e i z hu hi1 hi2 ⟨yb, yoff, none⟩ m ycap us hul hyr hne (by simp [maxLen] at hm; omega) (by rw [hi4]; omega)
      refine fresh [] us (grownCap E.w m 0 e) (.nil _) hus (by simpa using grownCap_ge _ _ _ _) (grownCap_le_maxLen _ _ _ _ (by simpa using hm)) ?_
      rw [hxv, hyv]
      simpa using hra
    · have hvl : vs.length = l.length * i.size := by rw [hvs.length, hl, hi3]
      have hra := run_append_grow (P := P) E.w T o.type e i z hu hi1 hi2 ⟨b, off, none⟩ l.length l.length vs hvl (fun j u hj => by rw [fJ]; exact (hrow j u hj).1) ⟨yb, yoff, none⟩ m ycap us hul hyr (by omega) (by simp [maxLen] at hm; omega) (growslice_fits (by omega) (by rw [hi4]; exact hb))
      refine fresh vs us (grownCap E.w (l.length + m) l.length e) (up hvs) hus (grownCap_ge _ _ _ _) (grownCap_le_maxLen _ _ _ _ hm) ?_
      rw [hxv, hyv]
      exact hra
    · have hra := run_append_grow (P := P) E.w T o.type e i z hu hi1 hi2 ad 0 0 [] (by simp) (fun j u hj => by simp at hj) ⟨yb, yoff, none⟩ m ycap us hul hyr (by omega) (by simp [maxLen] at hm; omega) (growslice_fits (by omega) (by rw [hi4]; simpa using hb))
      refine fresh [] us (grownCap E.w (0 + m) 0 e) (.nil _) hus (by simpa using grownCap_ge _ _ _ _) (grownCap_le_maxLen _ _ _ _ (by simpa using hm)) ?_
      rw [hxv, hyv]
      simpa using hra
theorem aAi {α : Type} (f : Enc α) {T e : TypeId} {x y m : Operand} {b : Bool} {k1 k2 : IntKind} {xs r : List α} {h : Int} {z : Option Value} {bytes : Nat} (ho : o.op = .slice T x none (some y) (some m)) (hd : o.dst = some t) (ht : t < N) (hu : P.underlying T = some (.slice e)) (hi' : TI P e z f.sz bytes)
    (hx : SV S x (.slice b (xs.map f.d))) (hy : SV S y (.int k1 h)) (hm : SV S m (.int k2 h)) (hc : cut xs 0 h = some r) : IOp P O N o S (S.set t (.slice true (r.map f.d))) := by
  obtain ⟨⟨_, h0, h1⟩, hr⟩ := zY hc
  exact zQ ho hd ht hu hi' hx (f.len xs) hy hm h0 (by simpa using h1) (by rw [← hr, ← List.map_take]; simp)
theorem aBZ {α : Type} (f : Enc0 α) {T e : TypeId} {x y : Operand} {z : Value} {bytes : Nat} {xs ys zs : List α} (id' : Nat)
    (ho : o.op = .call { callee := .builtin .append, args := #[x, y], argTypes := #[T, T] }) (hd : o.dst = some t) (ht : t < N)
    (hu : P.underlying T = some (.slice e)) (hi : TI P e (some z) f.sz bytes) (hz : z.cells.size = f.sz)
    (hx : SV S x (.slice true (xs.map f.d))) (hfr : S.ent id' = .fresh)
    (hy : ∀ E β a, Rel O N S E β a → Src E β (a.eval y) ys.length (D.flat (ys.map f.d))) (hne : 0 < ys.length) (ha : app bytes xs ys = some zs) :
    IOp P O N o S ((S.setE id' (.blk e (D.flat (zs.map f.d)))).set t (.osl id' f.sz zs.length)) := by
  obtain ⟨⟨h1, h2⟩, rfl⟩ := aBp ha
  have := wQ id' ho hd ht hu hi hz f.pos hfr hx (by rw [f.flat_len, List.length_map]) hy (f.flat_len ys) hne (by rw [List.length_map]; exact h1) (by rw [List.length_map]; exact h2)
  rwa [List.length_map, f.flat_append, ← List.length_append] at this
/-- An operation under a guard: where it is wanted, as if there were none. -/
theorem zW {ops : Array Oper} {o : Oper} {l : List Oper} {j tj t : Nat} {want g : Bool} (hg : o.guard = some (j, want)) (hj : (ops[j]?).bind (·.dst) = some tj)
    (hb : Grd S tj want g) (hd : (o.dst, oM o.op) = (some t, true)) (ht : t < N) (h1 : g = true → ILS P O N ops ({ o with guard := none } :: l) S Q) (h2 : g = false → ILS P O N ops l (S.set t (.cnd g (.bool false))) Q) : ILS P O N ops (o :: l) S Q := by
  obtain ⟨hd, hnd⟩ := Prod.mk.inj hd
  intro E β a hr
  have hwant := hb.yields hr hj hg
  unfold wpListIn
  rw [hwant]
  cases g with
  | true =>
    simp only [if_true]
    have h3 := h1 rfl E β a hr
    have h4 : Oper.wpIn (fen O.round) 0 P { o with guard := none } a E.w (wpListIn (fen O.round) 0 P ops (fun e a' w' => ∃ S' E' β', E'.w = w' ∧ Rel O N S' E' β' a' ∧ Q e S') l) (fun e a' w' => ∃ S' E' β', E'.w = w' ∧ Rel O N S' E' β' a' ∧ Q e S') := by
      unfold wpListIn at h3
      simp only [Region.wanted, if_true] at h3
      exact h3
    have h5 : Oper.wpIn (fen O.round) 0 P o a E.w (wpListIn (fen O.round) 0 P ops (fun e a' w' => ∃ S' E' β', E'.w = w' ∧ Rel O N S' E' β' a' ∧ Q e S') l) (fun e a' w' => ∃ S' E' β', E'.w = w' ∧ Rel O N S' E' β' a' ∧ Q e S') := h4
    exact h5
  | false =>
    simp only [Bool.false_eq_true, if_false, hd]
    exact ⟨fun _ _ => trivial, (h2 rfl E β _ (hr.set ht (.cnd _ _ _ _ (fun h => by cases h) fun _ => rfl)))⟩
theorem Rel.uncnd {E : Env} {β : bZ} {a : Act} (h : Rel O N S E β a) {t : Nat} {g : Bool} {d : D} (hS : S.get t = .cnd g d) (hg : g = true) : Rel O N (S.set t d) E β a := by
  refine ⟨h.n, h.nd, h.h, fun s => ?_⟩
  by_cases hs : t = s
  · subst hs
    have := h.sl t
    rw [hS] at this
    have e : (S.set t d).get t = d := by simp [St.get, St.set, bB]
    rw [e]
    generalize a.tmps.getD t undef = v at this ⊢
    cases this with
    | cnd _ _ _ _ k _ => exact k hg
  · have e : (S.set t d).get s = S.get s := by simp [St.get, St.set, bB, hs]
    rw [e]; exact h.sl s
/-- What is known to be there is taken as such. -/
theorem wR {ops : Array Oper} {l : List Oper} (t : Nat) {g : Bool} {d : D} (hS : S.get t = .cnd g d) (hg : g = true) (k : ILS P O N ops l (S.set t d) Q) : ILS P O N ops l S Q :=
  fun E β a hr => k E β a (hr.uncnd hS hg)
end
end Go.IL
namespace Go.IL
section
variable {P : Program} {O : cM} {N : Nat} {S S' : St} {o : Oper} {t : Nat} {Q : Exit → St → Prop}
/-! Short names. -/
theorem lb {a b : Nat} (h : Nat.ble (a + 1) b = true) : a < b := Nat.le_of_ble_eq_true h
theorem svI {x : Operand} {k : IntKind} {n : Int} (h : S.op x = .int k n) : SV S x (.int k n) := sv h
theorem svB {x : Operand} {n : Bool} (h : S.op x = .bool n) : SV S x (.bool n) := sv h
theorem svR {x : Operand} {i j : Nat} (h : S.op x = .ref i j) : SV S x (.ref i j) := sv h
theorem svL {x : Operand} {f : Bool} {l : List D} (h : S.op x = .slice f l) : SV S x (.slice f l) := sv h
theorem svA {x : Operand} (l : List D) (h : S.op x = .agg l) : SV S x (.agg l) := sv h
theorem svcI {x : Operand} {b : Bool} {k : IntKind} {n : Int} (h : S.op x = .cnd b (.int k n)) (hb : b = true) : SV S x (.int k n) := svc h hb
theorem svcB {x : Operand} {b n : Bool} (h : S.op x = .cnd b (.bool n)) (hb : b = true) : SV S x (.bool n) := svc h hb
theorem svcR {x : Operand} {b : Bool} {i j : Nat} (h : S.op x = .cnd b (.ref i j)) (hb : b = true) : SV S x (.ref i j) := svc h hb
theorem svcL {x : Operand} {b : Bool} {f : Bool} {l : List D} (h : S.op x = .cnd b (.slice f l)) (hb : b = true) : SV S x (.slice f l) := svc h hb
theorem svcA {x : Operand} {b : Bool} (l : List D) (h : S.op x = .cnd b (.agg l)) (hb : b = true) : SV S x (.agg l) := svc h hb
theorem mvI {x : Operand} {k : IntKind} {n : Int} (ho : o.op = .move x) (hd : o.dst = some t) (ht : Nat.ble (t + 1) N = true) (hx : S.op x = .int k n) : IOp P O N o S (S.set t (.int k n)) := aM ho hd (lb ht) (sv hx)
theorem mvB {x : Operand} {n : Bool} (ho : o.op = .move x) (hd : o.dst = some t) (ht : Nat.ble (t + 1) N = true) (hx : S.op x = .bool n) : IOp P O N o S (S.set t (.bool n)) := aM ho hd (lb ht) (sv hx)
theorem mvR {x : Operand} {i j : Nat} (ho : o.op = .move x) (hd : o.dst = some t) (ht : Nat.ble (t + 1) N = true) (hx : S.op x = .ref i j) : IOp P O N o S (S.set t (.ref i j)) := aM ho hd (lb ht) (sv hx)
theorem mvL {x : Operand} {f : Bool} {l : List D} (ho : o.op = .move x) (hd : o.dst = some t) (ht : Nat.ble (t + 1) N = true) (hx : S.op x = .slice f l) : IOp P O N o S (S.set t (.slice f l)) := aM ho hd (lb ht) (sv hx)
theorem asI {x : Operand} {k : IntKind} {n : Int} (ho : o.op = .assign x) (hd : o.dst = some t) (ht : Nat.ble (t + 1) N = true) (hx : S.op x = .int k n) : IOp P O N o S (S.set t (.int k n)) := aH ho hd (lb ht) (sv hx)
theorem asB {x : Operand} {n : Bool} (ho : o.op = .assign x) (hd : o.dst = some t) (ht : Nat.ble (t + 1) N = true) (hx : S.op x = .bool n) : IOp P O N o S (S.set t (.bool n)) := aH ho hd (lb ht) (sv hx)
def LA (P : Program) (T : TypeId) (u : TypeDesc) (z : Option Value) (size bytes : Nat) (g : Bool) : Prop := P.underlying T = some u ∧ fY P T = g ∧ TI P T z size bytes ∧ 0 < size
theorem LA.mk {T : TypeId} {u : TypeDesc} {z : Option Value} {size bytes : Nat} {g : Bool} (h1 : P.underlying T = some u) (h2 : fY P T = g) (h3 : TI P T z size bytes) (h4 : 0 < size) : LA P T u z size bytes g := ⟨h1, h2, h3, h4⟩
theorem lra {T : TypeId} {x : Operand} {u : TypeDesc} {z : Option Value} {size bytes : Nat} {id off : Nat} {e : TypeId} {ds : List D} (cs : List D) (l : LA P T u z size bytes true) (ho : o.op = .load T x) (hd : o.dst = some t) (ht : Nat.ble (t + 1) N = true)
    (hx : S.op x = .ref id off) (he : S.ent id = .blk e ds) (hn : off + size ≤ ds.length) (hdd : (ds.drop off).take size = cs) : IOp P O N o S (S.set t (.agg cs)) := bJ ho hd (lb ht) l.1 l.2.1 l.2.2.1 l.2.2.2 (sv hx) he hn hdd
theorem lrL {T : TypeId} {x : Operand} {u : TypeDesc} {z : Option Value} {size bytes : Nat} {id off : Nat} {e : TypeId} {ds r : List D} {f : Bool} {m : List D} (l : LA P T u z size bytes false) (ho : o.op = .load T x) (hd : o.dst = some t) (ht : Nat.ble (t + 1) N = true)
    (hx : S.op x = .ref id off) (he : S.ent id = .blk e ds) (hn : off + size ≤ ds.length) (hdd : ds.drop off = .slice f m :: r) : IOp P O N o S (S.set t (.slice f m)) := aG ho hd (lb ht) l.1 l.2.1 l.2.2.1 l.2.2.2 (sv hx) he hn hdd
theorem rva {x : Nat} {T : TypeId} {id off : Nat} {e : TypeId} {ds cs : List D} {u : TypeDesc} {z : Option Value} {size bytes : Nat} (l : LA P T u z size bytes true) (hx : S.get x = .ref id off) (he : S.ent id = .blk e ds)
    (hn : off + size ≤ ds.length) (hd : (ds.drop off).take size = cs) : ResV P S (.cell x T) (.agg cs) := resv_a hx he l.1 l.2.1 l.2.2.1 l.2.2.2 hn hd
theorem stA {T : TypeId} {x y : Operand} {z : Option Value} {size bytes : Nat} {id off : Nat} {e : TypeId} {ds : List D} (c ds' : List D) (hi : TI P T z size bytes) (ho : o.op = .store T x y) (hd : o.dst = none)
    (hx : S.op x = .ref id off) (he : S.ent id = .blk e ds) (hy : S.op y = .agg c) (hb : (D.agg c).boxable = true) (hsz : (D.agg c).cells.length = size) (h1 : (D.agg c).cells.all D.one = true)
    (hn : off + size ≤ ds.length) (hds : eQ ds off (D.agg c).cells = ds') : IOp P O N o S (S.setE id (.blk e ds')) := bK ho hd hi (sv hx) he (sv hy) hb hsz h1 hn hds
theorem faR {T : TypeId} {x : Operand} {i : Nat} {fs : Array Field} {F : Field} {z : Option Value} {size bytes : Nat} {id off : Nat} (off' : Nat) (ho : o.op = .fieldAddr T x i) (hd : o.dst = some t) (ht : Nat.ble (t + 1) N = true)
    (hu : P.underlying T = some (.struct fs)) (hf : fs[i]? = some F) (hi : TI P F.type z size bytes) (hs : 0 < size) (hx : S.op x = .ref id off) (ho' : off + F.offset = off') : IOp P O N o S (S.set t (.ref id off')) :=
  aK ho hd (lb ht) hu hf hi hs (sv hx) ho'
theorem svaI {n : Node} {S0 : St} {s : Nat} {k : IntKind} {m : Int} (hA : oQ n S S0) (hm : n.rs.elem s = true) (h : S0.get s = .int k m) : SV S (.tmp s) (.int k m) := sv (agr hA hm h)
theorem svaB {n : Node} {S0 : St} {s : Nat} {m : Bool} (hA : oQ n S S0) (hm : n.rs.elem s = true) (h : S0.get s = .bool m) : SV S (.tmp s) (.bool m) := sv (agr hA hm h)
theorem svaR {n : Node} {S0 : St} {s i j : Nat} (hA : oQ n S S0) (hm : n.rs.elem s = true) (h : S0.get s = .ref i j) : SV S (.tmp s) (.ref i j) := sv (agr hA hm h)
theorem svaL {n : Node} {S0 : St} {s : Nat} {f : Bool} {l : List D} (hA : oQ n S S0) (hm : n.rs.elem s = true) (h : S0.get s = .slice f l) : SV S (.tmp s) (.slice f l) := sv (agr hA hm h)
theorem svaA {n : Node} {S0 : St} {s : Nat} (l : List D) (hA : oQ n S S0) (hm : n.rs.elem s = true) (h : S0.get s = .agg l) : SV S (.tmp s) (.agg l) := sv (agr hA hm h)
theorem AllW.s {ρ : Nat → Nat} {t : Nat} {d : D} {l : List (Nat × D)} (h : S.get t = d.ren ρ) (hr : d.refsIn S'.okn = true) (k : AllW (SlW S S' ρ) l) : AllW (SlW S S' ρ) ((t, d) :: l) := .cons (.same h hr) k
theorem AllW.sames {ρ : Nat → Nat} : ∀ {l : List (Nat × D)}, l.map (fun p => S.get p.1) = l.map (fun p => p.2.ren ρ) → (l.all fun p => p.2.refsIn S'.okn) = true → AllW (SlW S S' ρ) l
  | [], _, _ => .nil
  | (t, d) :: l, h, hr => by
    simp only [List.map_cons, List.cons.injEq] at h
    simp only [List.all_cons, Bool.and_eq_true] at hr
    exact .cons (.same h.1 hr.1) (AllW.sames h.2 hr.2)
end
theorem SubL.k {d : D} {ds ds' : List D} (t : SubL ds ds') : SubL (d :: ds) (d :: ds') := .cons (.refl d) t
theorem SubL.k4 {a b c d : D} {ds ds' : List D} (t : SubL ds ds') : SubL (a :: b :: c :: d :: ds) (a :: b :: c :: d :: ds') := .k (.k (.k (.k t)))
theorem FDL.k {S : St} {d : D} {ds ds' : List D} (t : FDL S ds ds') : FDL S (d :: ds) (d :: ds') := .cons (.refl d) t
theorem FDL.k4 {S : St} {a b c d : D} {ds ds' : List D} (t : FDL S ds ds') : FDL S (a :: b :: c :: d :: ds) (a :: b :: c :: d :: ds') := .k (.k (.k (.k t)))
theorem SubL.all : ∀ (l : List D), SubL l l
  | [] => .nil
  | d :: l => .cons (.refl d) (SubL.all l)
theorem FDL.all {S : St} (l : List D) : FDL S l l := oZ l
end Go.IL
set_option linter.unusedSimpArgs false
set_option linter.unusedVariables false
open Go Go.IL
namespace Go.Fn
structure aAB where
  Kind : Int
  N : Int
  Path : Int
  Fin : Bool
  deriving DecidableEq, Inhabited
structure aJ where
  From : Int
  To : Int
  Path : Int
  Fin : Bool
  deriving DecidableEq, Inhabited
def aB : Enc aJ := ⟨⟨fun x => .agg [.int .i64 x.From, .int .i64 x.To, .int .i64 x.Path, .bool x.Fin], 4, by decide, fun _ => ⟨rfl, rfl⟩⟩, fun _ => rfl⟩

structure aF where
  From : Int
  To : Int
  deriving DecidableEq, Inhabited
def aI : Enc aF := ⟨⟨fun x => .agg [.int .i64 x.From, .int .i64 x.To], 2, by decide, fun _ => ⟨rfl, rfl⟩⟩, fun _ => rfl⟩

structure aU where
  Base : Int
  Data : (List UInt8)
  Next : Int
  Pieces : (List aJ)
  Lost : (List aF)
  Closed : Bool
  Sent : Bool
  Again : Bool
  Done : Bool
  deriving DecidableEq, Inhabited
def uS  : Option aU :=
  some (⟨0, [], 0, [], [], false, false, false, false⟩ : aU)

def dJ (a0 : (List aF)) : Option (List aF) :=
  vM a0 (
    some []
  ) (
    bno (app 16 ([] : (List aF)) a0) fun x3 =>
    some x3
  )

def eM (a0 : aU) : Option (Int × (List UInt8) × Int × (List aJ) × (List aF) × Bool × Bool × Bool × Bool) :=
  bno (made 32 (a0.Pieces.length : Int) ((⟨0, 0, 0, false⟩ : aJ) : aJ)) fun x1 =>
  bnd (cpy x1 a0.Pieces) fun x2 =>
  bno (dJ a0.Lost) fun x3 =>
  some (a0.Base, a0.Data, a0.Next, x2, x3, a0.Closed, a0.Sent, a0.Again, a0.Done)

def oO (a0 : Int) : Option Bool :=
  bnd (decide (0 ≤ a0)) fun x1 =>
  bnd (decide (a0 ≤ 4611686018427387903)) fun x2 =>
  bnd (x1 && x2) fun x3 =>
  some x3

def fO (a0 : aF) : Option Bool :=
  bno (oO a0.From) fun x1 =>
  bno (gd (x1 == true) (oO a0.To) default) fun x2 =>
  bnd (x1 && x2) fun x3 =>
  some x3

def jZ (a0 : aF) : Option Bool :=
  bno (fO (⟨a0.From, a0.To⟩ : aF)) fun x1 =>
  some (!x1)

def bQ (a0 : (List aF)) : Nat → Int → Option Int
  | 0, _ => none
  | n0 + 1, v7 =>
    bnd (decide (v7 < (a0.length : Int))) fun x14 =>
    bif x14 then (
      bno (gix a0 v7) fun x16 =>
      bno (jZ (⟨x16.From, x16.To⟩ : aF)) fun x17 =>
      bif x17 then (
        some v7
      ) else (
        bnd (IntKind.wrap .i64 (v7 + 1)) fun x19 =>
        (bQ a0 n0) x19
      )
    ) else (
      some (-1)
    )
def dP (a0 : (List aF)) : Option Int :=
  bQ a0 fuel 0

def cW (a0 : (List aF)) : Option Bool :=
  bno (dP a0) fun x1 =>
  bnd (decide (0 ≤ x1)) fun x2 =>
  some x2

def eT (a0 : aF) : Option Bool :=
  bnd (decide (a0.To ≤ a0.From)) fun x1 =>
  some x1

def bT (a0 : (List aF)) : Nat → Int → Option Int
  | 0, _ => none
  | n0 + 1, v7 =>
    bnd (decide (v7 < (a0.length : Int))) fun x14 =>
    bif x14 then (
      bno (gix a0 v7) fun x16 =>
      bno (eT (⟨x16.From, x16.To⟩ : aF)) fun x17 =>
      bif x17 then (
        some v7
      ) else (
        bnd (IntKind.wrap .i64 (v7 + 1)) fun x19 =>
        (bT a0 n0) x19
      )
    ) else (
      some (-1)
    )
def dU (a0 : (List aF)) : Option Int :=
  bT a0 fuel 0

def dC (a0 : (List aF)) : Option Bool :=
  bno (dU a0) fun x1 =>
  bnd (decide (0 ≤ x1)) fun x2 =>
  some x2

def eZ (a0 : (List aF)) : Nat → Int → Option Int
  | 0, _ => none
  | n0 + 1, v13 =>
    bnd (decide (v13 < (a0.length : Int))) fun x22 =>
    bif x22 then (
      bno (gix a0 v13) fun x24 =>
      bnd (IntKind.wrap .i64 (v13 - 1)) fun x25 =>
      bno (gix a0 x25) fun x26 =>
      bnd (decide (x24.From ≤ x26.To)) fun x27 =>
      bif x27 then (
        some 10
      ) else (
        bnd (IntKind.wrap .i64 (v13 + 1)) fun x29 =>
        (eZ a0 n0) x29
      )
    ) else (
      some 0
    )
def iV (a0 : (List aF)) : Option Int :=
  bno (cW a0) fun x1 =>
  bif x1 then (
    some 8
  ) else (
    bno (dC a0) fun x3 =>
    bif x3 then (
      some 4
    ) else (
      eZ a0 fuel 1
    )
  )

def iQ (a0 : aU) : Option Bool :=
  bno (iV a0.Lost) fun x1 =>
  bnd (!decide (x1 = 0)) fun x2 =>
  bif x2 then (
    some false
  ) else (
    bnd (decide ((a0.Lost.length : Int) = 0)) fun x4 =>
    bno (gd (x4 == false) (gix a0.Lost 0) default) fun x5 =>
    bnd (decide (a0.Base ≤ x5.From)) fun x6 =>
    bnd (IntKind.wrap .i64 ((a0.Lost.length : Int) - 1)) fun x7 =>
    bno (gd ((x4 == false) && (x6 == true)) (gix a0.Lost x7) default) fun x8 =>
    bnd (decide (x8.To ≤ a0.Next)) fun x9 =>
    bnd (x6 && x9) fun x10 =>
    bnd (x4 || x10) fun x11 =>
    some x11
  )

def lP (a0 : Int) : Option Bool :=
  bnd (decide (0 ≤ a0)) fun x1 =>
  bnd (decide (a0 < 4)) fun x2 =>
  bnd (x1 && x2) fun x3 =>
  some x3

def eS (a0 : aJ) : Option aF :=
  some (⟨a0.From, a0.To⟩ : aF)

def cY (a0 : (List aF)) : Option (List aF) :=
  vM a0 (
    some ([] : (List aF))
  ) (
    bno (app 16 ([] : (List aF)) a0) fun x3 =>
    some x3
  )

def eV (v52 : Int) (kk0 : Int → (List aF) → Option (List aF)) (x99 : aF) (x100 : Int) (x101 : Int) : Nat → Int → (List aF) → Option (List aF)
  | 0, _, _ => none
  | n1 + 1, v113, v114 =>
    bnd (decide (v113 < 2)) fun x127 =>
    bif x127 then (
      bno (gix ([(⟨x99.From, x100⟩ : aF), (⟨x101, x99.To⟩ : aF)] : List aF) v113) fun x129 =>
      bno (eT (⟨x129.From, x129.To⟩ : aF)) fun x130 =>
      bif ((!x130) == true) then (
        bno (app 16 v114 (([(⟨x129.From, x129.To⟩ : aF)] : (List aF)))) fun x132 =>
        bnd ((!x130) && (!true)) fun x133 =>
        bif x133 then (
          some x132
        ) else (
          bnd (IntKind.wrap .i64 (v113 + 1)) fun x135 =>
          (eV v52 kk0 x99 x100 x101 n1) x135 x132
        )
      ) else (
        bnd ((!x130) && (!false)) fun x136 =>
        bif x136 then (
          some v114
        ) else (
          bnd (IntKind.wrap .i64 (v113 + 1)) fun x138 =>
          (eV v52 kk0 x99 x100 x101 n1) x138 v114
        )
      )
    ) else (
      bnd (IntKind.wrap .i64 (v52 + 1)) fun x139 =>
      kk0 x139 v114
    )
def gL (a0 : (List aF)) (a1 : aF) : Nat → Int → (List aF) → Option (List aF)
  | 0, _, _ => none
  | n0 + 1, v52, v53 =>
    bnd (decide (v52 < (a0.length : Int))) fun x97 =>
    bif x97 then (
      bno (gix a0 v52) fun x99 =>
      bnd (min x99.To a1.From) fun x100 =>
      bnd (max x99.From a1.To) fun x101 =>
      eV v52 (gL a0 a1 n0) x99 x100 x101 fuel 0 v53
    ) else (
      some v53
    )
def lX (a0 : (List aF)) (a1 : aF) : Option (List aF) :=
  bno (fO (⟨a1.From, a1.To⟩ : aF)) fun x1 =>
  bno (gd ((!x1) == false) (eT (⟨a1.From, a1.To⟩ : aF)) default) fun x2 =>
  bnd ((!x1) || x2) fun x3 =>
  bno (gd (x3 == false) (iV a0) default) fun x4 =>
  bnd (!decide (x4 = 0)) fun x5 =>
  bnd (x3 || x5) fun x6 =>
  bif x6 then (
    bno (cY a0) fun x8 =>
    some x8
  ) else (
    gL a0 a1 fuel 0 ([] : (List aF))
  )

def gK (a0 : (List aF)) : Nat → (List aF) → Int → Option (List aF)
  | 0, _, _ => none
  | n0 + 1, v13, v14 =>
    bnd (decide (v14 < (a0.length : Int))) fun x20 =>
    bif x20 then (
      bno (gix a0 v14) fun x22 =>
      bno (lX v13 (⟨x22.From, x22.To⟩ : aF)) fun x23 =>
      bnd (IntKind.wrap .i64 (v14 + 1)) fun x24 =>
      (gK a0 n0) x23 x24
    ) else (
      some v13
    )
def nB (a0 : (List aF)) (a1 : aF) : Option (List aF) :=
  bno (fO (⟨a1.From, a1.To⟩ : aF)) fun x1 =>
  bno (gd ((!x1) == false) (iV a0) default) fun x2 =>
  bnd (!decide (x2 = 0)) fun x3 =>
  bnd ((!x1) || x3) fun x4 =>
  bno (gd (x4 == false) (eT (⟨a1.From, a1.To⟩ : aF)) default) fun x5 =>
  bnd (x4 || x5) fun x6 =>
  bif x6 then (
    some []
  ) else (
    gK a0 fuel (([(⟨a1.From, a1.To⟩ : aF)] : (List aF))) 0
  )

def cJ (a0 : (List aF)) (a1 : (List aF)) : Nat → Int → Option Bool
  | 0, _ => none
  | n0 + 1, v10 =>
    bnd (decide (v10 < (a0.length : Int))) fun x18 =>
    bif x18 then (
      bno (gix a0 v10) fun x20 =>
      bno (gix a1 v10) fun x21 =>
      bnd ((decide (x20.From = x21.From) && (decide (x20.To = x21.To) && true))) fun x22 =>
      bif (!x22) then (
        some false
      ) else (
        bnd (IntKind.wrap .i64 (v10 + 1)) fun x24 =>
        (cJ a0 a1 n0) x24
      )
    ) else (
      some true
    )
def dX (a0 : (List aF)) (a1 : (List aF)) : Option Bool :=
  bnd (!decide ((a0.length : Int) = (a1.length : Int))) fun x1 =>
  bif x1 then (
    some false
  ) else (
    cJ a0 a1 fuel 0
  )

def lH (a0 : (List aF)) (a1 : (List aF)) : Option Bool :=
  bno (dX a0 a1) fun x1 =>
  some x1

def iR (a0 : aU) (a1 : aJ) (a2 : Int) : Option Bool :=
  bnd (decide (a1.From < a2)) fun x1 =>
  bnd (decide (a1.To < a1.From)) fun x2 =>
  bnd (x1 || x2) fun x3 =>
  bnd (decide (a0.Next < a1.To)) fun x4 =>
  bnd (x3 || x4) fun x5 =>
  bno (gd (x5 == false) (lP a1.Path) default) fun x6 =>
  bnd (x5 || (!x6)) fun x7 =>
  bif x7 then (
    some false
  ) else (
    bnd (decide (a1.From = a1.To)) fun x9 =>
    bif x9 then (
      some a1.Fin
    ) else (
      bno (eS a1) fun x11 =>
      bno (nB a0.Lost (⟨x11.From, x11.To⟩ : aF)) fun x12 =>
      bno (eS a1) fun x13 =>
      bno (lH x12 ([(⟨x13.From, x13.To⟩ : aF)] : (List aF))) fun x14 =>
      some x14
    )
  )

def eC (a0 : aU) : Option Int :=
  bnd (IntKind.wrap .i64 (a0.Base + (a0.Data.length : Int))) fun x1 =>
  some x1

def dY (a0 : aU) : Nat → Int → Int → Option Bool
  | 0, _, _ => none
  | n0 + 1, v11, v12 =>
    bnd (decide (v12 < (a0.Pieces.length : Int))) fun x23 =>
    bif x23 then (
      bno (gix a0.Pieces v12) fun x25 =>
      bif x25.Fin then (
        bnd (IntKind.wrap .i64 (v11 + 1)) fun x27 =>
        bno (eC a0) fun x28 =>
        bnd (!decide (x25.To = x28)) fun x29 =>
        bif x29 then (
          some false
        ) else (
          bnd (IntKind.wrap .i64 (v12 + 1)) fun x31 =>
          (dY a0 n0) x27 x31
        )
      ) else (
        bnd (IntKind.wrap .i64 (v12 + 1)) fun x32 =>
        (dY a0 n0) v11 x32
      )
    ) else (
      bif (!a0.Sent) then (
        bnd (decide (v11 = 0)) fun x34 =>
        bnd (x34 && (!a0.Again)) fun x35 =>
        bnd (x35 && (!a0.Done)) fun x36 =>
        some x36
      ) else (
        bno (gd ((!a0.Closed) == false) (eC a0) default) fun x37 =>
        bnd (!decide (a0.Next = x37)) fun x38 =>
        bnd ((!a0.Closed) || x38) fun x39 =>
        bnd (a0.Again && a0.Done) fun x40 =>
        bnd (x39 || x40) fun x41 =>
        bif x41 then (
          some false
        ) else (
          bnd ((!a0.Again) && (!a0.Done)) fun x43 =>
          bnd (decide (v11 = 1)) fun x44 =>
          bnd (x43 && x44) fun x45 =>
          bnd (decide (v11 = 0)) fun x46 =>
          bnd ((!x43) && x46) fun x47 =>
          bnd (x45 || x47) fun x48 =>
          some x48
        )
      )
    )
def jX (a0 : aU) : Option Bool :=
  dY a0 fuel 0 0

def gC (a0 : aU) : Nat → Int → Int → Option Int
  | 0, _, _ => none
  | n1 + 1, v21, v22 =>
    bnd (decide (v22 < (a0.Pieces.length : Int))) fun x29 =>
    bif x29 then (
      bno (gix a0.Pieces v22) fun x31 =>
      bno (iR a0 x31 v21) fun x32 =>
      bif (!x32) then (
        some 10
      ) else (
        bnd (IntKind.wrap .i64 (v22 + 1)) fun x34 =>
        (gC a0 n1) x31.To x34
      )
    ) else (
      bno (jX a0) fun x35 =>
      bif (!x35) then (
        some 9
      ) else (
        some 0
      )
    )
def iE (a0 : aU) (v9 : Bool) : Option Int :=
  bif v9 then (
    some 8
  ) else (
    bnd (decide (4096 < (a0.Data.length : Int))) fun x11 =>
    bif x11 then (
      some 5
    ) else (
      bno (iQ a0) fun x13 =>
      bif (!x13) then (
        some 4
      ) else (
        gC a0 fuel a0.Base 0
      )
    )
  )
def gX (a0 : aU) : Option Int :=
  bnd (decide (a0.Base < 0)) fun x37 =>
  bif x37 then (
    iE a0 x37
  ) else (
    bnd (decide (1099511623680 < a0.Base)) fun x39 =>
    bif x39 then (
      iE a0 x39
    ) else (
      bnd (decide (a0.Next < a0.Base)) fun x41 =>
      bif x41 then (
        iE a0 x41
      ) else (
        bnd (IntKind.wrap .i64 (a0.Next - a0.Base)) fun x43 =>
        bnd (decide ((a0.Data.length : Int) < x43)) fun x44 =>
        iE a0 x44
      )
    )
  )

def oB (a0 : aU) : Option Int :=
  bif a0.Closed then (
    some 0
  ) else (
    bnd (IntKind.wrap .i64 (4096 - (a0.Data.length : Int))) fun x2 =>
    some x2
  )

def mR (a0 : aU) (a1 : (List UInt8)) : Option (aU × Int) :=
  bno (eM a0) fun x1 =>
  bno (gX a0) fun x2 =>
  bnd (!decide (x2 = 0)) fun x3 =>
  bif x3 then (
    some ((⟨x1.1, x1.2.1, x1.2.2.1, x1.2.2.2.1, x1.2.2.2.2.1, x1.2.2.2.2.2.1, x1.2.2.2.2.2.2.1, x1.2.2.2.2.2.2.2.1, x1.2.2.2.2.2.2.2.2⟩ : aU), 0)
  ) else (
    bno (oB a0) fun x5 =>
    bnd (min x5 (a1.length : Int)) fun x6 =>
    bno (eC a0) fun x7 =>
    bnd (IntKind.wrap .i64 (1099511623680 - x6)) fun x8 =>
    bnd (decide (x8 < x7)) fun x9 =>
    bif x9 then (
      some ((⟨x1.1, x1.2.1, x1.2.2.1, x1.2.2.2.1, x1.2.2.2.2.1, x1.2.2.2.2.2.1, x1.2.2.2.2.2.2.1, x1.2.2.2.2.2.2.2.1, x1.2.2.2.2.2.2.2.2⟩ : aU), 0)
    ) else (
      bno (cut a1 0 x6) fun x11 =>
      bno (cat x1.2.1 x11) fun x12 =>
      some ((⟨x1.1, x12, x1.2.2.1, x1.2.2.2.1, x1.2.2.2.2.1, x1.2.2.2.2.2.1, x1.2.2.2.2.2.2.1, x1.2.2.2.2.2.2.2.1, x1.2.2.2.2.2.2.2.2⟩ : aU), x6)
    )
  )

def mS (a0 : aU) : Option aU :=
  bno (eM a0) fun x1 =>
  bno (gd (x1.2.2.2.2.2.1 == false) (gX a0) default) fun x2 =>
  bnd (decide (x2 = 0)) fun x3 =>
  bnd (x1.2.2.2.2.2.1 || x3) fun x4 =>
  some (⟨x1.1, x1.2.1, x1.2.2.1, x1.2.2.2.1, x1.2.2.2.2.1, x4, x1.2.2.2.2.2.2.1, x1.2.2.2.2.2.2.2.1, x1.2.2.2.2.2.2.2.2⟩ : aU)

def iJ (a0 : aU) : Option Bool :=
  bnd ((!a0.Closed) || a0.Done) fun x1 =>
  bif x1 then (
    some false
  ) else (
    bnd (a0.Again || (!a0.Sent)) fun x3 =>
    some x3
  )

def gW (a0 : aU) (a1 : Int) (a2 : Int) : Option (aJ × Bool) :=
  bnd (decide (0 < (a0.Lost.length : Int))) fun x1 =>
  bif x1 then (
    bno (gix a0.Lost 0) fun x3 =>
    bnd (IntKind.wrap .i64 (x3.To - x3.From)) fun x4 =>
    bnd (min a1 x4) fun x5 =>
    bnd (IntKind.wrap .i64 (x3.From + x5)) fun x6 =>
    some ((⟨x3.From, x6, 0, false⟩ : aJ), true)
  ) else (
    bno (eC a0) fun x7 =>
    bnd (IntKind.wrap .i64 (x7 - a0.Next)) fun x8 =>
    bnd (decide (0 < x8)) fun x9 =>
    bif x9 then (
      bnd (max a2 a0.Next) fun x11 =>
      bnd (IntKind.wrap .i64 (x11 - a0.Next)) fun x12 =>
      bnd (min (min x8 a1) x12) fun x13 =>
      bnd (IntKind.wrap .i64 (a0.Next + x13)) fun x14 =>
      bnd (decide (0 < x13)) fun x15 =>
      some ((⟨a0.Next, x14, 0, false⟩ : aJ), x15)
    ) else (
      bno (iJ a0) fun x16 =>
      some ((⟨a0.Next, a0.Next, 0, false⟩ : aJ), x16)
    )
  )

def iN (a0 : aJ) (a1 : aJ) : Option Bool :=
  bnd (decide (a1.From < a0.From)) fun x1 =>
  bnd (decide (a0.From = a1.From)) fun x2 =>
  bnd (decide (a1.To ≤ a0.To)) fun x3 =>
  bnd (x2 && x3) fun x4 =>
  bnd (x1 || x4) fun x5 =>
  some x5

def bP (a0 : (List aJ)) (a1 : aJ) : Nat → Int → Option Int
  | 0, _ => none
  | n0 + 1, v7 =>
    bnd (decide (v7 < (a0.length : Int))) fun x14 =>
    bif x14 then (
      bno (gix a0 v7) fun x16 =>
      bno (iN x16 a1) fun x17 =>
      bif x17 then (
        some v7
      ) else (
        bnd (IntKind.wrap .i64 (v7 + 1)) fun x19 =>
        (bP a0 a1 n0) x19
      )
    ) else (
      some (-1)
    )
def dB (a0 : (List aJ)) (a1 : aJ) : Option Int :=
  bP a0 a1 fuel 0

def iH (a0 : aU) (a1 : aJ) : Option Int :=
  bno (cut a0.Pieces 0 (a0.Pieces.length : Int)) fun x1 =>
  bno (eC a0) fun x2 =>
  bno (eC a0) fun x3 =>
  bnd (IntKind.wrap .i64 (x3 + 1)) fun x4 =>
  bno (app 32 x1 (([(⟨x2, x4, 0, false⟩ : aJ)] : (List aJ)))) fun x5 =>
  bno (dB x5 a1) fun x6 =>
  some x6

def eE (a0 : Int) (a1 : (List aJ)) (a2 : (List aJ)) : Option (List aJ) := insS 32 a2 a0 a1

def hT (a0 : aU) (a1 : Int) (x1 : (Int × (List UInt8) × Int × (List aJ) × (List aF) × Bool × Bool × Bool × Bool)) (x9 : (aJ × Bool)) (x11 : Int) (v16 : (List aF)) (v22 : Bool) (v23 : Bool) (v24 : Bool) : Option (aU × aJ × (List UInt8) × Bool) :=
  bno (iH a0 (⟨x9.1.From, x9.1.To, a1, v24⟩ : aJ)) fun x25 =>
  bno (eE x25 ([(⟨x9.1.From, x9.1.To, a1, v24⟩ : aJ)] : (List aJ)) x1.2.2.2.1) fun x26 =>
  bnd (IntKind.wrap .i64 (x9.1.From - a0.Base)) fun x27 =>
  bnd (IntKind.wrap .i64 (x9.1.To - a0.Base)) fun x28 =>
  bno (cut a0.Data x27 x28) fun x29 =>
  some (((⟨x1.1, x1.2.1, x11, x26, v16, x1.2.2.2.2.2.1, v22, v23, x1.2.2.2.2.2.2.2.2⟩ : aU), (⟨x9.1.From, x9.1.To, a1, v24⟩ : aJ), x29, true))
def jS (a0 : aU) (a1 : Int) (x1 : (Int × (List UInt8) × Int × (List aJ) × (List aF) × Bool × Bool × Bool × Bool)) (x9 : (aJ × Bool)) (x11 : Int) (v16 : (List aF)) : Option (aU × aJ × (List UInt8) × Bool) :=
  bno (eC a0) fun x30 =>
  bnd (decide (x9.1.To = x30)) fun x31 =>
  bno (gd (x31 == true) (iJ a0) default) fun x32 =>
  bnd (x31 && x32) fun x33 =>
  bif x33 then (
    hT a0 a1 x1 x9 x11 v16 true false x33
  ) else (
    hT a0 a1 x1 x9 x11 v16 x1.2.2.2.2.2.2.1 x1.2.2.2.2.2.2.2.1 x33
  )
def jY (a0 : aU) (a1 : Int) (a2 : Int) (a3 : Int) : Option (aU × aJ × (List UInt8) × Bool) :=
  bno (eM a0) fun x1 =>
  bno (lP a1) fun x2 =>
  bnd (decide (a2 < 1)) fun x3 =>
  bnd ((!x2) || x3) fun x4 =>
  bno (gd (x4 == false) (gX a0) default) fun x5 =>
  bnd (!decide (x5 = 0)) fun x6 =>
  bnd (x4 || x6) fun x7 =>
  bif x7 then (
    some (((⟨x1.1, x1.2.1, x1.2.2.1, x1.2.2.2.1, x1.2.2.2.2.1, x1.2.2.2.2.2.1, x1.2.2.2.2.2.2.1, x1.2.2.2.2.2.2.2.1, x1.2.2.2.2.2.2.2.2⟩ : aU), (⟨0, 0, 0, false⟩ : aJ), [], false))
  ) else (
    bno (gW a0 a2 a3) fun x9 =>
    bif (!x9.2) then (
      some (((⟨x1.1, x1.2.1, x1.2.2.1, x1.2.2.2.1, x1.2.2.2.2.1, x1.2.2.2.2.2.1, x1.2.2.2.2.2.2.1, x1.2.2.2.2.2.2.2.1, x1.2.2.2.2.2.2.2.2⟩ : aU), (⟨0, 0, 0, false⟩ : aJ), [], false))
    ) else (
      bnd (max x1.2.2.1 x9.1.To) fun x11 =>
      bnd (decide (x9.1.From < x9.1.To)) fun x35 =>
      bif x35 then (
        bno (eS (⟨x9.1.From, x9.1.To, a1, x9.1.Fin⟩ : aJ)) fun x37 =>
        bno (lX x1.2.2.2.2.1 (⟨x37.From, x37.To⟩ : aF)) fun x38 =>
        jS a0 a1 x1 x9 x11 x38
      ) else (
        jS a0 a1 x1 x9 x11 x1.2.2.2.2.1
      )
    )
  )

def jM (a0 : aJ) (a1 : Int) : Option Bool :=
  bnd (decide (a0.Path = a1)) fun x1 =>
  some x1

def fT (a0 : aF) (a1 : (List aF)) : Option (List aF) :=
  bno (eT (⟨a0.From, a0.To⟩ : aF)) fun x1 =>
  bif x1 then (
    some a1
  ) else (
    bnd (decide (0 < (a1.length : Int))) fun x3 =>
    bnd (IntKind.wrap .i64 ((a1.length : Int) - 1)) fun x4 =>
    bno (gd (x3 == true) (gix a1 x4) default) fun x5 =>
    bno (gd (x3 == true) (a1[(x4 : Int).toNat]?) default) fun x6 =>
    bnd (decide (a0.From ≤ x6.To)) fun x7 =>
    bnd (x3 && x7) fun x8 =>
    bif x8 then (
      bnd (IntKind.wrap .i64 ((a1.length : Int) - 1)) fun x10 =>
      bnd (IntKind.wrap .i64 ((a1.length : Int) - 1)) fun x11 =>
      bno (gix a1 x11) fun x12 =>
      bno (a1[(x11 : Int).toNat]?) fun x13 =>
      bnd (max x13.To a0.To) fun x14 =>
      bno (gix a1 x10) fun x15 =>
      bno (a1[(x10 : Int).toNat]?) fun x16 =>
      bnd (a1.set ((x10 : Int).toNat) (⟨x16.From, x14⟩ : aF)) fun x17 =>
      some x17
    ) else (
      bno (app 16 a1 (([(⟨a0.From, a0.To⟩ : aF)] : (List aF)))) fun x18 =>
      some x18
    )
  )

def jV (v26 : Int) (kk0 : (List aF) → Bool → Int → Option (List aF)) (x44 : aF) (v49 : (List aF)) (v50 : Bool) : Option (List aF) :=
  bno (fT (⟨x44.From, x44.To⟩ : aF) v49) fun x51 =>
  bnd (IntKind.wrap .i64 (v26 + 1)) fun x52 =>
  kk0 x51 v50 x52
def fD (a0 : (List aF)) (a1 : aF) : Nat → (List aF) → Bool → Int → Option (List aF)
  | 0, _, _, _ => none
  | n0 + 1, v24, v25, v26 =>
    bnd (decide (v26 < (a0.length : Int))) fun x42 =>
    bif x42 then (
      bno (gix a0 v26) fun x44 =>
      bnd (decide (a1.From ≤ x44.From)) fun x53 =>
      bnd ((!v25) && x53) fun x54 =>
      bif x54 then (
        bno (fT (⟨a1.From, a1.To⟩ : aF) v24) fun x56 =>
        jV v26 (fD a0 a1 n0) x44 x56 true
      ) else (
        jV v26 (fD a0 a1 n0) x44 v24 v25
      )
    ) else (
      bif (!v25) then (
        bno (fT (⟨a1.From, a1.To⟩ : aF) v24) fun x58 =>
        some x58
      ) else (
        some v24
      )
    )
def oP (a0 : (List aF)) (a1 : aF) : Option (List aF) :=
  bno (fO (⟨a1.From, a1.To⟩ : aF)) fun x1 =>
  bno (gd ((!x1) == false) (eT (⟨a1.From, a1.To⟩ : aF)) default) fun x2 =>
  bnd ((!x1) || x2) fun x3 =>
  bno (gd (x3 == false) (iV a0) default) fun x4 =>
  bnd (!decide (x4 = 0)) fun x5 =>
  bnd (x3 || x5) fun x6 =>
  bif x6 then (
    bno (cY a0) fun x8 =>
    some x8
  ) else (
    fD a0 a1 fuel ([] : (List aF)) false 0
  )

def cD (a0 : (List aJ)) (a1 : Int) : Nat → Int → Option Int
  | 0, _ => none
  | n0 + 1, v7 =>
    bnd (decide (v7 < (a0.length : Int))) fun x14 =>
    bif x14 then (
      bno (gix a0 v7) fun x16 =>
      bno (jM x16 a1) fun x17 =>
      bif x17 then (
        some v7
      ) else (
        bnd (IntKind.wrap .i64 (v7 + 1)) fun x19 =>
        (cD a0 a1 n0) x19
      )
    ) else (
      some (-1)
    )
def dN (a0 : (List aJ)) (a1 : Int) : Option Int :=
  cD a0 a1 fuel 0

def bR (a1 : Int) : Nat → (List aJ) → Int → Int → Option (List aJ)
  | 0, _, _, _ => none
  | n0 + 1, v17, v18, v19 =>
    bnd (decide (v19 < (v17.length : Int))) fun x32 =>
    bif x32 then (
      bno (gix v17 v19) fun x34 =>
      bno (v17[(v19 : Int).toNat]?) fun x35 =>
      bno (jM x35 a1) fun x36 =>
      bif (!x36) then (
        bno (gix v17 v18) fun x38 =>
        bno (v17[(v18 : Int).toNat]?) fun x39 =>
        bnd (v17.set ((v18 : Int).toNat) x35) fun x40 =>
        bnd (IntKind.wrap .i64 (v18 + 1)) fun x41 =>
        bnd (IntKind.wrap .i64 (v19 + 1)) fun x42 =>
        (bR a1 n0) x40 x41 x42
      ) else (
        bnd (IntKind.wrap .i64 (v19 + 1)) fun x43 =>
        (bR a1 n0) v17 v18 x43
      )
    ) else (
      bno (cut v17 0 v18) fun x44 =>
      bno (cut x44 0 v18) fun x45 =>
      some x45
    )
def cU (a0 : (List aJ)) (a1 : Int) : Option (List aJ) :=
  bno (dN a0 a1) fun x1 =>
  bnd (decide (x1 = (-1))) fun x2 =>
  bif x2 then (
    some a0
  ) else (
    bnd (IntKind.wrap .i64 (x1 + 1)) fun x4 =>
    bR a1 fuel a0 x1 x4
  )

def gB (a0 : aU) (a1 : Int) (x1 : (Int × (List UInt8) × Int × (List aJ) × (List aF) × Bool × Bool × Bool × Bool)) : Nat → Int → (List aF) → Bool → Option aU
  | 0, _, _, _ => none
  | n0 + 1, v15, v16, v17 =>
    bnd (decide (v15 < (a0.Pieces.length : Int))) fun x28 =>
    bif x28 then (
      bno (gix a0.Pieces v15) fun x30 =>
      bno (jM x30 a1) fun x31 =>
      bif x31 then (
        bno (eS x30) fun x33 =>
        bno (oP v16 (⟨x33.From, x33.To⟩ : aF)) fun x34 =>
        bnd (v17 || x30.Fin) fun x35 =>
        bnd (IntKind.wrap .i64 (v15 + 1)) fun x36 =>
        (gB a0 a1 x1 n0) x36 x34 x35
      ) else (
        bnd (IntKind.wrap .i64 (v15 + 1)) fun x37 =>
        (gB a0 a1 x1 n0) x37 v16 v17
      )
    ) else (
      bno (cU x1.2.2.2.1 a1) fun x38 =>
      some (⟨x1.1, x1.2.1, x1.2.2.1, x38, v16, x1.2.2.2.2.2.1, x1.2.2.2.2.2.2.1, v17, x1.2.2.2.2.2.2.2.2⟩ : aU)
    )
def oC (a0 : aU) (a1 : Int) : Option aU :=
  bno (eM a0) fun x1 =>
  bno (gX a0) fun x2 =>
  bnd (!decide (x2 = 0)) fun x3 =>
  bif x3 then (
    some (⟨x1.1, x1.2.1, x1.2.2.1, x1.2.2.2.1, x1.2.2.2.2.1, x1.2.2.2.2.2.1, x1.2.2.2.2.2.2.1, x1.2.2.2.2.2.2.2.1, x1.2.2.2.2.2.2.2.2⟩ : aU)
  ) else (
    gB a0 a1 x1 fuel 0 x1.2.2.2.2.1 x1.2.2.2.2.2.2.2.1
  )

def lQ (a0 : aJ) : Option Bool :=
  bnd (decide (a0.From = a0.To)) fun x1 =>
  bnd (x1 && (!a0.Fin)) fun x2 =>
  some x2

def cE (a0 : (List aJ)) : Nat → Int → Option Int
  | 0, _ => none
  | n0 + 1, v7 =>
    bnd (decide (v7 < (a0.length : Int))) fun x14 =>
    bif x14 then (
      bno (gix a0 v7) fun x16 =>
      bno (lQ x16) fun x17 =>
      bif x17 then (
        some v7
      ) else (
        bnd (IntKind.wrap .i64 (v7 + 1)) fun x19 =>
        (cE a0 n0) x19
      )
    ) else (
      some (-1)
    )
def dO (a0 : (List aJ)) : Option Int :=
  cE a0 fuel 0

def bS  : Nat → (List aJ) → Int → Int → Option (List aJ)
  | 0, _, _, _ => none
  | n0 + 1, v17, v18, v19 =>
    bnd (decide (v19 < (v17.length : Int))) fun x32 =>
    bif x32 then (
      bno (gix v17 v19) fun x34 =>
      bno (v17[(v19 : Int).toNat]?) fun x35 =>
      bno (lQ x35) fun x36 =>
      bif (!x36) then (
        bno (gix v17 v18) fun x38 =>
        bno (v17[(v18 : Int).toNat]?) fun x39 =>
        bnd (v17.set ((v18 : Int).toNat) x35) fun x40 =>
        bnd (IntKind.wrap .i64 (v18 + 1)) fun x41 =>
        bnd (IntKind.wrap .i64 (v19 + 1)) fun x42 =>
        (bS n0) x40 x41 x42
      ) else (
        bnd (IntKind.wrap .i64 (v19 + 1)) fun x43 =>
        (bS n0) v17 v18 x43
      )
    ) else (
      bno (cut v17 0 v18) fun x44 =>
      bno (cut x44 0 v18) fun x45 =>
      some x45
    )
def cV (a0 : (List aJ)) : Option (List aJ) :=
  bno (dO a0) fun x1 =>
  bnd (decide (x1 = (-1))) fun x2 =>
  bif x2 then (
    some a0
  ) else (
    bnd (IntKind.wrap .i64 (x1 + 1)) fun x4 =>
    bS fuel a0 x1 x4
  )

def hY (a0 : aU) (a2 : Bool) (x1 : (Int × (List UInt8) × Int × (List aJ) × (List aF) × Bool × Bool × Bool × Bool)) (x14 : Int) : Nat → Int → (List aJ) → Option aU
  | 0, _, _ => none
  | n0 + 1, v31, v32 =>
    bnd (decide (v31 < (x1.2.2.2.1.length : Int))) fun x49 =>
    bif x49 then (
      bno (gix v32 v31) fun x51 =>
      bno (v32[(v31 : Int).toNat]?) fun x52 =>
      bnd (max x52.From x14) fun x53 =>
      bno (v32[(v31 : Int).toNat]?) fun x54 =>
      bnd (max x54.To x14) fun x55 =>
      bno (v32[(v31 : Int).toNat]?) fun x56 =>
      bnd (v32.set ((v31 : Int).toNat) (⟨x53, x56.To, x56.Path, x56.Fin⟩ : aJ)) fun x57 =>
      bno (x57[(v31 : Int).toNat]?) fun x58 =>
      bnd (x57.set ((v31 : Int).toNat) (⟨x58.From, x55, x58.Path, x58.Fin⟩ : aJ)) fun x59 =>
      bno (x59[(v31 : Int).toNat]?) fun x60 =>
      bnd (x60.Fin && (!a2)) fun x61 =>
      bno (x59[(v31 : Int).toNat]?) fun x62 =>
      bnd (x59.set ((v31 : Int).toNat) (⟨x62.From, x62.To, x62.Path, x61⟩ : aJ)) fun x63 =>
      bnd (IntKind.wrap .i64 (v31 + 1)) fun x64 =>
      (hY a0 a2 x1 x14 n0) x64 x63
    ) else (
      bno (cV v32) fun x65 =>
      bnd (IntKind.wrap .i64 (x14 - a0.Base)) fun x66 =>
      bno (cut a0.Data x66 (a0.Data.length : Int)) fun x67 =>
      bno (lX x1.2.2.2.2.1 (⟨0, x14⟩ : aF)) fun x68 =>
      bif a2 then (
        some (⟨x14, x67, x1.2.2.1, x65, x68, x1.2.2.2.2.2.1, x1.2.2.2.2.2.2.1, false, true⟩ : aU)
      ) else (
        some (⟨x14, x67, x1.2.2.1, x65, x68, x1.2.2.2.2.2.1, x1.2.2.2.2.2.2.1, x1.2.2.2.2.2.2.2.1, x1.2.2.2.2.2.2.2.2⟩ : aU)
      )
    )
def mT (a0 : aU) (a1 : Int) (a2 : Bool) : Option aU :=
  bno (eM a0) fun x1 =>
  bno (gX a0) fun x2 =>
  bnd (!decide (x2 = 0)) fun x3 =>
  bnd (decide (a1 < 0)) fun x4 =>
  bnd (x3 || x4) fun x5 =>
  bnd (decide (a0.Next < a1)) fun x6 =>
  bnd (x5 || x6) fun x7 =>
  bno (gd ((x7 == false) && (a2 == true)) (eC a0) default) fun x8 =>
  bnd (!decide (a1 = x8)) fun x9 =>
  bnd (x9 || (!a0.Sent)) fun x10 =>
  bnd (a2 && x10) fun x11 =>
  bnd (x7 || x11) fun x12 =>
  bif x12 then (
    some (⟨x1.1, x1.2.1, x1.2.2.1, x1.2.2.2.1, x1.2.2.2.2.1, x1.2.2.2.2.2.1, x1.2.2.2.2.2.2.1, x1.2.2.2.2.2.2.2.1, x1.2.2.2.2.2.2.2.2⟩ : aU)
  ) else (
    bnd (max a1 a0.Base) fun x14 =>
    hY a0 a2 x1 x14 fuel 0 x1.2.2.2.1
  )

def sN (a0 : aU) : Option Bool :=
  bnd (decide (a0.Data = ([] : List UInt8))) fun x1 =>
  bnd (a0.Done && x1) fun x2 =>
  some x2

def sM (a0 : aU) (a1 : Int) : Option Bool :=
  bno (gX a0) fun x1 =>
  bnd (!decide (x1 = 0)) fun x2 =>
  bif x2 then (
    some false
  ) else (
    bno (gW a0 1 a1) fun x4 =>
    some x4.2
  )

def cG (a0 : (List aJ)) (a1 : (List aJ)) : Nat → Int → Option Bool
  | 0, _ => none
  | n0 + 1, v10 =>
    bnd (decide (v10 < (a0.length : Int))) fun x18 =>
    bif x18 then (
      bno (gix a0 v10) fun x20 =>
      bno (gix a1 v10) fun x21 =>
      bnd ((decide (x20.From = x21.From) && (decide (x20.To = x21.To) && (decide (x20.Path = x21.Path) && ((x20.Fin == x21.Fin) && true))))) fun x22 =>
      bif (!x22) then (
        some false
      ) else (
        bnd (IntKind.wrap .i64 (v10 + 1)) fun x24 =>
        (cG a0 a1 n0) x24
      )
    ) else (
      some true
    )
def dV (a0 : (List aJ)) (a1 : (List aJ)) : Option Bool :=
  bnd (!decide ((a0.length : Int) = (a1.length : Int))) fun x1 =>
  bif x1 then (
    some false
  ) else (
    cG a0 a1 fuel 0
  )

def oA (a0 : aU) (a1 : aU) : Option Bool :=
  bno (dV a0.Pieces a1.Pieces) fun x1 =>
  bno (gd ((!x1) == false) (lH a0.Lost a1.Lost) default) fun x2 =>
  bnd ((!x1) || (!x2)) fun x3 =>
  bif x3 then (
    some false
  ) else (
    bnd (a0.Closed == a1.Closed) fun x5 =>
    bnd (a0.Sent == a1.Sent) fun x6 =>
    bnd (x5 && x6) fun x7 =>
    bnd (a0.Again == a1.Again) fun x8 =>
    bnd (x7 && x8) fun x9 =>
    bnd (a0.Done == a1.Done) fun x10 =>
    bnd (x9 && x10) fun x11 =>
    bnd (decide (a0.Base = a1.Base)) fun x12 =>
    bnd (x11 && x12) fun x13 =>
    bnd (decide (a0.Data = a1.Data)) fun x14 =>
    bnd (x13 && x14) fun x15 =>
    bnd (decide (a0.Next = a1.Next)) fun x16 =>
    bnd (x15 && x16) fun x17 =>
    some x17
  )

end Go.Fn
set_option linter.unusedSimpArgs false
set_option linter.unusedVariables false
open Go Go.IL
namespace Go.Fn
structure cX where
  Kind : Int
  N : Int
  Path : Int
  Text : (List UInt8)
  deriving DecidableEq, Inhabited
def cR : Enc cX := ⟨⟨fun x => .agg [.int .u8 x.Kind, .int .u8 x.N, .int .u8 x.Path, .str x.Text], 4, by decide, fun _ => ⟨rfl, rfl⟩⟩, fun _ => rfl⟩

structure aN where
  At : Int
  Data : (List UInt8)
  deriving DecidableEq, Inhabited
def aL : Enc aN := ⟨⟨fun x => .agg [.int .i64 x.At, .str x.Data], 2, by decide, fun _ => ⟨rfl, rfl⟩⟩, fun _ => rfl⟩

structure bG where
  Base : Int
  Ready : (List UInt8)
  Parts : (List aN)
  deriving DecidableEq, Inhabited
structure bO where
  Recv : bG
  End : Int
  deriving DecidableEq, Inhabited
structure aV where
  Window : Int
  Limit : Int
  Used : Int
  Read : Int
  deriving DecidableEq, Inhabited
structure aO where
  ID : Int
  Send : aU
  Recv : bO
  Out : aV
  In : aV
  Mine : Int
  Hers : Int
  deriving DecidableEq, Inhabited
structure fA where
  State : bG
  end_ : Int
  deriving DecidableEq, Inhabited
structure bX where
  at_ : Int
  s : (List UInt8)
  fin : Bool
  deriving DecidableEq, Inhabited
def bF : Enc bX := ⟨⟨fun x => .agg [.int .i64 x.at_, .str x.s, .bool x.fin], 3, by decide, fun _ => ⟨rfl, rfl⟩⟩, fun _ => rfl⟩

structure mL where
  a : aO
  b : aO
  went : (List bX)
  wrote : (List UInt8)
  read : (List UInt8)
  given : Int
  end_ : Bool
  deriving DecidableEq, Inhabited
def eF (a0 : (List cX)) : Nat → Int → Option Bool
  | 0, _ => none
  | n0 + 1, v9 =>
    bnd (decide (v9 < (a0.length : Int))) fun x16 =>
    bif x16 then (
      bno (gix a0 v9) fun x18 =>
      bnd (decide (100 < (x18.Text.length : Int))) fun x19 =>
      bif x19 then (
        some false
      ) else (
        bnd (IntKind.wrap .i64 (v9 + 1)) fun x21 =>
        (eF a0 n0) x21
      )
    ) else (
      some true
    )
def gU (a0 : (List cX)) (a1 : Int) : Option Bool :=
  bnd (decide (a1 < (a0.length : Int))) fun x1 =>
  bif x1 then (
    some false
  ) else (
    eF a0 fuel 0
  )

def fE (a0 : aV) : Option Int :=
  bnd (decide (0 ≤ a0.Read)) fun x1 =>
  bnd (decide (a0.Read ≤ a0.Used)) fun x2 =>
  bnd (x1 && x2) fun x3 =>
  bnd (decide (a0.Used ≤ a0.Limit)) fun x4 =>
  bnd (x3 && x4) fun x5 =>
  bnd (decide (a0.Limit ≤ 1099511627776)) fun x6 =>
  bnd (x5 && x6) fun x7 =>
  bnd (decide (a0.Window < 1)) fun x8 =>
  bnd ((!x7) || x8) fun x9 =>
  bnd (decide (1048576 < a0.Window)) fun x10 =>
  bnd (x9 || x10) fun x11 =>
  bif x11 then (
    some 8
  ) else (
    some 0
  )

def lJ (a0 : Int) : Option (aV × Int) :=
  bno (fE (⟨a0, a0, 0, 0⟩ : aV)) fun x1 =>
  bnd (!decide (x1 = 0)) fun x2 =>
  bif x2 then (
    some ((⟨0, 0, 0, 0⟩ : aV), x1)
  ) else (
    some ((⟨a0, a0, 0, 0⟩ : aV), 0)
  )

def sO  : Option bG :=
  some (⟨0, [], []⟩ : bG)

def uU  : Option bO :=
  bno (sO) fun x1 =>
  some (⟨x1, (-1)⟩ : bO)

def kZ (a0 : Int) (a1 : Int) (a2 : Int) : Option (aO × Int) :=
  bno (lJ a1) fun x1 =>
  bno (lJ a2) fun x2 =>
  bnd (!decide (x1.2 = 0)) fun x3 =>
  bnd (!decide (x2.2 = 0)) fun x4 =>
  bnd (x3 || x4) fun x5 =>
  bnd (decide (4096 < a2)) fun x6 =>
  bnd (x5 || x6) fun x7 =>
  bnd (decide (a0 < 0)) fun x8 =>
  bnd (x7 || x8) fun x9 =>
  bnd (decide (1048576 < a0)) fun x10 =>
  bnd (x9 || x10) fun x11 =>
  bif x11 then (
    some (((⟨0, (⟨0, [], 0, [], [], false, false, false, false⟩ : aU), (⟨(⟨0, [], []⟩ : bG), 0⟩ : bO), (⟨0, 0, 0, 0⟩ : aV), (⟨0, 0, 0, 0⟩ : aV), 0, 0⟩ : aO), 8))
  ) else (
    bno (uS) fun x13 =>
    bno (uU) fun x14 =>
    some (((⟨a0, x13, x14, x1.1, x2.1, (-1), (-1)⟩ : aO), 0))
  )

def lK (a0 : Int) (a1 : Int) (a2 : Int) : Option Bool :=
  bnd (decide (a1 ≤ a0)) fun x1 =>
  bnd (decide (a0 ≤ a2)) fun x2 =>
  bnd (x1 && x2) fun x3 =>
  some x3

def kF (a0 : bG) : Option Int :=
  bnd (IntKind.wrap .i64 (a0.Base - (a0.Ready.length : Int))) fun x1 =>
  bnd (IntKind.wrap .i64 (x1 + 4096)) fun x2 =>
  bnd (min x2 1099511627776) fun x3 =>
  some x3

def eL (a0 : aN) : Option Int :=
  bnd (IntKind.wrap .i64 (a0.At + (a0.Data.length : Int))) fun x1 =>
  some x1

def fL (a0 : bG) (x8 : Int) : Nat → Int → Int → Option Int
  | 0, _, _ => none
  | n0 + 1, v23, v24 =>
    bnd (decide (v24 < (a0.Parts.length : Int))) fun x39 =>
    bif x39 then (
      bno (gix a0.Parts v24) fun x41 =>
      bnd (decide (x41.At ≤ v23)) fun x42 =>
      bnd (decide (x41.Data = ([] : List UInt8))) fun x43 =>
      bnd (x42 || x43) fun x44 =>
      bnd (decide (x8 < x41.At)) fun x45 =>
      bnd (x44 || x45) fun x46 =>
      bnd (IntKind.wrap .i64 (x8 - x41.At)) fun x47 =>
      bnd (decide (x47 < (x41.Data.length : Int))) fun x48 =>
      bnd (x46 || x48) fun x49 =>
      bif x49 then (
        some 10
      ) else (
        bno (eL x41) fun x51 =>
        bnd (IntKind.wrap .i64 (v24 + 1)) fun x52 =>
        (fL a0 x8 n0) x51 x52
      )
    ) else (
      some 0
    )
def jN (a0 : bG) : Option Int :=
  bnd (decide (a0.Base < 0)) fun x1 =>
  bnd (decide (1099511627776 < a0.Base)) fun x2 =>
  bnd (x1 || x2) fun x3 =>
  bnd (min a0.Base 4096) fun x4 =>
  bnd (decide (x4 < (a0.Ready.length : Int))) fun x5 =>
  bnd (x3 || x5) fun x6 =>
  bif x6 then (
    some 8
  ) else (
    bno (kF a0) fun x8 =>
    fL a0 x8 fuel a0.Base 0
  )

def kS (a0 : bO) : Option fA :=
  some (⟨a0.Recv, a0.End⟩ : fA)

def fZ (a0 : fA) : Option Int :=
  bnd (decide (0 < (a0.State.Parts.length : Int))) fun x1 =>
  bif x1 then (
    bnd (IntKind.wrap .i64 ((a0.State.Parts.length : Int) - 1)) fun x3 =>
    bno (gix a0.State.Parts x3) fun x4 =>
    bnd (IntKind.wrap .i64 ((a0.State.Parts.length : Int) - 1)) fun x5 =>
    bno (gix a0.State.Parts x5) fun x6 =>
    bnd (IntKind.wrap .i64 (x4.At + (x6.Data.length : Int))) fun x7 =>
    some x7
  ) else (
    some a0.State.Base
  )

def mW (a0 : bO) : Option Int :=
  bno (kS a0) fun x1 =>
  bno (fZ x1) fun x2 =>
  some x2

def jU (a0 : bO) : Option Int :=
  bno (jN a0.Recv) fun x1 =>
  bnd (!decide (x1 = 0)) fun x2 =>
  bif x2 then (
    some x1
  ) else (
    bnd (!decide (a0.End = (-1))) fun x4 =>
    bno (gd (x4 == true) (mW a0) default) fun x5 =>
    bnd (decide (a0.End < x5)) fun x6 =>
    bnd (decide (1099511627776 < a0.End)) fun x7 =>
    bnd (x6 || x7) fun x8 =>
    bnd (x4 && x8) fun x9 =>
    bif x9 then (
      some 8
    ) else (
      some 0
    )
  )

def jJ (a0 : aO) : Option Int :=
  bno (fE a0.Out) fun x1 =>
  bnd (!decide (x1 = 0)) fun x2 =>
  bif x2 then (
    some x1
  ) else (
    bno (fE a0.In) fun x4 =>
    bnd (!decide (x4 = 0)) fun x5 =>
    bif x5 then (
      some x4
    ) else (
      bno (gX a0.Send) fun x7 =>
      bnd (!decide (x7 = 0)) fun x8 =>
      bif x8 then (
        some x7
      ) else (
        bno (jU a0.Recv) fun x10 =>
        some x10
      )
    )
  )

def jK (a0 : aO) : Option Bool :=
  bno (mW a0.Recv) fun x1 =>
  bnd (max a0.Recv.End x1) fun x2 =>
  bnd (IntKind.wrap .i64 (a0.Recv.Recv.Base - (a0.Recv.Recv.Ready.length : Int))) fun x3 =>
  bnd (decide (a0.Out.Used = a0.Send.Next)) fun x4 =>
  bnd (decide (a0.In.Used = x2)) fun x5 =>
  bnd (x4 && x5) fun x6 =>
  bnd (decide (a0.In.Read = x3)) fun x7 =>
  bnd (x6 && x7) fun x8 =>
  bnd (IntKind.wrap .i64 (x3 + a0.In.Window)) fun x9 =>
  bnd (decide (a0.In.Limit ≤ x9)) fun x10 =>
  bnd (x8 && x10) fun x11 =>
  some x11

def jQ (a0 : aO) : Option Int :=
  bno (lK a0.ID 0 1048576) fun x1 =>
  bno (gd ((!x1) == false) (lK a0.Mine (-1) 255) default) fun x2 =>
  bnd ((!x1) || (!x2)) fun x3 =>
  bno (gd (x3 == false) (lK a0.Hers (-1) 255) default) fun x4 =>
  bnd (x3 || (!x4)) fun x5 =>
  bnd (decide (4096 < a0.In.Window)) fun x6 =>
  bnd (x5 || x6) fun x7 =>
  bif x7 then (
    some 8
  ) else (
    bno (jJ a0) fun x9 =>
    bnd (!decide (x9 = 0)) fun x10 =>
    bif x10 then (
      some x9
    ) else (
      bno (jK a0) fun x12 =>
      bif (!x12) then (
        some 4
      ) else (
        some 0
      )
    )
  )

def gM (a0 : aO) : Option Bool :=
  bnd (!decide (a0.Mine = (-1))) fun x1 =>
  bnd (!decide (a0.Hers = (-1))) fun x2 =>
  bnd (x1 || x2) fun x3 =>
  some x3

def dK (a0 : aO) : Option Int :=
  bno (jQ a0) fun x1 =>
  bnd (!decide (x1 = 0)) fun x2 =>
  bif x2 then (
    some x1
  ) else (
    bno (gM a0) fun x4 =>
    bif x4 then (
      some 15
    ) else (
      some 0
    )
  )

def fR (a0 : aO) : Option Int :=
  bno (dK a0) fun x1 =>
  bnd (!decide (x1 = 0)) fun x2 =>
  bif x2 then (
    some x1
  ) else (
    bif a0.Send.Closed then (
      some 9
    ) else (
      some 0
    )
  )

def iX (a0 : aO) (a1 : (List UInt8)) : Option (aO × Int × Int) :=
  bno (fR a0) fun x1 =>
  bnd (!decide (x1 = 0)) fun x2 =>
  bif x2 then (
    some (a0, 0, x1)
  ) else (
    bno (mR a0.Send a1) fun x4 =>
    some ((⟨a0.ID, x4.1, a0.Recv, a0.Out, a0.In, a0.Mine, a0.Hers⟩ : aO), x4.2, 0)
  )

def iG (a0 : aO) (a1 : Int) : Option Int :=
  bnd (IntKind.wrap .i64 (a0.Out.Limit - a0.Send.Next)) fun x1 =>
  bnd (min a1 x1) fun x2 =>
  bnd (IntKind.wrap .i64 (a0.Send.Next + x2)) fun x3 =>
  some x3

def iP (a0 : aO) (a1 : Int) (a2 : Int) (a3 : Int) : Option (aO × aJ × (List UInt8) × Bool) :=
  bnd (decide (a3 < 0)) fun x1 =>
  bno (gd (x1 == false) (dK a0) default) fun x2 =>
  bnd (!decide (x2 = 0)) fun x3 =>
  bnd (x1 || x3) fun x4 =>
  bif x4 then (
    some (a0, (⟨0, 0, 0, false⟩ : aJ), [], false)
  ) else (
    bno (iG a0 a3) fun x6 =>
    bno (jY a0.Send a1 a2 x6) fun x7 =>
    some ((⟨a0.ID, x7.1, a0.Recv, (⟨a0.Out.Window, a0.Out.Limit, x7.1.Next, a0.Out.Read⟩ : aV), a0.In, a0.Mine, a0.Hers⟩ : aO), x7.2.1, x7.2.2.1, x7.2.2.2)
  )

def kV (a0 : aV) (a1 : Int) : Option (aV × Int × Bool) :=
  bnd (decide (a1 < 0)) fun x1 =>
  bnd (decide (a0.Limit < a1)) fun x2 =>
  bnd (x1 || x2) fun x3 =>
  bno (gd (x3 == false) (fE a0) default) fun x4 =>
  bnd (!decide (x4 = 0)) fun x5 =>
  bnd (x3 || x5) fun x6 =>
  bif x6 then (
    some (a0, 0, false)
  ) else (
    bnd (max a0.Used a1) fun x8 =>
    bnd (IntKind.wrap .i64 (x8 - a0.Used)) fun x9 =>
    some ((⟨a0.Window, a0.Limit, x8, a0.Read⟩ : aV), x9, true)
  )

def fP (a0 : fA) : Option Bool :=
  bnd (decide (0 ≤ a0.end_)) fun x1 =>
  some x1

def gH (a0 : fA) (a1 : Int) (a2 : Bool) : Option Bool :=
  bno (fP a0) fun x1 =>
  bif x1 then (
    bnd (decide (a0.end_ < a1)) fun x3 =>
    bnd (decide (a1 < a0.end_)) fun x4 =>
    bnd (a2 && x4) fun x5 =>
    bnd (x3 || x5) fun x6 =>
    some x6
  ) else (
    bno (gd (a2 == true) (fZ a0) default) fun x7 =>
    bnd (decide (a1 < x7)) fun x8 =>
    bnd (a2 && x8) fun x9 =>
    some x9
  )

def dA (a0 : (List aN)) : Option (List aN) :=
  vM a0 (
    some []
  ) (
    bno (app 24 ([] : (List aN)) a0) fun x3 =>
    some x3
  )

def gG (a0 : bG) : Nat → Int → Int → Option Int
  | 0, _, _ => none
  | n0 + 1, v6, v7 =>
    bnd (decide (v7 < (a0.Parts.length : Int))) fun x13 =>
    bif x13 then (
      bno (gix a0.Parts v7) fun x15 =>
      bnd (IntKind.wrap .i64 (v6 + (x15.Data.length : Int))) fun x16 =>
      bnd (IntKind.wrap .i64 (v7 + 1)) fun x17 =>
      (gG a0 n0) x16 x17
    ) else (
      some v6
    )
def mV (a0 : bG) : Option Int :=
  gG a0 fuel (a0.Ready.length : Int) 0

def gY (a0 : (List aN)) (v10 : (List aN)) (v102 : Int) (v103 : Int) (v104 : (List UInt8)) : Option (List aN) :=
  bno (app 24 v10 (([(⟨v103, v104⟩ : aN)] : (List aN)))) fun x105 =>
  bno (cut a0 v102 (a0.length : Int)) fun x106 =>
  bno (app 24 x105 x106) fun x107 =>
  some x107
def eK (a0 : (List aN)) (v10 : (List aN)) : Nat → Int → Int → (List UInt8) → Option (List aN)
  | 0, _, _, _ => none
  | n3 + 1, v131, v132, v133 =>
    bnd (decide (v131 < (a0.length : Int))) fun x157 =>
    bif x157 then (
      bno (gix a0 v131) fun x159 =>
      bno (eL (⟨v132, v133⟩ : aN)) fun x160 =>
      bnd (decide (x160 < x159.At)) fun x161 =>
      bif x161 then (
        gY a0 v10 v131 v132 v133
      ) else (
        bnd (decide (x159.At ≤ v132)) fun x163 =>
        bif x163 then (
          bno (eL x159) fun x165 =>
          bnd (IntKind.wrap .i64 (x165 - v132)) fun x166 =>
          bnd (min (v133.length : Int) x166) fun x167 =>
          bno (cut v133 x167 (v133.length : Int)) fun x168 =>
          bno (cat x159.Data x168) fun x169 =>
          bnd (IntKind.wrap .i64 (v131 + 1)) fun x170 =>
          (eK a0 v10 n3) x170 x159.At x169
        ) else (
          bnd (IntKind.wrap .i64 (x159.At - v132)) fun x171 =>
          bno (cut v133 0 x171) fun x172 =>
          bno (cat x172 x159.Data) fun x173 =>
          bno (eL x159) fun x174 =>
          bnd (IntKind.wrap .i64 (x174 - v132)) fun x175 =>
          bnd (min (v133.length : Int) x175) fun x176 =>
          bno (cut v133 x176 (v133.length : Int)) fun x177 =>
          bno (cat x173 x177) fun x178 =>
          bnd (IntKind.wrap .i64 (v131 + 1)) fun x179 =>
          (eK a0 v10 n3) x179 v132 x178
        )
      )
    ) else (
      gY a0 v10 v131 v132 v133
    )
def fC (a0 : (List aN)) (a1 : aN) : Nat → (List aN) → Int → Option (List aN)
  | 0, _, _ => none
  | n0 + 1, v10, v11 =>
    bnd (decide (v11 < (a0.length : Int))) fun x21 =>
    bno (gd (x21 == true) (gix a0 v11) default) fun x22 =>
    bno (gd (x21 == true) (eL x22) default) fun x23 =>
    bnd (decide (x23 < a1.At)) fun x24 =>
    bnd (x21 && x24) fun x25 =>
    bif x25 then (
      bno (gix a0 v11) fun x27 =>
      bno (app 24 v10 ([x27] : (List aN))) fun x28 =>
      bnd (IntKind.wrap .i64 (v11 + 1)) fun x29 =>
      (fC a0 a1 n0) x28 x29
    ) else (
      eK a0 v10 fuel v11 a1.At a1.Data
    )
def kR (a0 : (List aN)) (a1 : aN) : Option (List aN) :=
  fC a0 a1 fuel ([] : (List aN)) 0

def dM (a0 : Int) (a1 : Int) (a2 : (List aN)) : Option (List aN) := delS a2 a0 a1

def jT (x24 : Int) (v33 : Int) (v34 : (List UInt8)) (v35 : (List aN)) : Option (bG × Int) :=
  bno (mV (⟨v33, v34, v35⟩ : bG)) fun x36 =>
  bnd (IntKind.wrap .i64 (x36 - x24)) fun x37 =>
  some ((⟨v33, v34, v35⟩ : bG), x37)
def iA (a0 : bG) (x1 : (List aN)) (v20 : Int) (v21 : (List UInt8)) : Option (bG × Int) :=
  bnd (decide (v21 = ([] : List UInt8))) fun x22 =>
  bif x22 then (
    some ((⟨a0.Base, a0.Ready, x1⟩ : bG), 0)
  ) else (
    bno (mV (⟨a0.Base, a0.Ready, x1⟩ : bG)) fun x24 =>
    bno (kR x1 (⟨v20, v21⟩ : aN)) fun x25 =>
    bno (gix x25 0) fun x38 =>
    bno (x25[(0 : Int).toNat]?) fun x39 =>
    bnd (decide (x39.At = a0.Base)) fun x40 =>
    bif x40 then (
      bno (eL x39) fun x42 =>
      bno (cat a0.Ready x39.Data) fun x43 =>
      bno (dM 0 1 x25) fun x44 =>
      jT x24 x42 x43 x44
    ) else (
      jT x24 a0.Base a0.Ready x25
    )
  )
def oE (a0 : bG) (a1 : Int) (a2 : (List UInt8)) : Option (bG × Int) :=
  bno (dA a0.Parts) fun x1 =>
  bnd (decide (a1 < 0)) fun x2 =>
  bnd (decide (1099511627776 < a1)) fun x3 =>
  bnd (x2 || x3) fun x4 =>
  bno (gd (x4 == false) (jN (⟨a0.Base, a0.Ready, x1⟩ : bG)) default) fun x5 =>
  bnd (!decide (x5 = 0)) fun x6 =>
  bnd (x4 || x6) fun x7 =>
  bif x7 then (
    some ((⟨a0.Base, a0.Ready, x1⟩ : bG), 0)
  ) else (
    bno (kF (⟨a0.Base, a0.Ready, x1⟩ : bG)) fun x9 =>
    bnd (decide (x9 ≤ a1)) fun x10 =>
    bif x10 then (
      some ((⟨a0.Base, a0.Ready, x1⟩ : bG), 0)
    ) else (
      bnd (IntKind.wrap .i64 (x9 - a1)) fun x12 =>
      bnd (min (a2.length : Int) x12) fun x13 =>
      bno (cut a2 0 x13) fun x14 =>
      bnd (decide (a1 < a0.Base)) fun x45 =>
      bif x45 then (
        bnd (IntKind.wrap .i64 (a0.Base - a1)) fun x47 =>
        bnd (min (x14.length : Int) x47) fun x48 =>
        bno (cut x14 x48 (x14.length : Int)) fun x49 =>
        iA a0 x1 a0.Base x49
      ) else (
        iA a0 x1 a1 x14
      )
    )
  )

def nJ (x13 : (bG × Int)) (v15 : Int) : Option (bO × Int × Int) :=
  some ((⟨x13.1, v15⟩ : bO), x13.2, 0)
def pY (a0 : bO) (a1 : Int) (a2 : (List UInt8)) (a3 : Bool) : Option (bO × Int × Int) :=
  bnd (decide (a1 < 0)) fun x1 =>
  bnd (IntKind.wrap .i64 (1099511627776 - (a2.length : Int))) fun x2 =>
  bnd (decide (x2 < a1)) fun x3 =>
  bnd (x1 || x3) fun x4 =>
  bno (gd (x4 == false) (jU a0) default) fun x5 =>
  bnd (!decide (x5 = 0)) fun x6 =>
  bnd (x4 || x6) fun x7 =>
  bif x7 then (
    some (a0, 0, 2)
  ) else (
    bnd (IntKind.wrap .i64 (a1 + (a2.length : Int))) fun x9 =>
    bno (kS a0) fun x10 =>
    bno (gH x10 x9 a3) fun x11 =>
    bif x11 then (
      some (a0, 0, 5)
    ) else (
      bno (oE a0.Recv a1 a2) fun x13 =>
      bif a3 then (
        nJ x13 x9
      ) else (
        nJ x13 a0.End
      )
    )
  )

def fG (a0 : aO) (a1 : Int) (a2 : (List UInt8)) (a3 : Bool) : Option (aO × Int × Int) :=
  bno (dK a0) fun x1 =>
  bnd (!decide (x1 = 0)) fun x2 =>
  bnd (decide (a2 = ([] : List UInt8))) fun x3 =>
  bnd (x3 && (!a3)) fun x4 =>
  bnd (x2 || x4) fun x5 =>
  bif x5 then (
    some (a0, 0, 0)
  ) else (
    bno (lK a1 0 1099511627776) fun x7 =>
    bif (!x7) then (
      some (a0, 0, 3)
    ) else (
      bnd (IntKind.wrap .i64 (a1 + (a2.length : Int))) fun x9 =>
      bno (kV a0.In x9) fun x10 =>
      bif (!x10.2.2) then (
        some (a0, 0, 3)
      ) else (
        bno (pY a0.Recv a1 a2 a3) fun x12 =>
        bnd (!decide (x12.2.2 = 0)) fun x13 =>
        bif x13 then (
          some (a0, 0, x12.2.2)
        ) else (
          some ((⟨a0.ID, a0.Send, x12.1, a0.Out, x10.1, a0.Mine, a0.Hers⟩ : aO), x10.2.1, 0)
        )
      )
    )
  )

def mU (a0 : bG) (a1 : Int) : Option (bG × (List UInt8)) :=
  bno (dA a0.Parts) fun x1 =>
  bnd (decide (a1 < 1)) fun x2 =>
  bno (gd (x2 == false) (jN (⟨a0.Base, a0.Ready, x1⟩ : bG)) default) fun x3 =>
  bnd (!decide (x3 = 0)) fun x4 =>
  bnd (x2 || x4) fun x5 =>
  bif x5 then (
    some ((⟨a0.Base, a0.Ready, x1⟩ : bG), [])
  ) else (
    bnd (min a1 (a0.Ready.length : Int)) fun x7 =>
    bno (cut a0.Ready 0 x7) fun x8 =>
    bno (cut a0.Ready x7 (a0.Ready.length : Int)) fun x9 =>
    some ((⟨a0.Base, x9, x1⟩ : bG), x8)
  )

def oV (a0 : bO) : Option Bool :=
  bno (kS a0) fun x1 =>
  bno (fP x1) fun x2 =>
  bnd (decide (x1.State.Base = x1.end_)) fun x3 =>
  bnd (x2 && x3) fun x4 =>
  bno (gd (x4 == true) (jU a0) default) fun x5 =>
  bnd (decide (x5 = 0)) fun x6 =>
  bnd (x4 && x6) fun x7 =>
  some x7

def lG (a0 : bO) : Option Bool :=
  bnd (decide (a0.Recv.Ready = ([] : List UInt8))) fun x1 =>
  bno (gd (x1 == true) (oV a0) default) fun x2 =>
  bnd (x1 && x2) fun x3 =>
  some x3

def pX (a0 : bO) (a1 : Int) : Option (bO × (List UInt8) × Bool) :=
  bno (mU a0.Recv a1) fun x1 =>
  bno (lG (⟨x1.1, a0.End⟩ : bO)) fun x2 =>
  some ((⟨x1.1, a0.End⟩ : bO), x1.2, x2)

def nF (a0 : aV) (a1 : Int) : Option aV :=
  bno (fE a0) fun x1 =>
  bnd (decide (x1 = 0)) fun x2 =>
  bnd (decide (0 < a1)) fun x3 =>
  bnd (x2 && x3) fun x4 =>
  bif x4 then (
    bnd (IntKind.wrap .i64 (a0.Used - a0.Read)) fun x6 =>
    bnd (min a1 x6) fun x7 =>
    bnd (IntKind.wrap .i64 (a0.Read + x7)) fun x8 =>
    some (⟨a0.Window, a0.Limit, a0.Used, x8⟩ : aV)
  ) else (
    some a0
  )

def jG (a0 : aO) (a1 : Int) : Option (aO × (List UInt8) × Bool × Int) :=
  bno (dK a0) fun x1 =>
  bnd (!decide (x1 = 0)) fun x2 =>
  bif x2 then (
    some (a0, [], false, x1)
  ) else (
    bno (pX a0.Recv a1) fun x4 =>
    bno (nF a0.In (x4.2.1.length : Int)) fun x5 =>
    some ((⟨a0.ID, a0.Send, x4.1, a0.Out, x5, a0.Mine, a0.Hers⟩ : aO), x4.2.1, x4.2.2, 0)
  )

def mP (a0 : aO) : Option Int :=
  bnd (decide (0 ≤ a0.Recv.End)) fun x1 =>
  bif x1 then (
    some 3
  ) else (
    some 2
  )

def kW (a0 : aV) : Option (aV × Int) :=
  bno (fE a0) fun x1 =>
  bnd (!decide (x1 = 0)) fun x2 =>
  bif x2 then (
    some (a0, 0)
  ) else (
    bnd (IntKind.wrap .i64 (a0.Read + a0.Window)) fun x4 =>
    bnd (min x4 1099511627776) fun x5 =>
    bnd (IntKind.wrap .i64 (x5 - a0.Limit)) fun x6 =>
    bno (quoI .i64 a0.Window 2) fun x7 =>
    bnd (max 1 x7) fun x8 =>
    bnd (decide (x6 < x8)) fun x9 =>
    bif x9 then (
      some (a0, 0)
    ) else (
      bnd (IntKind.wrap .i64 (a0.Limit + x6)) fun x11 =>
      some ((⟨a0.Window, x11, a0.Used, a0.Read⟩ : aV), x6)
    )
  )

def kK (a0 : aO) (a1 : Int) : Option (aO × Int) :=
  bno (mP a0) fun x1 =>
  bnd (decide (x1 = 2)) fun x2 =>
  bif x2 then (
    bno (kW a0.In) fun x4 =>
    some ((⟨a0.ID, a0.Send, a0.Recv, a0.Out, x4.1, a0.Mine, a0.Hers⟩ : aO), x4.2)
  ) else (
    some (a0, a1)
  )

def eJ (a0 : aO) (a1 : Int) : Option (aO × Int) :=
  bno (dK a0) fun x1 =>
  bnd (decide (x1 = 0)) fun x2 =>
  bif x2 then (
    bno (kK a0 a1) fun x4 =>
    some (x4.1, x4.2)
  ) else (
    some (a0, a1)
  )

def iI (a0 : aO) : Option (aO × Int) :=
  bno (eJ a0 0) fun x1 =>
  some (x1.1, x1.2)

def mN (a0 : Int) : Option Bool :=
  bno (lK a0 0 255) fun x1 =>
  some x1

def fK (a0 : aO) (a1 : Int) : Option aO :=
  bnd (decide (a0.Hers = (-1))) fun x1 =>
  bno (gd (x1 == true) (mN a1) default) fun x2 =>
  bnd (x1 && x2) fun x3 =>
  bno (gd (x3 == true) (jQ a0) default) fun x4 =>
  bnd (decide (x4 = 0)) fun x5 =>
  bnd (x3 && x5) fun x6 =>
  bif x6 then (
    some (⟨a0.ID, a0.Send, a0.Recv, a0.Out, a0.In, a0.Mine, a1⟩ : aO)
  ) else (
    some a0
  )

def kX (a0 : aV) (a1 : Int) : Option (aV × Bool) :=
  bnd (decide (a1 < 1)) fun x1 =>
  bno (gd (x1 == false) (fE a0) default) fun x2 =>
  bnd (!decide (x2 = 0)) fun x3 =>
  bnd (x1 || x3) fun x4 =>
  bnd (IntKind.wrap .i64 (1099511627776 - a0.Limit)) fun x5 =>
  bnd (decide (x5 < a1)) fun x6 =>
  bnd (x4 || x6) fun x7 =>
  bif x7 then (
    some (a0, false)
  ) else (
    bnd (IntKind.wrap .i64 (a0.Limit + a1)) fun x9 =>
    some ((⟨a0.Window, x9, a0.Used, a0.Read⟩ : aV), true)
  )

def iZ (a0 : aO) (a1 : Int) (a2 : Int) : Option (aO × Int) :=
  bno (kX a0.Out a1) fun x1 =>
  bif (!x1.2) then (
    some ((⟨a0.ID, a0.Send, a0.Recv, x1.1, a0.In, a0.Mine, a0.Hers⟩ : aO), 3)
  ) else (
    some ((⟨a0.ID, a0.Send, a0.Recv, x1.1, a0.In, a0.Mine, a0.Hers⟩ : aO), a2)
  )

def eP (a0 : aO) (a1 : Int) (a2 : Int) : Option (aO × Int) :=
  bno (dK a0) fun x1 =>
  bnd (decide (x1 = 0)) fun x2 =>
  bif x2 then (
    bno (iZ a0 a1 a2) fun x4 =>
    some (x4.1, x4.2)
  ) else (
    some (a0, a2)
  )

def jC (a0 : aO) (a1 : Int) : Option (aO × Int) :=
  bno (eP a0 a1 0) fun x1 =>
  some (x1.1, x1.2)

def lM (a0 : aO) : Option Bool :=
  bno (gM a0) fun x1 =>
  bno (gd (x1 == false) (lG a0.Recv) default) fun x2 =>
  bno (gd ((x1 == false) && (x2 == true)) (sN a0.Send) default) fun x3 =>
  bnd (x2 && x3) fun x4 =>
  bnd (x1 || x4) fun x5 =>
  some x5

def lL (a0 : aO) (a1 : Int) : Option Bool :=
  bnd (decide (0 ≤ a1)) fun x1 =>
  bno (gd (x1 == true) (dK a0) default) fun x2 =>
  bnd (decide (x2 = 0)) fun x3 =>
  bnd (x1 && x3) fun x4 =>
  bno (gd (x4 == true) (iG a0 a1) default) fun x5 =>
  bno (gd (x4 == true) (sM a0.Send x5) default) fun x6 =>
  bnd (x4 && x6) fun x7 =>
  some x7

def cH (a0 : (List aN)) (a1 : (List aN)) : Nat → Int → Option Bool
  | 0, _ => none
  | n0 + 1, v10 =>
    bnd (decide (v10 < (a0.length : Int))) fun x18 =>
    bif x18 then (
      bno (gix a0 v10) fun x20 =>
      bno (gix a1 v10) fun x21 =>
      bnd ((decide (x20.At = x21.At) && (decide (x20.Data = x21.Data) && true))) fun x22 =>
      bif (!x22) then (
        some false
      ) else (
        bnd (IntKind.wrap .i64 (v10 + 1)) fun x24 =>
        (cH a0 a1 n0) x24
      )
    ) else (
      some true
    )
def dW (a0 : (List aN)) (a1 : (List aN)) : Option Bool :=
  bnd (!decide ((a0.length : Int) = (a1.length : Int))) fun x1 =>
  bif x1 then (
    some false
  ) else (
    cH a0 a1 fuel 0
  )

def oR (a0 : bG) (a1 : bG) : Option Bool :=
  bnd (decide (a0.Base = a1.Base)) fun x1 =>
  bnd (decide (a0.Ready = a1.Ready)) fun x2 =>
  bnd (x1 && x2) fun x3 =>
  bno (gd (x3 == true) (dW a0.Parts a1.Parts) default) fun x4 =>
  bnd (x3 && x4) fun x5 =>
  some x5

def pW (a0 : bO) (a1 : bO) : Option Bool :=
  bnd (decide (a0.End = a1.End)) fun x1 =>
  bno (gd (x1 == true) (oR a0.Recv a1.Recv) default) fun x2 =>
  bnd (x1 && x2) fun x3 =>
  some x3

def jF (a0 : aO) (a1 : aO) : Option Bool :=
  bno (oA a0.Send a1.Send) fun x1 =>
  bno (gd ((!x1) == false) (pW a0.Recv a1.Recv) default) fun x2 =>
  bnd ((!x1) || (!x2)) fun x3 =>
  bif x3 then (
    some false
  ) else (
    bnd (decide (a0.ID = a1.ID)) fun x5 =>
    bnd ((decide (a0.Out.Window = a1.Out.Window) && (decide (a0.Out.Limit = a1.Out.Limit) && (decide (a0.Out.Used = a1.Out.Used) && (decide (a0.Out.Read = a1.Out.Read) && true))))) fun x6 =>
    bnd (x5 && x6) fun x7 =>
    bnd ((decide (a0.In.Window = a1.In.Window) && (decide (a0.In.Limit = a1.In.Limit) && (decide (a0.In.Used = a1.In.Used) && (decide (a0.In.Read = a1.In.Read) && true))))) fun x8 =>
    bnd (x7 && x8) fun x9 =>
    bnd (decide (a0.Mine = a1.Mine)) fun x10 =>
    bnd (x9 && x10) fun x11 =>
    bnd (decide (a0.Hers = a1.Hers)) fun x12 =>
    bnd (x11 && x12) fun x13 =>
    some x13
  )

def gV  : Option Bool :=
  bno (kZ 1 10 10) fun x1 =>
  bno (iX x1.1 [104, 101, 108, 108, 111]) fun x2 =>
  bno (iP x2.1 0 3 99) fun x3 =>
  bno (kZ 1 10 10) fun x4 =>
  bno (fG x4.1 0 x3.2.2.1 false) fun x5 =>
  bno (fG x5.1 9 [120, 121] false) fun x6 =>
  bno (jG x5.1 9) fun x7 =>
  bno (iI x7.1) fun x8 =>
  bno (fK x8.1 8) fun x9 =>
  bno (iI x9) fun x10 =>
  bno (jG x10.1 1) fun x11 =>
  bno (jC x3.1 0) fun x12 =>
  bno (kZ 1 10 4097) fun x13 =>
  bnd (decide (x1.2 = 0)) fun x14 =>
  bnd (decide (x2.2.1 = 5)) fun x15 =>
  bnd (x14 && x15) fun x16 =>
  bnd (decide (x2.2.2 = 0)) fun x17 =>
  bnd (x16 && x17) fun x18 =>
  bnd (x18 && x3.2.2.2) fun x19 =>
  bnd (decide (x3.2.1.To = 3)) fun x20 =>
  bnd (x19 && x20) fun x21 =>
  bnd (decide (x3.2.2.1 = ([104, 101, 108] : List UInt8))) fun x22 =>
  bnd (x21 && x22) fun x23 =>
  bnd (decide (x3.1.Out.Used = 3)) fun x24 =>
  bnd (x23 && x24) fun x25 =>
  bnd (decide (x4.2 = 0)) fun x26 =>
  bnd (x25 && x26) fun x27 =>
  bnd (decide (x5.2.1 = 3)) fun x28 =>
  bnd (x27 && x28) fun x29 =>
  bnd (decide (x5.2.2 = 0)) fun x30 =>
  bnd (x29 && x30) fun x31 =>
  bnd (decide (x6.2.2 = 3)) fun x32 =>
  bnd (x31 && x32) fun x33 =>
  bnd (decide (x7.2.1 = ([104, 101, 108] : List UInt8))) fun x34 =>
  bnd (x33 && x34) fun x35 =>
  bnd (x35 && (!x7.2.2.1)) fun x36 =>
  bnd (decide (x7.2.2.2 = 0)) fun x37 =>
  bnd (x36 && x37) fun x38 =>
  bnd (decide (x8.2 = 0)) fun x39 =>
  bnd (x38 && x39) fun x40 =>
  bnd (decide (x10.2 = 0)) fun x41 =>
  bnd (x40 && x41) fun x42 =>
  bnd (decide (x11.2.2.2 = 15)) fun x43 =>
  bnd (x42 && x43) fun x44 =>
  bnd (decide (x12.2 = 3)) fun x45 =>
  bnd (x44 && x45) fun x46 =>
  bno (gd (x46 == true) (lM x10.1) default) fun x47 =>
  bnd (x46 && x47) fun x48 =>
  bno (gd (x48 == true) (lM x8.1) default) fun x49 =>
  bnd (x48 && (!x49)) fun x50 =>
  bno (gd (x50 == true) (mP x8.1) default) fun x51 =>
  bnd (decide (x51 = 2)) fun x52 =>
  bnd (x50 && x52) fun x53 =>
  bno (gd (x53 == true) (lL x3.1 1) default) fun x54 =>
  bnd (x53 && x54) fun x55 =>
  bno (gd (x55 == true) (lL x3.1 0) default) fun x56 =>
  bnd (x55 && (!x56)) fun x57 =>
  bnd (decide (x13.2 = 8)) fun x58 =>
  bnd (x57 && x58) fun x59 =>
  bno (gd (x59 == true) (jQ x8.1) default) fun x60 =>
  bnd (decide (x60 = 0)) fun x61 =>
  bnd (x59 && x61) fun x62 =>
  bno (gd (x62 == true) (jF x8.1 x7.1) default) fun x63 =>
  bnd (x62 && x63) fun x64 =>
  bno (gd (x64 == true) (jF x8.1 x10.1) default) fun x65 =>
  bnd (x64 && (!x65)) fun x66 =>
  bnd (bif x66 then true else false) fun x67 =>
  bnd (bif x67 then true else false) fun x68 =>
  bnd (bif x68 then true else false) fun x69 =>
  bnd (bif x69 then true else false) fun x70 =>
  some x70

def mO (a0 : aO) : Option (aO × Int) :=
  bno (fR a0) fun x1 =>
  bnd (!decide (x1 = 0)) fun x2 =>
  bif x2 then (
    some (a0, x1)
  ) else (
    bno (mS a0.Send) fun x4 =>
    some ((⟨a0.ID, x4, a0.Recv, a0.Out, a0.In, a0.Mine, a0.Hers⟩ : aO), 0)
  )

def jW (a0 : aO) (a1 : Int) (a2 : Bool) : Option aO :=
  bno (mT a0.Send a1 a2) fun x1 =>
  some (⟨a0.ID, x1, a0.Recv, a0.Out, a0.In, a0.Mine, a0.Hers⟩ : aO)

def eW (a0 : aO) (a1 : Int) (a2 : Bool) : Option aO :=
  bno (dK a0) fun x1 =>
  bnd (decide (x1 = 0)) fun x2 =>
  bif x2 then (
    bno (jW a0 a1 a2) fun x4 =>
    some x4
  ) else (
    some a0
  )

def lN (a0 : aO) (a1 : Int) (a2 : Bool) : Option aO :=
  bno (eW a0 a1 a2) fun x1 =>
  some x1

def nY (a0 : aO) (a1 : Int) : Option aO :=
  bno (jQ a0) fun x1 =>
  bnd (decide (x1 = 0)) fun x2 =>
  bif x2 then (
    bno (oC a0.Send a1) fun x4 =>
    some (⟨a0.ID, x4, a0.Recv, a0.Out, a0.In, a0.Mine, a0.Hers⟩ : aO)
  ) else (
    some a0
  )

def cI (a0 : cX) (a1 : Int) (a2 : Int) (a3 : (List UInt8)) (a4 : Int) (a5 : (List aJ)) (a6 : (List aF)) (a7 : Bool) (a8 : Bool) (a9 : Bool) (a10 : Bool) (a11 : Int) (a12 : (List UInt8)) (a13 : (List aN)) (a14 : Int) (a15 : Int) (a16 : Int) (a17 : Int) (a18 : Int) (a19 : Int) (a20 : Int) (a21 : Int) (a22 : Int) (a23 : Int) (a24 : Int) (a25 : Int) (a26 : Int) (a27 : (List UInt8)) (a28 : Int) (a29 : (List aJ)) (a30 : (List aF)) (a31 : Bool) (a32 : Bool) (a33 : Bool) (a34 : Bool) (a35 : Int) (a36 : (List UInt8)) (a37 : (List aN)) (a38 : Int) (a39 : Int) (a40 : Int) (a41 : Int) (a42 : Int) (a43 : Int) (a44 : Int) (a45 : Int) (a46 : Int) (a47 : Int) (a48 : Int) (a49 : (List UInt8)) (a50 : (List UInt8)) (a51 : Int) (a52 : Bool) (a53 : (List bX)) : Option (Bool × Int × Int × (List UInt8) × Int × (List aJ) × (List aF) × Bool × Bool × Bool × Bool × Int × (List UInt8) × (List aN) × Int × Int × Int × Int × Int × Int × Int × Int × Int × Int × Int × Int × Int × (List UInt8) × Int × (List aJ) × (List aF) × Bool × Bool × Bool × Bool × Int × (List UInt8) × (List aN) × Int × Int × Int × Int × Int × Int × Int × Int × Int × Int × Int × (List bX) × (List UInt8) × (List UInt8) × Int × Bool) :=
  bno (remI a0.Kind 8) fun x1 =>
  bnd (decide (x1 = 0)) fun x2 =>
  bif x2 then (
    bno (iX ((⟨a1, (⟨a2, a3, a4, a5, a6, a7, a8, a9, a10⟩ : aU), (⟨(⟨a11, a12, a13⟩ : bG), a14⟩ : bO), (⟨a15, a16, a17, a18⟩ : aV), (⟨a19, a20, a21, a22⟩ : aV), a23, a24⟩ : aO)) a0.Text) fun x4 =>
    bnd (decide (x4.2.2 = 0)) fun x5 =>
    bnd (decide (x4.2.1 < 0)) fun x6 =>
    bnd (decide ((a0.Text.length : Int) < x4.2.1)) fun x7 =>
    bnd (x6 || x7) fun x8 =>
    bnd (x5 && x8) fun x9 =>
    bnd (!decide (x4.2.2 = 0)) fun x10 =>
    bnd (!decide (x4.2.1 = 0)) fun x11 =>
    bnd (x10 && x11) fun x12 =>
    bnd (x9 || x12) fun x13 =>
    bif x13 then (
      some (false, a1, a2, a3, a4, a5, a6, a7, a8, a9, a10, a11, a12, a13, a14, a15, a16, a17, a18, a19, a20, a21, a22, a23, a24, a25, a26, a27, a28, a29, a30, a31, a32, a33, a34, a35, a36, a37, a38, a39, a40, a41, a42, a43, a44, a45, a46, a47, a48, a53, a49, a50, a51, a52)
    ) else (
      bno (cut a0.Text 0 x4.2.1) fun x15 =>
      bno (cat a49 x15) fun x16 =>
      some (true, x4.1.ID, x4.1.Send.Base, x4.1.Send.Data, x4.1.Send.Next, x4.1.Send.Pieces, x4.1.Send.Lost, x4.1.Send.Closed, x4.1.Send.Sent, x4.1.Send.Again, x4.1.Send.Done, x4.1.Recv.Recv.Base, x4.1.Recv.Recv.Ready, x4.1.Recv.Recv.Parts, x4.1.Recv.End, x4.1.Out.Window, x4.1.Out.Limit, x4.1.Out.Used, x4.1.Out.Read, x4.1.In.Window, x4.1.In.Limit, x4.1.In.Used, x4.1.In.Read, x4.1.Mine, x4.1.Hers, a25, a26, a27, a28, a29, a30, a31, a32, a33, a34, a35, a36, a37, a38, a39, a40, a41, a42, a43, a44, a45, a46, a47, a48, a53, x16, a50, a51, a52)
    )
  ) else (
    bnd (decide (x1 = 1)) fun x17 =>
    bif x17 then (
      bno (mO ((⟨a1, (⟨a2, a3, a4, a5, a6, a7, a8, a9, a10⟩ : aU), (⟨(⟨a11, a12, a13⟩ : bG), a14⟩ : bO), (⟨a15, a16, a17, a18⟩ : aV), (⟨a19, a20, a21, a22⟩ : aV), a23, a24⟩ : aO))) fun x19 =>
      some (true, x19.1.ID, x19.1.Send.Base, x19.1.Send.Data, x19.1.Send.Next, x19.1.Send.Pieces, x19.1.Send.Lost, x19.1.Send.Closed, x19.1.Send.Sent, x19.1.Send.Again, x19.1.Send.Done, x19.1.Recv.Recv.Base, x19.1.Recv.Recv.Ready, x19.1.Recv.Recv.Parts, x19.1.Recv.End, x19.1.Out.Window, x19.1.Out.Limit, x19.1.Out.Used, x19.1.Out.Read, x19.1.In.Window, x19.1.In.Limit, x19.1.In.Used, x19.1.In.Read, x19.1.Mine, x19.1.Hers, a25, a26, a27, a28, a29, a30, a31, a32, a33, a34, a35, a36, a37, a38, a39, a40, a41, a42, a43, a44, a45, a46, a47, a48, a53, a49, a50, a51, a52)
    ) else (
      bnd (decide (x1 = 2)) fun x20 =>
      bif x20 then (
        bno (remI a0.Path 4) fun x22 =>
        bnd (IntKind.wrap .i64 x22) fun x23 =>
        bnd (IntKind.wrap .i64 a0.N) fun x24 =>
        bno (iP ((⟨a1, (⟨a2, a3, a4, a5, a6, a7, a8, a9, a10⟩ : aU), (⟨(⟨a11, a12, a13⟩ : bG), a14⟩ : bO), (⟨a15, a16, a17, a18⟩ : aV), (⟨a19, a20, a21, a22⟩ : aV), a23, a24⟩ : aO)) x23 x24 1099511627776) fun x25 =>
        bif x25.2.2.2 then (
          bno (app 32 a53 (([(⟨x25.2.1.From, x25.2.2.1, x25.2.1.Fin⟩ : bX)] : (List bX)))) fun x27 =>
          some (true, x25.1.ID, x25.1.Send.Base, x25.1.Send.Data, x25.1.Send.Next, x25.1.Send.Pieces, x25.1.Send.Lost, x25.1.Send.Closed, x25.1.Send.Sent, x25.1.Send.Again, x25.1.Send.Done, x25.1.Recv.Recv.Base, x25.1.Recv.Recv.Ready, x25.1.Recv.Recv.Parts, x25.1.Recv.End, x25.1.Out.Window, x25.1.Out.Limit, x25.1.Out.Used, x25.1.Out.Read, x25.1.In.Window, x25.1.In.Limit, x25.1.In.Used, x25.1.In.Read, x25.1.Mine, x25.1.Hers, a25, a26, a27, a28, a29, a30, a31, a32, a33, a34, a35, a36, a37, a38, a39, a40, a41, a42, a43, a44, a45, a46, a47, a48, x27, a49, a50, a51, a52)
        ) else (
          some (true, x25.1.ID, x25.1.Send.Base, x25.1.Send.Data, x25.1.Send.Next, x25.1.Send.Pieces, x25.1.Send.Lost, x25.1.Send.Closed, x25.1.Send.Sent, x25.1.Send.Again, x25.1.Send.Done, x25.1.Recv.Recv.Base, x25.1.Recv.Recv.Ready, x25.1.Recv.Recv.Parts, x25.1.Recv.End, x25.1.Out.Window, x25.1.Out.Limit, x25.1.Out.Used, x25.1.Out.Read, x25.1.In.Window, x25.1.In.Limit, x25.1.In.Used, x25.1.In.Read, x25.1.Mine, x25.1.Hers, a25, a26, a27, a28, a29, a30, a31, a32, a33, a34, a35, a36, a37, a38, a39, a40, a41, a42, a43, a44, a45, a46, a47, a48, a53, a49, a50, a51, a52)
        )
      ) else (
        bnd (decide (x1 = 3)) fun x28 =>
        bif x28 then (
          bnd (decide (0 < (a53.length : Int))) fun x30 =>
          bif x30 then (
            bnd (IntKind.wrap .i64 a0.N) fun x32 =>
            bno (remI x32 (a53.length : Int)) fun x33 =>
            bno (gix a53 x33) fun x34 =>
            bno (a53[(x33 : Int).toNat]?) fun x35 =>
            bno (fG ((⟨a25, (⟨a26, a27, a28, a29, a30, a31, a32, a33, a34⟩ : aU), (⟨(⟨a35, a36, a37⟩ : bG), a38⟩ : bO), (⟨a39, a40, a41, a42⟩ : aV), (⟨a43, a44, a45, a46⟩ : aV), a47, a48⟩ : aO)) x35.at_ x35.s x35.fin) fun x36 =>
            bnd (decide (x36.2.2 = 0)) fun x37 =>
            some (x37, a1, a2, a3, a4, a5, a6, a7, a8, a9, a10, a11, a12, a13, a14, a15, a16, a17, a18, a19, a20, a21, a22, a23, a24, x36.1.ID, x36.1.Send.Base, x36.1.Send.Data, x36.1.Send.Next, x36.1.Send.Pieces, x36.1.Send.Lost, x36.1.Send.Closed, x36.1.Send.Sent, x36.1.Send.Again, x36.1.Send.Done, x36.1.Recv.Recv.Base, x36.1.Recv.Recv.Ready, x36.1.Recv.Recv.Parts, x36.1.Recv.End, x36.1.Out.Window, x36.1.Out.Limit, x36.1.Out.Used, x36.1.Out.Read, x36.1.In.Window, x36.1.In.Limit, x36.1.In.Used, x36.1.In.Read, x36.1.Mine, x36.1.Hers, a53, a49, a50, a51, a52)
          ) else (
            some (true, a1, a2, a3, a4, a5, a6, a7, a8, a9, a10, a11, a12, a13, a14, a15, a16, a17, a18, a19, a20, a21, a22, a23, a24, a25, a26, a27, a28, a29, a30, a31, a32, a33, a34, a35, a36, a37, a38, a39, a40, a41, a42, a43, a44, a45, a46, a47, a48, a53, a49, a50, a51, a52)
          )
        ) else (
          bnd (decide (x1 = 4)) fun x38 =>
          bif x38 then (
            bnd (IntKind.wrap .i64 a0.N) fun x40 =>
            bno (jG ((⟨a25, (⟨a26, a27, a28, a29, a30, a31, a32, a33, a34⟩ : aU), (⟨(⟨a35, a36, a37⟩ : bG), a38⟩ : bO), (⟨a39, a40, a41, a42⟩ : aV), (⟨a43, a44, a45, a46⟩ : aV), a47, a48⟩ : aO)) x40) fun x41 =>
            bno (cat a50 x41.2.1) fun x42 =>
            bnd (a52 || x41.2.2.1) fun x43 =>
            bno (iI x41.1) fun x44 =>
            bnd (IntKind.wrap .i64 (a51 + x44.2)) fun x45 =>
            bnd (decide (x41.2.2.2 = 0)) fun x46 =>
            some (x46, a1, a2, a3, a4, a5, a6, a7, a8, a9, a10, a11, a12, a13, a14, a15, a16, a17, a18, a19, a20, a21, a22, a23, a24, x44.1.ID, x44.1.Send.Base, x44.1.Send.Data, x44.1.Send.Next, x44.1.Send.Pieces, x44.1.Send.Lost, x44.1.Send.Closed, x44.1.Send.Sent, x44.1.Send.Again, x44.1.Send.Done, x44.1.Recv.Recv.Base, x44.1.Recv.Recv.Ready, x44.1.Recv.Recv.Parts, x44.1.Recv.End, x44.1.Out.Window, x44.1.Out.Limit, x44.1.Out.Used, x44.1.Out.Read, x44.1.In.Window, x44.1.In.Limit, x44.1.In.Used, x44.1.In.Read, x44.1.Mine, x44.1.Hers, a53, a49, x42, x45, x43)
          ) else (
            bnd (decide (x1 = 5)) fun x47 =>
            bif x47 then (
              bnd (decide (0 < a51)) fun x49 =>
              bif x49 then (
                bno (jC ((⟨a1, (⟨a2, a3, a4, a5, a6, a7, a8, a9, a10⟩ : aU), (⟨(⟨a11, a12, a13⟩ : bG), a14⟩ : bO), (⟨a15, a16, a17, a18⟩ : aV), (⟨a19, a20, a21, a22⟩ : aV), a23, a24⟩ : aO)) a51) fun x51 =>
                bnd (decide (x51.2 = 0)) fun x52 =>
                some (x52, x51.1.ID, x51.1.Send.Base, x51.1.Send.Data, x51.1.Send.Next, x51.1.Send.Pieces, x51.1.Send.Lost, x51.1.Send.Closed, x51.1.Send.Sent, x51.1.Send.Again, x51.1.Send.Done, x51.1.Recv.Recv.Base, x51.1.Recv.Recv.Ready, x51.1.Recv.Recv.Parts, x51.1.Recv.End, x51.1.Out.Window, x51.1.Out.Limit, x51.1.Out.Used, x51.1.Out.Read, x51.1.In.Window, x51.1.In.Limit, x51.1.In.Used, x51.1.In.Read, x51.1.Mine, x51.1.Hers, a25, a26, a27, a28, a29, a30, a31, a32, a33, a34, a35, a36, a37, a38, a39, a40, a41, a42, a43, a44, a45, a46, a47, a48, a53, a49, a50, 0, a52)
              ) else (
                some (true, a1, a2, a3, a4, a5, a6, a7, a8, a9, a10, a11, a12, a13, a14, a15, a16, a17, a18, a19, a20, a21, a22, a23, a24, a25, a26, a27, a28, a29, a30, a31, a32, a33, a34, a35, a36, a37, a38, a39, a40, a41, a42, a43, a44, a45, a46, a47, a48, a53, a49, a50, a51, a52)
              )
            ) else (
              bnd (decide (x1 = 6)) fun x53 =>
              bif x53 then (
                bnd (decide (a38 = a35)) fun x55 =>
                bno (lN ((⟨a1, (⟨a2, a3, a4, a5, a6, a7, a8, a9, a10⟩ : aU), (⟨(⟨a11, a12, a13⟩ : bG), a14⟩ : bO), (⟨a15, a16, a17, a18⟩ : aV), (⟨a19, a20, a21, a22⟩ : aV), a23, a24⟩ : aO)) a35 x55) fun x56 =>
                some (true, x56.ID, x56.Send.Base, x56.Send.Data, x56.Send.Next, x56.Send.Pieces, x56.Send.Lost, x56.Send.Closed, x56.Send.Sent, x56.Send.Again, x56.Send.Done, x56.Recv.Recv.Base, x56.Recv.Recv.Ready, x56.Recv.Recv.Parts, x56.Recv.End, x56.Out.Window, x56.Out.Limit, x56.Out.Used, x56.Out.Read, x56.In.Window, x56.In.Limit, x56.In.Used, x56.In.Read, x56.Mine, x56.Hers, a25, a26, a27, a28, a29, a30, a31, a32, a33, a34, a35, a36, a37, a38, a39, a40, a41, a42, a43, a44, a45, a46, a47, a48, a53, a49, a50, a51, a52)
              ) else (
                bnd (decide (x1 = 7)) fun x57 =>
                bif x57 then (
                  bno (remI a0.Path 4) fun x59 =>
                  bnd (IntKind.wrap .i64 x59) fun x60 =>
                  bno (nY ((⟨a1, (⟨a2, a3, a4, a5, a6, a7, a8, a9, a10⟩ : aU), (⟨(⟨a11, a12, a13⟩ : bG), a14⟩ : bO), (⟨a15, a16, a17, a18⟩ : aV), (⟨a19, a20, a21, a22⟩ : aV), a23, a24⟩ : aO)) x60) fun x61 =>
                  some (true, x61.ID, x61.Send.Base, x61.Send.Data, x61.Send.Next, x61.Send.Pieces, x61.Send.Lost, x61.Send.Closed, x61.Send.Sent, x61.Send.Again, x61.Send.Done, x61.Recv.Recv.Base, x61.Recv.Recv.Ready, x61.Recv.Recv.Parts, x61.Recv.End, x61.Out.Window, x61.Out.Limit, x61.Out.Used, x61.Out.Read, x61.In.Window, x61.In.Limit, x61.In.Used, x61.In.Read, x61.Mine, x61.Hers, a25, a26, a27, a28, a29, a30, a31, a32, a33, a34, a35, a36, a37, a38, a39, a40, a41, a42, a43, a44, a45, a46, a47, a48, a53, a49, a50, a51, a52)
                ) else (
                  some (true, a1, a2, a3, a4, a5, a6, a7, a8, a9, a10, a11, a12, a13, a14, a15, a16, a17, a18, a19, a20, a21, a22, a23, a24, a25, a26, a27, a28, a29, a30, a31, a32, a33, a34, a35, a36, a37, a38, a39, a40, a41, a42, a43, a44, a45, a46, a47, a48, a53, a49, a50, a51, a52)
                )
              )
            )
          )
        )
      )
    )
  )

def kJ (a0 : aO) (a1 : Int) : Option aO :=
  bno (mN a1) fun x1 =>
  bif x1 then (
    some (⟨a0.ID, a0.Send, a0.Recv, a0.Out, a0.In, a1, a0.Hers⟩ : aO)
  ) else (
    some a0
  )

def eI (a0 : aO) (a1 : Int) : Option aO :=
  bno (dK a0) fun x1 =>
  bnd (decide (x1 = 0)) fun x2 =>
  bif x2 then (
    bno (kJ a0 a1) fun x4 =>
    some x4
  ) else (
    some a0
  )

def iY (a0 : aO) (a1 : Int) : Option aO :=
  bno (eI a0 a1) fun x1 =>
  some x1

def eG (kk3 : Int → Option Bool) (v630 : Int) (v695 : Int) (v696 : Int) (v697 : (List UInt8)) (v698 : Int) (v699 : (List aJ)) (v700 : (List aF)) (v701 : Bool) (v702 : Bool) (v703 : Bool) (v704 : Bool) (v705 : Int) (v706 : (List UInt8)) (v707 : (List aN)) (v708 : Int) (v709 : Int) (v710 : Int) (v711 : Int) (v712 : Int) (v713 : Int) (v714 : Int) (v715 : Int) (v716 : Int) (v717 : Int) (v718 : Int) : Option Bool :=
  bno (iX ((⟨v695, (⟨v696, v697, v698, v699, v700, v701, v702, v703, v704⟩ : aU), (⟨(⟨v705, v706, v707⟩ : bG), v708⟩ : bO), (⟨v709, v710, v711, v712⟩ : aV), (⟨v713, v714, v715, v716⟩ : aV), v717, v718⟩ : aO)) [120]) fun x719 =>
  bno (jG ((⟨v695, (⟨v696, v697, v698, v699, v700, v701, v702, v703, v704⟩ : aU), (⟨(⟨v705, v706, v707⟩ : bG), v708⟩ : bO), (⟨v709, v710, v711, v712⟩ : aV), (⟨v713, v714, v715, v716⟩ : aV), v717, v718⟩ : aO)) 9) fun x720 =>
  bno (fG ((⟨v695, (⟨v696, v697, v698, v699, v700, v701, v702, v703, v704⟩ : aU), (⟨(⟨v705, v706, v707⟩ : bG), v708⟩ : bO), (⟨v709, v710, v711, v712⟩ : aV), (⟨v713, v714, v715, v716⟩ : aV), v717, v718⟩ : aO)) 0 [122, 122] true) fun x721 =>
  bno (iI ((⟨v695, (⟨v696, v697, v698, v699, v700, v701, v702, v703, v704⟩ : aU), (⟨(⟨v705, v706, v707⟩ : bG), v708⟩ : bO), (⟨v709, v710, v711, v712⟩ : aV), (⟨v713, v714, v715, v716⟩ : aV), v717, v718⟩ : aO))) fun x722 =>
  bno (iP ((⟨v695, (⟨v696, v697, v698, v699, v700, v701, v702, v703, v704⟩ : aU), (⟨(⟨v705, v706, v707⟩ : bG), v708⟩ : bO), (⟨v709, v710, v711, v712⟩ : aV), (⟨v713, v714, v715, v716⟩ : aV), v717, v718⟩ : aO)) 0 9 9) fun x723 =>
  bnd (!decide (x719.2.1 = 0)) fun x724 =>
  bnd (!decide (x719.2.2 = 15)) fun x725 =>
  bnd (x724 || x725) fun x726 =>
  bnd (!decide (x720.2.1 = ([] : List UInt8))) fun x727 =>
  bnd (x726 || x727) fun x728 =>
  bnd (x728 || x720.2.2.1) fun x729 =>
  bnd (!decide (x720.2.2.2 = 15)) fun x730 =>
  bnd (x729 || x730) fun x731 =>
  bnd (!decide (x721.2.1 = 0)) fun x732 =>
  bnd (x731 || x732) fun x733 =>
  bnd (!decide (x721.2.2 = 0)) fun x734 =>
  bnd (x733 || x734) fun x735 =>
  bnd (!decide (x722.2 = 0)) fun x736 =>
  bnd (x735 || x736) fun x737 =>
  bnd (x737 || x723.2.2.2) fun x738 =>
  bno (gd (x738 == false) (lL ((⟨v695, (⟨v696, v697, v698, v699, v700, v701, v702, v703, v704⟩ : aU), (⟨(⟨v705, v706, v707⟩ : bG), v708⟩ : bO), (⟨v709, v710, v711, v712⟩ : aV), (⟨v713, v714, v715, v716⟩ : aV), v717, v718⟩ : aO)) 9) default) fun x739 =>
  bnd (x738 || x739) fun x740 =>
  bno (gd (x740 == false) (lM ((⟨v695, (⟨v696, v697, v698, v699, v700, v701, v702, v703, v704⟩ : aU), (⟨(⟨v705, v706, v707⟩ : bG), v708⟩ : bO), (⟨v709, v710, v711, v712⟩ : aV), (⟨v713, v714, v715, v716⟩ : aV), v717, v718⟩ : aO))) default) fun x741 =>
  bnd (x740 || (!x741)) fun x742 =>
  bno (gd (x742 == false) (jF x720.1 ((⟨v695, (⟨v696, v697, v698, v699, v700, v701, v702, v703, v704⟩ : aU), (⟨(⟨v705, v706, v707⟩ : bG), v708⟩ : bO), (⟨v709, v710, v711, v712⟩ : aV), (⟨v713, v714, v715, v716⟩ : aV), v717, v718⟩ : aO))) default) fun x743 =>
  bnd (x742 || (!x743)) fun x744 =>
  bno (gd (x744 == false) (jF x721.1 ((⟨v695, (⟨v696, v697, v698, v699, v700, v701, v702, v703, v704⟩ : aU), (⟨(⟨v705, v706, v707⟩ : bG), v708⟩ : bO), (⟨v709, v710, v711, v712⟩ : aV), (⟨v713, v714, v715, v716⟩ : aV), v717, v718⟩ : aO))) default) fun x745 =>
  bnd (x744 || (!x745)) fun x746 =>
  bif x746 then (
    some false
  ) else (
    bnd (IntKind.wrap .i64 (v630 + 1)) fun x748 =>
    kk3 x748
  )
def bY (v309 : Int) (kk1 : Int → Option Bool) (x567 : aO) (x569 : aO) : Nat → Int → Option Bool
  | 0, _ => none
  | n3 + 1, v630 =>
    bnd (decide (v630 < 2)) fun x691 =>
    bif x691 then (
      bnd (decide (v630 = 1)) fun x749 =>
      bif x749 then (
        eG (bY v309 kk1 x567 x569 n3) v630 x569.ID x569.Send.Base x569.Send.Data x569.Send.Next x569.Send.Pieces x569.Send.Lost x569.Send.Closed x569.Send.Sent x569.Send.Again x569.Send.Done x569.Recv.Recv.Base x569.Recv.Recv.Ready x569.Recv.Recv.Parts x569.Recv.End x569.Out.Window x569.Out.Limit x569.Out.Used x569.Out.Read x569.In.Window x569.In.Limit x569.In.Used x569.In.Read x569.Mine x569.Hers
      ) else (
        eG (bY v309 kk1 x567 x569 n3) v630 x567.ID x567.Send.Base x567.Send.Data x567.Send.Next x567.Send.Pieces x567.Send.Lost x567.Send.Closed x567.Send.Sent x567.Send.Again x567.Send.Done x567.Recv.Recv.Base x567.Recv.Recv.Ready x567.Recv.Recv.Parts x567.Recv.End x567.Out.Window x567.Out.Limit x567.Out.Used x567.Out.Read x567.In.Window x567.In.Limit x567.In.Used x567.In.Read x567.Mine x567.Hers
      )
    ) else (
      bno (iY x567 1) fun x751 =>
      bno (jF x751 x567) fun x752 =>
      bno (gd ((!x752) == false) (fK x569 1) default) fun x753 =>
      bno (gd ((!x752) == false) (jF x753 x569) default) fun x754 =>
      bnd ((!x752) || (!x754)) fun x755 =>
      bno (gd (x755 == false) (fK x567 7) default) fun x756 =>
      bnd (!decide (x756.Hers = 7)) fun x757 =>
      bnd (x755 || x757) fun x758 =>
      bno (gd (x758 == false) (iY x569 7) default) fun x759 =>
      bnd (!decide (x759.Mine = (-1))) fun x760 =>
      bnd (x758 || x760) fun x761 =>
      bif x761 then (
        some false
      ) else (
        bnd (IntKind.wrap .i64 (v309 + 1)) fun x763 =>
        kk1 x763
      )
    )
def eH (a2 : Int) (v309 : Int) (kk1 : Int → Option Bool) (v542 : Int) (v543 : Int) (v544 : (List UInt8)) (v545 : Int) (v546 : (List aJ)) (v547 : (List aF)) (v548 : Bool) (v549 : Bool) (v550 : Bool) (v551 : Bool) (v552 : Int) (v553 : (List UInt8)) (v554 : (List aN)) (v555 : Int) (v556 : Int) (v557 : Int) (v558 : Int) (v559 : Int) (v560 : Int) (v561 : Int) (v562 : Int) (v563 : Int) (v564 : Int) (v565 : Int) : Option Bool :=
  bnd (IntKind.wrap .i64 a2) fun x566 =>
  bno (iY ((⟨v542, (⟨v543, v544, v545, v546, v547, v548, v549, v550, v551⟩ : aU), (⟨(⟨v552, v553, v554⟩ : bG), v555⟩ : bO), (⟨v556, v557, v558, v559⟩ : aV), (⟨v560, v561, v562, v563⟩ : aV), v564, v565⟩ : aO)) x566) fun x567 =>
  bnd (IntKind.wrap .i64 a2) fun x568 =>
  bno (fK ((⟨v542, (⟨v543, v544, v545, v546, v547, v548, v549, v550, v551⟩ : aU), (⟨(⟨v552, v553, v554⟩ : bG), v555⟩ : bO), (⟨v556, v557, v558, v559⟩ : aV), (⟨v560, v561, v562, v563⟩ : aV), v564, v565⟩ : aO)) x568) fun x569 =>
  bY v309 kk1 x567 x569 fuel 0
def cO (a2 : Int) (v18 : Int) (v19 : Int) (v20 : (List UInt8)) (v21 : Int) (v22 : (List aJ)) (v23 : (List aF)) (v24 : Bool) (v25 : Bool) (v26 : Bool) (v27 : Bool) (v28 : Int) (v29 : (List UInt8)) (v30 : (List aN)) (v31 : Int) (v32 : Int) (v33 : Int) (v34 : Int) (v35 : Int) (v36 : Int) (v37 : Int) (v38 : Int) (v39 : Int) (v40 : Int) (v41 : Int) (v42 : Int) (v43 : Int) (v44 : (List UInt8)) (v45 : Int) (v46 : (List aJ)) (v47 : (List aF)) (v48 : Bool) (v49 : Bool) (v50 : Bool) (v51 : Bool) (v52 : Int) (v53 : (List UInt8)) (v54 : (List aN)) (v55 : Int) (v56 : Int) (v57 : Int) (v58 : Int) (v59 : Int) (v60 : Int) (v61 : Int) (v62 : Int) (v63 : Int) (v64 : Int) (v65 : Int) : Nat → Int → Option Bool
  | 0, _ => none
  | n1 + 1, v309 =>
    bnd (decide (v309 < 2)) fun x538 =>
    bif x538 then (
      bnd (decide (v309 = 1)) fun x764 =>
      bif x764 then (
        eH a2 v309 (cO a2 v18 v19 v20 v21 v22 v23 v24 v25 v26 v27 v28 v29 v30 v31 v32 v33 v34 v35 v36 v37 v38 v39 v40 v41 v42 v43 v44 v45 v46 v47 v48 v49 v50 v51 v52 v53 v54 v55 v56 v57 v58 v59 v60 v61 v62 v63 v64 v65 n1) v42 v43 v44 v45 v46 v47 v48 v49 v50 v51 v52 v53 v54 v55 v56 v57 v58 v59 v60 v61 v62 v63 v64 v65
      ) else (
        eH a2 v309 (cO a2 v18 v19 v20 v21 v22 v23 v24 v25 v26 v27 v28 v29 v30 v31 v32 v33 v34 v35 v36 v37 v38 v39 v40 v41 v42 v43 v44 v45 v46 v47 v48 v49 v50 v51 v52 v53 v54 v55 v56 v57 v58 v59 v60 v61 v62 v63 v64 v65 n1) v18 v19 v20 v21 v22 v23 v24 v25 v26 v27 v28 v29 v30 v31 v32 v33 v34 v35 v36 v37 v38 v39 v40 v41
      )
    ) else (
      bno (gV) fun x766 =>
      some x766
    )
def dL (a1 : (List cX)) (a2 : Int) : Nat → Int → Int → Int → (List UInt8) → Int → (List aJ) → (List aF) → Bool → Bool → Bool → Bool → Int → (List UInt8) → (List aN) → Int → Int → Int → Int → Int → Int → Int → Int → Int → Int → Int → Int → Int → (List UInt8) → Int → (List aJ) → (List aF) → Bool → Bool → Bool → Bool → Int → (List UInt8) → (List aN) → Int → Int → Int → Int → Int → Int → Int → Int → Int → Int → Int → (List bX) → (List UInt8) → (List UInt8) → Int → Bool → Option Bool
  | 0, _, _, _, _, _, _, _, _, _, _, _, _, _, _, _, _, _, _, _, _, _, _, _, _, _, _, _, _, _, _, _, _, _, _, _, _, _, _, _, _, _, _, _, _, _, _, _, _, _, _, _, _, _, _ => none
  | n0 + 1, v17, v18, v19, v20, v21, v22, v23, v24, v25, v26, v27, v28, v29, v30, v31, v32, v33, v34, v35, v36, v37, v38, v39, v40, v41, v42, v43, v44, v45, v46, v47, v48, v49, v50, v51, v52, v53, v54, v55, v56, v57, v58, v59, v60, v61, v62, v63, v64, v65, v66, v67, v68, v69, v70 =>
    bnd (decide (v17 < (a1.length : Int))) fun x76 =>
    bif x76 then (
      bno (gix a1 v17) fun x78 =>
      bno (cI x78 v18 v19 v20 v21 v22 v23 v24 v25 v26 v27 v28 v29 v30 v31 v32 v33 v34 v35 v36 v37 v38 v39 v40 v41 v42 v43 v44 v45 v46 v47 v48 v49 v50 v51 v52 v53 v54 v55 v56 v57 v58 v59 v60 v61 v62 v63 v64 v65 v67 v68 v69 v70 v66) fun x79 =>
      bnd (IntKind.wrap .i64 (v17 + 1)) fun x80 =>
      (dL a1 a2 n0) x80 x79.2.1 x79.2.2.1 x79.2.2.2.1 x79.2.2.2.2.1 x79.2.2.2.2.2.1 x79.2.2.2.2.2.2.1 x79.2.2.2.2.2.2.2.1 x79.2.2.2.2.2.2.2.2.1 x79.2.2.2.2.2.2.2.2.2.1 x79.2.2.2.2.2.2.2.2.2.2.1 x79.2.2.2.2.2.2.2.2.2.2.2.1 x79.2.2.2.2.2.2.2.2.2.2.2.2.1 x79.2.2.2.2.2.2.2.2.2.2.2.2.2.1 x79.2.2.2.2.2.2.2.2.2.2.2.2.2.2.1 x79.2.2.2.2.2.2.2.2.2.2.2.2.2.2.2.1 x79.2.2.2.2.2.2.2.2.2.2.2.2.2.2.2.2.1 x79.2.2.2.2.2.2.2.2.2.2.2.2.2.2.2.2.2.1 x79.2.2.2.2.2.2.2.2.2.2.2.2.2.2.2.2.2.2.1 x79.2.2.2.2.2.2.2.2.2.2.2.2.2.2.2.2.2.2.2.1 x79.2.2.2.2.2.2.2.2.2.2.2.2.2.2.2.2.2.2.2.2.1 x79.2.2.2.2.2.2.2.2.2.2.2.2.2.2.2.2.2.2.2.2.2.1 x79.2.2.2.2.2.2.2.2.2.2.2.2.2.2.2.2.2.2.2.2.2.2.1 x79.2.2.2.2.2.2.2.2.2.2.2.2.2.2.2.2.2.2.2.2.2.2.2.1 x79.2.2.2.2.2.2.2.2.2.2.2.2.2.2.2.2.2.2.2.2.2.2.2.2.1 x79.2.2.2.2.2.2.2.2.2.2.2.2.2.2.2.2.2.2.2.2.2.2.2.2.2.1 x79.2.2.2.2.2.2.2.2.2.2.2.2.2.2.2.2.2.2.2.2.2.2.2.2.2.2.1 x79.2.2.2.2.2.2.2.2.2.2.2.2.2.2.2.2.2.2.2.2.2.2.2.2.2.2.2.1 x79.2.2.2.2.2.2.2.2.2.2.2.2.2.2.2.2.2.2.2.2.2.2.2.2.2.2.2.2.1 x79.2.2.2.2.2.2.2.2.2.2.2.2.2.2.2.2.2.2.2.2.2.2.2.2.2.2.2.2.2.1 x79.2.2.2.2.2.2.2.2.2.2.2.2.2.2.2.2.2.2.2.2.2.2.2.2.2.2.2.2.2.2.1 x79.2.2.2.2.2.2.2.2.2.2.2.2.2.2.2.2.2.2.2.2.2.2.2.2.2.2.2.2.2.2.2.1 x79.2.2.2.2.2.2.2.2.2.2.2.2.2.2.2.2.2.2.2.2.2.2.2.2.2.2.2.2.2.2.2.2.1 x79.2.2.2.2.2.2.2.2.2.2.2.2.2.2.2.2.2.2.2.2.2.2.2.2.2.2.2.2.2.2.2.2.2.1 x79.2.2.2.2.2.2.2.2.2.2.2.2.2.2.2.2.2.2.2.2.2.2.2.2.2.2.2.2.2.2.2.2.2.2.1 x79.2.2.2.2.2.2.2.2.2.2.2.2.2.2.2.2.2.2.2.2.2.2.2.2.2.2.2.2.2.2.2.2.2.2.2.1 x79.2.2.2.2.2.2.2.2.2.2.2.2.2.2.2.2.2.2.2.2.2.2.2.2.2.2.2.2.2.2.2.2.2.2.2.2.1 x79.2.2.2.2.2.2.2.2.2.2.2.2.2.2.2.2.2.2.2.2.2.2.2.2.2.2.2.2.2.2.2.2.2.2.2.2.2.1 x79.2.2.2.2.2.2.2.2.2.2.2.2.2.2.2.2.2.2.2.2.2.2.2.2.2.2.2.2.2.2.2.2.2.2.2.2.2.2.1 x79.2.2.2.2.2.2.2.2.2.2.2.2.2.2.2.2.2.2.2.2.2.2.2.2.2.2.2.2.2.2.2.2.2.2.2.2.2.2.2.1 x79.2.2.2.2.2.2.2.2.2.2.2.2.2.2.2.2.2.2.2.2.2.2.2.2.2.2.2.2.2.2.2.2.2.2.2.2.2.2.2.2.1 x79.2.2.2.2.2.2.2.2.2.2.2.2.2.2.2.2.2.2.2.2.2.2.2.2.2.2.2.2.2.2.2.2.2.2.2.2.2.2.2.2.2.1 x79.2.2.2.2.2.2.2.2.2.2.2.2.2.2.2.2.2.2.2.2.2.2.2.2.2.2.2.2.2.2.2.2.2.2.2.2.2.2.2.2.2.2.1 x79.2.2.2.2.2.2.2.2.2.2.2.2.2.2.2.2.2.2.2.2.2.2.2.2.2.2.2.2.2.2.2.2.2.2.2.2.2.2.2.2.2.2.2.1 x79.2.2.2.2.2.2.2.2.2.2.2.2.2.2.2.2.2.2.2.2.2.2.2.2.2.2.2.2.2.2.2.2.2.2.2.2.2.2.2.2.2.2.2.2.1 x79.2.2.2.2.2.2.2.2.2.2.2.2.2.2.2.2.2.2.2.2.2.2.2.2.2.2.2.2.2.2.2.2.2.2.2.2.2.2.2.2.2.2.2.2.2.1 x79.2.2.2.2.2.2.2.2.2.2.2.2.2.2.2.2.2.2.2.2.2.2.2.2.2.2.2.2.2.2.2.2.2.2.2.2.2.2.2.2.2.2.2.2.2.2.1 x79.2.2.2.2.2.2.2.2.2.2.2.2.2.2.2.2.2.2.2.2.2.2.2.2.2.2.2.2.2.2.2.2.2.2.2.2.2.2.2.2.2.2.2.2.2.2.2.1 x79.2.2.2.2.2.2.2.2.2.2.2.2.2.2.2.2.2.2.2.2.2.2.2.2.2.2.2.2.2.2.2.2.2.2.2.2.2.2.2.2.2.2.2.2.2.2.2.2.1 x79.2.2.2.2.2.2.2.2.2.2.2.2.2.2.2.2.2.2.2.2.2.2.2.2.2.2.2.2.2.2.2.2.2.2.2.2.2.2.2.2.2.2.2.2.2.2.2.2.2.1 x79.2.2.2.2.2.2.2.2.2.2.2.2.2.2.2.2.2.2.2.2.2.2.2.2.2.2.2.2.2.2.2.2.2.2.2.2.2.2.2.2.2.2.2.2.2.2.2.2.2.2.1 x79.2.2.2.2.2.2.2.2.2.2.2.2.2.2.2.2.2.2.2.2.2.2.2.2.2.2.2.2.2.2.2.2.2.2.2.2.2.2.2.2.2.2.2.2.2.2.2.2.2.2.2.1 x79.2.2.2.2.2.2.2.2.2.2.2.2.2.2.2.2.2.2.2.2.2.2.2.2.2.2.2.2.2.2.2.2.2.2.2.2.2.2.2.2.2.2.2.2.2.2.2.2.2.2.2.2.1 x79.2.2.2.2.2.2.2.2.2.2.2.2.2.2.2.2.2.2.2.2.2.2.2.2.2.2.2.2.2.2.2.2.2.2.2.2.2.2.2.2.2.2.2.2.2.2.2.2.2.2.2.2.2
    ) else (
      cO a2 v18 v19 v20 v21 v22 v23 v24 v25 v26 v27 v28 v29 v30 v31 v32 v33 v34 v35 v36 v37 v38 v39 v40 v41 v42 v43 v44 v45 v46 v47 v48 v49 v50 v51 v52 v53 v54 v55 v56 v57 v58 v59 v60 v61 v62 v63 v64 v65 fuel 0
    )
def fS (a0 : Int) (a1 : (List cX)) (a2 : Int) : Option Bool :=
  bno (gU a1 60) fun x1 =>
  bif (!x1) then (
    bno (gV) fun x3 =>
    some x3
  ) else (
    bnd (IntKind.wrap .i64 a0) fun x4 =>
    bnd (IntKind.wrap .i64 (1 + x4)) fun x5 =>
    bno (kZ 5 x5 x5) fun x6 =>
    bno (kZ 5 x5 x5) fun x7 =>
    bnd (decide (x6.2 = 0)) fun x8 =>
    bnd (decide (x7.2 = 0)) fun x9 =>
    bnd (x8 && x9) fun x10 =>
    bif (!x10) then (
      some false
    ) else (
      dL a1 a2 fuel 0 x6.1.ID x6.1.Send.Base x6.1.Send.Data x6.1.Send.Next x6.1.Send.Pieces x6.1.Send.Lost x6.1.Send.Closed x6.1.Send.Sent x6.1.Send.Again x6.1.Send.Done x6.1.Recv.Recv.Base x6.1.Recv.Recv.Ready x6.1.Recv.Recv.Parts x6.1.Recv.End x6.1.Out.Window x6.1.Out.Limit x6.1.Out.Used x6.1.Out.Read x6.1.In.Window x6.1.In.Limit x6.1.In.Used x6.1.In.Read x6.1.Mine x6.1.Hers x7.1.ID x7.1.Send.Base x7.1.Send.Data x7.1.Send.Next x7.1.Send.Pieces x7.1.Send.Lost x7.1.Send.Closed x7.1.Send.Sent x7.1.Send.Again x7.1.Send.Done x7.1.Recv.Recv.Base x7.1.Recv.Recv.Ready x7.1.Recv.Recv.Parts x7.1.Recv.End x7.1.Out.Window x7.1.Out.Limit x7.1.Out.Used x7.1.Out.Read x7.1.In.Window x7.1.In.Limit x7.1.In.Used x7.1.In.Read x7.1.Mine x7.1.Hers ([] : (List bX)) ([] : (List UInt8)) ([] : (List UInt8)) 0 false
    )
  )
end Go.Fn
