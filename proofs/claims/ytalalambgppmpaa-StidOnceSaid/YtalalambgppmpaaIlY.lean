/-
  A part of the proof: rules and plain facts. No condition.
-/
import Derived.Test.YtalalambgppmpaaIlQ
set_option linter.all false
namespace Go.IL

/-! What is less known. -/
mutual
inductive Sub : D → D → Prop
  | refl (d) : Sub d d
  | nils (f) : Sub .nils (.slice f [])
  | full (l) : Sub (.slice true l) (.slice false l)
  | gsl (id sz l) : Sub (.gsl id sz l) (.slice false l)
  | dead (d) : Sub d .dead
  | agg {cs cs'} (h : SubL cs cs') : Sub (.agg cs) (.agg cs')
  | tuple {cs cs'} (h : SubL cs cs') : Sub (.tuple cs) (.tuple cs')
inductive SubL : List D → List D → Prop
  | nil : SubL [] []
  | cons {d d' ds ds'} (h : Sub d d') (t : SubL ds ds') : SubL (d :: ds) (d' :: ds')
end
mutual
theorem Rd.sub {E : Env} {β : Names} : ∀ {v : Value} {d d' : D}, Sub d d' → Rd E β v d → Rd E β v d'
  | _, _, _, .refl _, h => h
  | _, _, _, .nils f, .nils _ => .nslice _ f
  | _, _, _, .full l, .slice _ b off len cap sz _ vs _ hl hc hf hz hsz hr hv => .slice _ b off len cap sz false vs l hl hc (fun h => by cases h) hz hsz hr hv
  | _, _, _, .full _, .nslice _ _ => .nslice _ false
  | _, _, _, .gsl _ _ l, .gsl _ _ b len cap sz vs _ _ hl hc hz hsz hr hv _ _ _ _ _ _ => .slice _ b 0 len cap sz false vs l hl hc (fun h => by cases h) hz hsz hr hv
  | _, _, _, .gsl _ _ _, .ngsl _ _ _ => .nslice _ false
  | _, _, _, .dead _, _ => .dead _ _
  | _, _, _, .agg h, .agg _ vs _ hv => .agg _ vs _ (RdL.sub h hv)
  | _, _, _, .tuple h, .tuple _ vs _ hv => .tuple _ vs _ (RdL.sub h hv)
theorem RdL.sub {E : Env} {β : Names} : ∀ {vs : List Value} {ds ds' : List D}, SubL ds ds' → RdL E β vs ds → RdL E β vs ds'
  | _, _, _, .nil, .nil _ => .nil _
  | _, _, _, .cons h t, .cons hv tv => .cons (Rd.sub h hv) (RdL.sub t tv)
end

section
variable {P : Program} {O : Origin} {N : Nat} {S S' : St} {o : Oper} {t : Nat} {Q : Exit → St → Prop}
theorem SV.sub {x : Operand} {d d' : D} (h : SV S x d) (k : Sub d d') : SV S x d' := fun E β v hv => Rd.sub k (h E β v hv)

theorem Rel.subS {E : Env} {β : Names} {a : Act} (h : Rel O N S E β a) {d d' : D} (hS : S.get t = d) (k : Sub d d') : Rel O N (S.set t d') E β a := by
  refine ⟨h.n, h.nd, h.h, fun s => ?_⟩
  by_cases hs : t = s
  · subst hs
    have h1 := h.sl t
    rw [hS] at h1
    simpa [St.get, St.set, look_cons] using Rd.sub k h1
  · have := h.sl s
    simpa [St.get, St.set, look_cons, hs] using this
theorem Rel.subE {E : Env} {β : Names} {a : Act} (h : Rel O N S E β a) {id : Nat} {e : TypeId} {ds ds' : List D} (hE : S.ent id = .blk e ds) (k : SubL ds ds') : Rel O N (S.setE id (.blk e ds')) E β a := by
  have hsame : ∀ j, j ≠ id → (S.setE id (.blk e ds')).ent j = S.ent j := fun j hj => by simp [St.ent, entL, St.setE, look_cons, Ne.symm hj]
  have hid : (S.setE id (.blk e ds')).ent id = .blk e ds' := by simp [St.ent, entL, St.setE, look_cons]
  have hheld : ∀ j, ((S.setE id (.blk e ds')).ent j).held = true → (S.ent j).held = true := fun j hj => by
    by_cases h1 : j = id
    · subst h1; rw [hE]; rfl
    · rw [← hsame j h1]; exact hj
  refine ⟨h.n, h.nd, ?_, h.sl⟩
  refine { h.h with ent := fun j => ?_, inj := fun i j b hi hj h1 h2 => h.h.inj i j b (hheld i hi) (hheld j hj) h1 h2 }
  by_cases hj : j = id
  · subst hj
    have he := h.h.ent j
    rw [hE] at he
    rw [hid]
    rcases he with ⟨h1, h2⟩ | ⟨b, vs, sp, h1, h2, h3, h4, h5⟩
    · subst h2; cases k; exact .inl ⟨h1, rfl⟩
    · exact .inr ⟨b, vs, sp, h1, h2, h3, h4, RdL.sub k h5⟩
  · rw [hsame j hj]; exact h.h.ent j
theorem iwp_subS {c : Code} (t : Nat) {d d' : D} (hS : S.get t = d) (k : Sub d d') (h : IWP P O N c (S.set t d') Q) : IWP P O N c S Q := fun E β a hr => h E β a (hr.subS hS k)
theorem iwp_subE {c : Code} (id : Nat) {e : TypeId} {ds ds' : List D} (hE : S.ent id = .blk e ds) (k : SubL ds ds') (h : IWP P O N c (S.setE id (.blk e ds')) Q) : IWP P O N c S Q := fun E β a hr => h E β a (hr.subE hE k)
theorem ils_subS {ops : Array Oper} {c : List Oper} (t : Nat) {d d' : D} (hS : S.get t = d) (k : Sub d d') (h : ILS P O N ops c (S.set t d') Q) : ILS P O N ops c S Q := fun E β a hr => h E β a (hr.subS hS k)
theorem ils_subE {ops : Array Oper} {c : List Oper} (id : Nat) {e : TypeId} {ds ds' : List D} (hE : S.ent id = .blk e ds) (k : SubL ds ds') (h : ILS P O N ops c (S.setE id (.blk e ds')) Q) : ILS P O N ops c S Q := fun E β a hr => h E β a (hr.subE hE k)
end
end Go.IL
