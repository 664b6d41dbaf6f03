/-
  A part of the proof: rules and plain facts. No condition.
-/
import Derived.Test.YtalalambgppmpaaIlU
set_option linter.all false
namespace Go.IL
section
variable {P : Program} {O : Origin} {N : Nat} {S S' : St} {o : Oper} {t : Nat} {Q : Exit → St → Prop}

/-- What is owned, is written no more. -/
theorem Rel.freeze {E : Env} {β : Names} {a : Act} (h : Rel O N S E β a) {id len sz : Nat} {e : TypeId} {ds l : List D} (hS : ∃ q, S.get t = .osl id q len) (he : S.ent id = .blk e ds) (hl : D.flat l = ds) (hn : l.length = len)
    (hz : ∀ d ∈ l, d.cells.length = sz) (hsp : 0 < sz) (hp : D.refsInL noRef ds = true) : ∃ E', E'.w = E.w ∧ Rel O N ((S.setE id .none).set t (.slice false l)) E' β a := by
  have hent := h.h.ent id
  rw [he] at hent
  have hkey : ∀ i, (((S.setE id .none).set t (.slice false l)).ent i).held = true → (S.ent i).held = true := fun i hi => by
    by_cases hii : id = i
    · subst hii; simp [St.ent, entL, St.setE, St.set, look_cons, Ent.held] at hi
    · simpa [St.ent, entL, St.setE, St.set, look_cons, hii] using hi
  have hval : (a.tmps.getD t undef = .slice none 0 0 ∧ len = 0) ∨ ∃ b cap, β id = some b ∧ a.tmps.getD t undef = .slice (some ⟨b, 0, none⟩) len cap ∧ len ≤ cap := by
    have h1 := h.sl t
    generalize a.tmps.getD t undef = v at h1
    obtain ⟨q, hS⟩ := hS
    · rw [hS] at h1
      cases h1 with
      | osl _ _ b _ cap _ hb hc => exact .inr ⟨b, cap, hb, rfl, hc⟩
      | nosl => exact .inl ⟨rfl, rfl⟩
  rcases hval with ⟨hv0, hlen0⟩ | ⟨b, cap, hβ, hvv, hcap⟩
  · refine ⟨E, rfl, h.n, h.nd, ?_, ?_⟩
    · refine { h.h with ent := fun j => ?_, inj := fun i j k hi hj h1 h2 => h.h.inj i j k (hkey i hi) (hkey j hj) h1 h2 }
      by_cases hj : id = j
      · subst hj
        have : ((S.setE id .none).set t (.slice false l)).ent id = .none := by simp [St.ent, entL, St.setE, St.set, look_cons]
        rw [this]; trivial
      · have : ((S.setE id .none).set t (.slice false l)).ent j = S.ent j := by simp [St.ent, entL, St.setE, St.set, look_cons, hj]
        rw [this]; exact h.h.ent j
    · intro s
      by_cases hs : t = s
      · subst hs
        simp only [St.get, St.set, look_cons, if_true, hv0]
        have : l = [] := List.length_eq_zero_iff.1 (hn.trans hlen0)
        subst this; exact .nslice _ _
      · simpa [St.get, St.set, St.setE, look_cons, hs] using h.sl s
  · obtain ⟨vs, sp, hown, hh, hX, hv⟩ := blk_at hent hβ
    let E' : Env := ⟨E.w, fun k o => k ≠ b ∧ E.X k o⟩
    have hle : E.le E' := ⟨fun k o v h1 h2 => ⟨h1, fun h3 => h2 h3.2⟩, fun k c e f h1 => ⟨c, f, h1, rfl⟩⟩
    have hbn : ¬ (b < O.w.heap.size ∧ ¬ O.foot b) := fun ⟨h1, h2⟩ => by rcases hown with h3 | h3; omega; exact h2 h3
    refine ⟨E', rfl, h.n, h.nd, ?_, ?_⟩
    · exact {
        os := h.h.os, tape := h.h.tape, output := h.h.output, size := h.h.size, block := h.h.block
        xlt := fun k o hk => h.h.xlt k o hk.2
        xold := fun k o hk hf => by
          have hne : k ≠ b := fun he => hbn ⟨he ▸ hk, he ▸ hf⟩
          show (k ≠ b ∧ E.X k o) ↔ _
          rw [← h.h.xold k o hk hf]; exact ⟨fun h => h.2, fun h => ⟨hne, h⟩⟩
        ent := fun j => by
          by_cases hj : id = j
          · subst hj
            have : ((S.setE id .none).set t (.slice false l)).ent id = .none := by simp [St.ent, entL, St.setE, St.set, look_cons]
            rw [this]; trivial
          · have : ((S.setE id .none).set t (.slice false l)).ent j = S.ent j := by simp [St.ent, entL, St.setE, St.set, look_cons, hj]
            rw [this]
            have hej := h.h.ent j
            cases hE : S.ent j with
            | none => trivial
            | fresh => rw [hE] at hej; exact hej
            | blk e2 ds2 =>
              rw [hE] at hej
              rcases hej with h1 | ⟨b2, vs2, sp2, h1, h2, h3, h4, h5⟩
              · exact .inl h1
              · have hne : b2 ≠ b := fun hb => hj (h.h.inj id j b (by rw [he]; rfl) (by rw [hE]; rfl) hβ (hb ▸ h1))
                exact .inr ⟨b2, vs2, sp2, h1, h2, h3, fun o => ⟨hne, h4 o⟩, RdL.mono hle (Names.le.refl _) h5⟩
            | tail e2 sz2 n2 =>
              rw [hE] at hej
              rcases hej with h1 | ⟨b2, c2, h1, h2, h3, h4⟩
              · exact .inl h1
              · have hne : b2 ≠ b := fun hb => hj (h.h.inj id j b (by rw [he]; rfl) (by rw [hE]; rfl) hβ (hb ▸ h1))
                exact .inr ⟨b2, c2, h1, h2, h3, fun o ho => ⟨hne, h4 o ho⟩⟩
            | loop lk es st pe =>
              rw [hE] at hej
              obtain ⟨b2, q, h1, h2, h3, h4, h5, h6, h7, h8, h9, h10⟩ := hej
              have hne : b2 ≠ b := fun hb => hj (h.h.inj id j b (by rw [he]; rfl) (by rw [hE]; rfl) hβ (hb ▸ h1))
              exact ⟨b2, q, h1, h2, h3, fun o => ⟨hne, h4 o⟩, h5, h6, h7, h8, h9, h10.1, RdL.mono hle (Names.le.refl _) h10.2⟩
            | kept n es =>
              rw [hE] at hej
              exact ⟨RdL.mono hle (Names.le.refl _) hej.1, hej.2⟩
        inj := fun i j k hi hj h1 h2 => h.h.inj i j k (hkey i hi) (hkey j hj) h1 h2
        le := h.h.le.trans hle
        gid := h.h.gid
        given := h.h.given }
    · intro s
      by_cases hs : t = s
      · subst hs
        simp only [St.get, St.set, look_cons, if_true, hvv]
        subst hl
        refine .slice _ _ _ _ _ sz false vs l hn hcap (by simp) hz hsp (fun k v hk => ⟨?_, fun h => h.1 rfl⟩) ((RdL.mono hle (Names.le.refl _) hv).bare hp)
        rw [Nat.zero_add]
        show E.w.cell? _ = _
        have hlt := (List.getElem?_eq_some_iff.1 hk).1
        rw [cell_of_row _ _ _ _ _ _ hh]; simpa [List.getElem?_append_left hlt] using hk
      · have := Rd.mono hle (Names.le.refl _) (h.sl s)
        simpa [St.get, St.set, St.setE, look_cons, hs] using this

theorem iwp_freeze {c : Code} (t : Nat) {id len sz : Nat} {e : TypeId} {ds l : List D} (hS : ∃ q, S.get t = .osl id q len) (he : S.ent id = .blk e ds) (hl : D.flat l = ds) (hn : l.length = len)
    (hz : ∀ d ∈ l, d.cells.length = sz) (hsp : 0 < sz) (hp : D.refsInL noRef ds = true) (h : IWP P O N c ((S.setE id .none).set t (.slice false l)) Q) : IWP P O N c S Q := by
  intro E β a hr
  obtain ⟨E', hw, hr'⟩ := hr.freeze hS he hl hn hz hsp hp
  rw [← hw]; exact h E' β a hr'
theorem ils_freeze {ops : Array Oper} {c : List Oper} (t : Nat) {id len sz : Nat} {e : TypeId} {ds l : List D} (hS : ∃ q, S.get t = .osl id q len) (he : S.ent id = .blk e ds) (hl : D.flat l = ds) (hn : l.length = len)
    (hz : ∀ d ∈ l, d.cells.length = sz) (hsp : 0 < sz) (hp : D.refsInL noRef ds = true) (h : ILS P O N ops c ((S.setE id .none).set t (.slice false l)) Q) : ILS P O N ops c S Q := by
  intro E β a hr
  obtain ⟨E', hw, hr'⟩ := hr.freeze hS he hl hn hz hsp hp
  rw [← hw]; exact h E' β a hr'

theorem rdl_replicate {E : Env} {β : Names} {v : Value} {d : D} (h : Rd E β v d) : ∀ (m : Nat), RdL E β (List.replicate m v) (List.replicate m d)
  | 0 => .nil _
  | m + 1 => .cons h (rdl_replicate h m)

theorem splice_set {ds : List D} {off : Nat} {d : D} (h : off < ds.length) : splice ds off [d] = ds.set off d := by
  rw [splice, List.set_eq_take_append_cons_drop, if_pos h]
  simp

/-- A store at a reckoned place. -/
theorem iop_store_at {T : TypeId} {x y : Operand} {z : Option Value} {bytes : Nat} {id off : Nat} {e : TypeId} {ds ds' : List D} {d : D} (ho : o.op = .store T x y) (hd : o.dst = none)
    (hi : TI P T z 1 bytes) (hx : SV S x (.ref id off)) (he : S.ent id = .blk e ds) (hy : SV S y d) (h1 : d.one = true) (hn : off < ds.length) (hds : ds.set off d = ds') : IOp P O N o S (S.setE id (.blk e ds')) :=
  iop_store_ref ho hd hi hx he hy (by cases d <;> first | rfl | (simp [D.one, D.boxable] at h1)) (by cases d <;> first | rfl | (simp [D.one] at h1)) (by cases d <;> first | (simp [D.cells]; exact h1) | (simp [D.one] at h1)) (by omega)
    (by rw [← hds, ← splice_set hn]; congr 1; cases d <;> first | rfl | (simp [D.one] at h1))

theorem drop_at {ds : List D} {off : Nat} {d : D} (h : ds[off]? = some d) : ds.drop off = d :: ds.drop (off + 1) := by
  have hlt := (List.getElem?_eq_some_iff.1 h).1
  rw [List.drop_eq_getElem_cons hlt, (List.getElem?_eq_some_iff.1 h).2]

theorem iop_shl64 {xt yt : TypeId} {x y : Operand} {k' : IntKind} {a b : Int} {n : Nat} (ho : o.op = .binOp .shl xt x y yt) (hd : o.dst = some t) (ht : t < N)
    (hx : SV S x (.int .i64 a)) (hy : SV S y (.int k' b)) (hb : b = n) (hn : n ≤ 64) (h1 : -9223372036854775808 ≤ a * 2 ^ n) (h2 : a * 2 ^ n ≤ 9223372036854775807) : IOp P O N o S (S.set t (.int .i64 (a * 2 ^ n))) := by
  have := iop_shl (P := P) (O := O) ho hd ht hx hy hb hn
  rwa [wrap64 h1 h2] at this

theorem svng {x : Operand} {id sz : Nat} (h : S.op x = .nils) : SV S x (.gsl id sz []) := fun E β v k => by
  rw [h] at k; cases k; exact .ngsl _ _ _

end
end Go.IL
