/-
  A part of the proof: rules and plain facts. No condition.
-/
import Derived.Test.YtalalambgppmpaaIlK
import Derived.Laws.IdiomStrings
set_option linter.all false
namespace Go.IL
open RowKit (Below)
section
variable {P : Program} {O : Origin} {N : Nat} {S S' : St} {o : Oper} {t : Nat}

theorem bs_toList (l : List UInt8) : (bs l).toList = l := by simp [bs]

def str2 (op : BinOp) (a b : List UInt8) : Option D :=
  match op with
  | .eql => some (.bool (decide (a = b)))
  | .neq => some (.bool (!decide (a = b)))
  | .lss => some (.bool (Op.bytesLess a b))
  | _ => none

theorem iop_str2 {op : BinOp} {xt yt : TypeId} {x y : Operand} {a b : List UInt8} {d : D} (ho : o.op = .binOp op xt x y yt) (hd : o.dst = some t) (ht : t < N)
    (hx : SV S x (.str a)) (hy : SV S y (.str b)) (hr : str2 op a b = some d) : IOp P O N o S (S.set t d) :=
  iop_of hd ht fun E β ac hrel => by
    have h1 := rd_str (hx.rd hrel)
    have h2 := rd_str (hy.rd hrel)
    have e : (a == b) = decide (a = b) := by by_cases h : a = b <;> simp [h]
    cases op <;> simp only [str2, Option.some.injEq, reduceCtorEq] at hr <;> subst hr
    all_goals (refine ⟨_, ?_, .bool _ _⟩; simp [execOp, ho, h1, h2, eqGuard, binOp, Op.stringOp, bs_toList, e])

theorem iop_cat {xt yt : TypeId} {x y : Operand} {a b c : List UInt8} (ho : o.op = .binOp .add xt x y yt) (hd : o.dst = some t) (ht : t < N)
    (hx : SV S x (.str a)) (hy : SV S y (.str b)) (hc : a ++ b = c) (hl : c.length ≤ 9223372036854775807) : IOp P O N o S (S.set t (.str c)) :=
  iop_of hd ht fun E β ac hrel => by
    have h1 := rd_str (hx.rd hrel)
    have h2 := rd_str (hy.rd hrel)
    subst hc
    refine ⟨.string (bs (a ++ b)), ?_, .str _ _⟩
    have h3 := run_string_add_sum (P := P) (w := E.w) (bs a) (bs b) (by simpa [bs_size] using hl)
    have h4 : bs a ++ bs b = bs (a ++ b) := by simp only [bs]; exact ByteArray.mk_append_mk a b
    rw [h4] at h3
    simp [execOp, ho, h1, h2, eqGuard, binOp, h3]

theorem flat_byteD (l : List UInt8) : D.flat (l.map byteD) = l.map byteD := by
  induction l with
  | nil => rfl
  | cons c l ih => simp only [D.flat, List.map_cons, List.flatMap_cons] at ih ⊢; rw [ih]; rfl

theorem rdl_bytes {E : Env} {β : Names} : ∀ {vs : List Value} {l : List UInt8}, RdL E β vs (l.map byteD) → vs = l.map fun c => .int .u8 c.toNat
  | _, [], .nil _ => rfl
  | _, c :: l, .cons h t => by
    simp only [List.map_cons]
    rw [rdl_bytes t, rd_int (k := .u8) (n := c.toNat) h]

theorem rdl_of_bytes (E : Env) (β : Names) : ∀ (l : List UInt8), RdL E β (l.map fun c => .int .u8 c.toNat) (l.map byteD)
  | [] => .nil _
  | c :: l => .cons (.int _ _ _) (rdl_of_bytes E β l)

/-- 'string(b)'. -/
theorem iop_bytes_str {T e dst : TypeId} {x : Operand} {f : Bool} {l : List UInt8} (ho : o.op = .convert T dst x) (hd : o.dst = some t) (ht : t < N) (hu : P.underlying T = some (.slice e)) (he : P.underlying e = some (.int .u8)) (hdst : P.underlying dst = some .string)
    (hx : SV S x (.slice f (l.map byteD))) : IOp P O N o S (S.set t (.str l)) :=
  iop_of hd ht fun E β a hr => by
    refine ⟨.string (bs l), ?_, .str _ _⟩
    rcases rd_slice (hx.rd hr) with ⟨hev, hl⟩ | ⟨b, off, cap, sz, vs, hev, hc, _, hz, hsp, hrow, hvs⟩ | ⟨ad, cap, hev, hl⟩
    rotate_right
    · have hl0 : l = [] := by simpa using hl
      subst hl0
      have hz := run_loadCells_list (P := P) E.w ad [] (fun j v hj => by simp at hj)
      have := run_convert_bytes_string E.w T dst e (some ad) 0 cap hu he hdst (P := P)
      simp only [List.length_nil] at hz
      simp [execOp, ho, hev, this, Conv.bytesToString, Sem.run_bind, hz]
      rfl
    · have hl0 : l = [] := by simpa using hl
      subst hl0
      have := run_convert_bytes_nil (P := P) E.w T e hu he 0 0 dst hdst
      simp [execOp, ho, hev, this]
      rfl
    · rw [flat_byteD] at hvs
      have hv := rdl_bytes hvs
      have h1 := run_convert_bytes_arg (P := P) E.w T e hu he b off l.length cap (l.map fun c => (c.toNat : Int)) (by simp) (fun i hi => by
        have := (hrow i (.int .u8 (l[i]).toNat) (by rw [hv]; simp [hi])).1
        rw [this]; simp [List.getD, hi]) dst hdst
      have h2 : strOfNums (l.map fun c => (c.toNat : Int)) = bs l := by
        have : ∀ s t : ByteArray, s.data.toList = t.data.toList → s = t := fun s t h => by
          cases s; cases t; congr; exact Array.toList_inj.1 h
        apply this
        rw [strOfNums_data]
        simp [bs, List.map_map, Function.comp_def]
      rw [h2] at h1
      simp only [List.length_map] at hev
      simp [execOp, ho, hev, h1]

/-- '[]byte(s)'. -/
theorem iop_str_bytes {T e dst : TypeId} {x : Operand} {l : List UInt8} (ho : o.op = .convert T dst x) (hd : o.dst = some t) (ht : t < N) (hu : P.underlying T = some .string) (hdst : P.underlying dst = some (.slice e)) (he : P.underlying e = some (.int .u8))
    (hx : SV S x (.str l)) : IOp P O N o S (S.set t (.slice false (l.map byteD))) :=
  iop_below hd ht fun E β a hr => by
    have hev := rd_str (hx.rd hr)
    have h1 := run_bytes_of_string (P := P) E.w T dst e (bs l) hu hdst he
    have hrun : (execOp a.eval o).run P E.w = .ok (.value (.slice (some ⟨E.w.heap.size, 0, none⟩) (bs l).size (grownCap E.w (bs l).size 0 e)))
      (E.w.drew.alloc (.cells (bytesRow (bs l) (grownCap E.w (bs l).size 0 e)) e ((bytesRow (bs l) (grownCap E.w (bs l).size 0 e)).size, (bytesRow (bs l) (grownCap E.w (bs l).size 0 e)).size + 1))) := by
      simp only [execOp, ho, hev, Sem.run_bind, h1, Result.andThen_ok, Sem.run_pure]
    refine ⟨_, _, hrun, ?_, ?_⟩
    · exact ((RowKit.Below.refl _ _).drew).alloc (Nat.le_refl _) _
    · have hrow : (⟨E.w.drew.alloc (.cells (bytesRow (bs l) (grownCap E.w (bs l).size 0 e)) e ((bytesRow (bs l) (grownCap E.w (bs l).size 0 e)).size, (bytesRow (bs l) (grownCap E.w (bs l).size 0 e)).size + 1)), E.X⟩ : Env).row E.w.heap.size 0 (l.map fun c => .int .u8 c.toNat) := fun k v hk => by
        refine ⟨?_, fun h => by have := hr.h.xlt _ _ h; omega⟩
        rw [Nat.zero_add]
        refine (cell_of_row _ E.w.heap.size k _ _ _ (heap_alloc_new E.w.drew _)).trans ?_
        have hlt : k < l.length := by have := (List.getElem?_eq_some_iff.1 hk).1; simpa using this
        simp only [bytesRow]
        rw [Array.getElem?_append_left (by simpa [bs] using hlt)]
        simpa [bs] using hk
      have hg := grownCap_ge E.w (bs l).size 0 e
      rw [bs_size] at hg ⊢
      exact .slice _ _ 0 l.length _ 1 false _ _ (by simp) hg (by simp) (by intro d hd; obtain ⟨c, _, rfl⟩ := List.mem_map.1 hd; rfl) (by omega) hrow (by rw [flat_byteD]; exact rdl_of_bytes _ _ l)

/-- 'max', 'min' of whole numbers. -/
theorem iop_max2 {x y : Operand} {ts : Array TypeId} {k : IntKind} {a b c : Int} (ho : o.op = .call { callee := .builtin .max, args := #[x, y], argTypes := ts }) (hd : o.dst = some t) (ht : t < N)
    (hx : SV S x (.int k a)) (hy : SV S y (.int k b)) (hc : max a b = c) : IOp P O N o S (S.set t (.int k c)) :=
  iop_of hd ht fun E β ac hr => ⟨.int k c, by
    subst hc
    have : (if a < b then b else a) = max a b := by split <;> omega
    simp [execOp, ho, resolve, invoke, builtin, Builtin.max_, Builtin.max2, rd_int (hx.rd hr), rd_int (hy.rd hr), this], .int _ _ _⟩
theorem iop_min2 {x y : Operand} {ts : Array TypeId} {k : IntKind} {a b c : Int} (ho : o.op = .call { callee := .builtin .min, args := #[x, y], argTypes := ts }) (hd : o.dst = some t) (ht : t < N)
    (hx : SV S x (.int k a)) (hy : SV S y (.int k b)) (hc : min a b = c) : IOp P O N o S (S.set t (.int k c)) :=
  iop_of hd ht fun E β ac hr => ⟨.int k c, by
    subst hc
    have : (if b < a then b else a) = min a b := by split <;> omega
    simp [execOp, ho, resolve, invoke, builtin, Builtin.min_, Builtin.min2, rd_int (hx.rd hr), rd_int (hy.rd hr), this], .int _ _ _⟩

/-! ### weakening: slots are forgotten, names are given anew -/

def St.held (S : St) (id : Nat) : Bool := (S.ent id).held
def St.okn (S : St) (id : Nat) : Bool := S.held id || Nat.ble 1000 id

inductive SlW (S S' : St) (ρ : Nat → Nat) : Nat → D → Prop
  | same {t d} (h : S.get t = d.ren ρ) (hr : d.refsIn S'.okn = true) : SlW S S' ρ t d
  | coe {t d} (h : SV S (.tmp t) d) (hr : d.refsIn noRef = true) : SlW S S' ρ t d
  | nils {t id sz} (h : S.get t = .nils) : SlW S S' ρ t (.gsl id sz [])
  | nilo {t id sz} (h : S.get t = .nils) : SlW S S' ρ t (.osl id sz 0)

/-- Cells that are nil, or grown, may be taken as less known. -/
inductive SubC : List D → List D → Prop
  | nil : SubC [] []
  | same {d ds ds'} (t : SubC ds ds') : SubC (d :: ds) (d :: ds')
  | nilg {id sz ds ds'} (t : SubC ds ds') : SubC (.nils :: ds) (.gsl id sz [] :: ds')
  | nilo {id sz ds ds'} (t : SubC ds ds') : SubC (.nils :: ds) (.osl id sz 0 :: ds')
  | nils {f ds ds'} (t : SubC ds ds') : SubC (.nils :: ds) (.slice f [] :: ds')
  | gsl {id sz l ds ds'} (t : SubC ds ds') : SubC (.gsl id sz l :: ds) (.slice false l :: ds')
theorem RdL.subC {E : Env} {β : Names} {ds ds' : List D} (h : SubC ds ds') : ∀ {vs : List Value}, RdL E β vs ds → RdL E β vs ds' := by
  induction h with
  | nil => exact fun h => h
  | same t ih => intro vs h; cases h with | cons h k => exact .cons h (ih k)
  | nilg t ih => intro vs h; cases h with | cons h k => cases h; exact .cons (.ngsl _ _ _) (ih k)
  | nilo t ih => intro vs h; cases h with | cons h k => cases h; exact .cons (.nosl _ _ _) (ih k)
  | nils t ih => intro vs h; cases h with | cons h k => cases h; exact .cons (.nslice _ _) (ih k)
  | gsl t ih =>
    intro vs h
    cases h with
    | cons h k =>
      refine .cons ?_ (ih k)
      cases h with
      | gsl _ _ b len cap _ vs _ hβ hl hc hz hsz hr hv c e f h1 h2 h3 => exact .slice _ _ _ _ _ _ _ _ _ hl hc (by simp) hz hsz hr hv
      | ngsl => exact .nslice _ _

inductive EntW (S S' : St) (ρ : Nat → Nat) : Nat → Ent → Prop
  | blk {id e ds ds'} (h : S.ent (ρ id) = .blk e ds') (hd : ds' = D.renL ρ ds) (hr : D.refsInL S'.okn ds = true) : EntW S S' ρ id (.blk e ds)
  | sub {id e ds ds'} (h : S.ent (ρ id) = .blk e ds') (hd : SubC ds' (D.renL ρ ds)) (hr : D.refsInL S'.okn ds = true) : EntW S S' ρ id (.blk e ds)
  | tail {id e sz n} (h : S.ent (ρ id) = .tail e sz n) : EntW S S' ρ id (.tail e sz n)
  | nils {id e sz} (h : S.ent (ρ id) = .fresh) : EntW S S' ρ id (.tail e sz 0)
  | nilb {id e} (h : S.ent (ρ id) = .fresh) : EntW S S' ρ id (.blk e [])
  | loop {id k ds ds' st pend} (h : S.ent (ρ id) = .loop k ds' st pend) (hd : ds' = D.renL ρ ds) (hr : D.refsInL S'.okn ds = true) : EntW S S' ρ id (.loop k ds st pend)
  | kept {id k ds ds'} (h : S.ent (ρ id) = .kept k ds') (hd : ds' = D.renL ρ ds) (hr : D.refsInL S'.okn ds = true) : EntW S S' ρ id (.kept k ds)

inductive AllW {α : Type} (p : Nat → α → Prop) : List (Nat × α) → Prop
  | nil : AllW p []
  | cons {t d r} (h : p t d) (k : AllW p r) : AllW p ((t, d) :: r)
theorem AllW.mem {α : Type} {p : Nat → α → Prop} : ∀ {l : List (Nat × α)}, AllW p l → ∀ t d, (t, d) ∈ l → p t d
  | _, .nil, _, _, h => by cases h
  | _, .cons h k, t, d, hm => by
    cases hm with
    | head => exact h
    | tail _ hm => exact k.mem t d hm

structure Weak (S S' : St) (ρ : Nat → Nat) : Prop where
  sl : AllW (SlW S S' ρ) S'.sl
  ent : AllW (EntW S S' ρ) S'.H
  inj : (S'.H.map fun x => ρ x.1).Nodup
  fixed : ∀ i, 1000 ≤ i → ρ i = i

theorem renL_nil {ρ : Nat → Nat} {ds : List D} (h : D.renL ρ ds = []) : ds = [] := by
  cases ds with
  | nil => rfl
  | cons d ds => simp [D.renL] at h

theorem look_mem {α : Type} {z : α} {t : Nat} : ∀ {l : List (Nat × α)}, look z t l = z ∨ (t, look z t l) ∈ l
  | [] => .inl rfl
  | (s, d) :: r => by
    rw [look_cons]
    by_cases h : s = t
    · subst h; simp
    · rw [if_neg h]
      rcases look_mem (z := z) (t := t) (l := r) with h1 | h1
      · exact .inl h1
      · exact .inr (by simp [h1])

theorem nodup_map_inj {α : Type} {ρ : Nat → Nat} : ∀ {l : List (Nat × α)}, (l.map fun x => ρ x.1).Nodup → ∀ {i j : Nat} {a b : α}, (i, a) ∈ l → (j, b) ∈ l → ρ i = ρ j → i = j
  | [], _, _, _, _, _, h, _, _ => by cases h
  | (k, c) :: r, hn, i, j, a, b, hi, hj, he => by
    simp only [List.map_cons, List.nodup_cons, List.mem_map, not_exists, not_and] at hn
    cases hi with
    | head => cases hj with
      | head => rfl
      | tail _ hj => exact absurd he.symm (hn.1 (j, b) hj)
    | tail _ hi => cases hj with
      | head => exact absurd he (hn.1 (i, a) hi)
      | tail _ hj => exact nodup_map_inj hn.2 hi hj he

theorem Rel.weak' {E : Env} {β : Names} {a : Act} (h : Rel O N S E β a) {ρ : Nat → Nat} (hw : Weak S S' ρ) : ∃ β', Rel O N S' E β' a ∧ ∀ id, S'.okn id = true → β' id = β (ρ id) := by
  let β' : Names := fun id => if S'.held id = true then β (ρ id) else if 1000 ≤ id then β id else none
  have hp : ∀ id, S'.okn id = true → β' id = β (ρ id) := fun id hid => by
    by_cases hh : S'.held id = true
    · simp [β', hh]
    · have h1 : 1000 ≤ id := by simpa [St.okn, hh] using hid
      simp [β', hh, h1, hw.fixed id h1]
  have hph : ∀ id, S'.held id = true → β' id = β (ρ id) := fun id hid => by simp [β', hid]
  have key : ∀ id e, S'.ent id = e → e ≠ .none → e ≠ .fresh → (id, e) ∈ S'.H := fun id e he h1 h2 => by
    rcases look_mem (z := defE id) (t := id) (l := S'.H) with h4 | h4
    · have h5 : S'.ent id = defE id := h4
      rw [he] at h5
      unfold defE at h5
      split at h5
      · exact absurd h5 h1
      · exact absurd h5 h2
    · rw [← he]; exact h4
  have keyh : ∀ id, S'.held id = true → (id, S'.ent id) ∈ S'.H := fun id hid => by
    refine key id _ rfl ?_ ?_ <;> (intro h5; rw [St.held, h5] at hid; cases hid)
  refine ⟨β', ⟨h.n, h.nd, { h.h with ent := fun id => ?_, inj := fun i j b hi hj hbi hbj => ?_, given := fun i b hi => ?_ }, fun t => ?_⟩, hp⟩
  · cases hh : S'.held id with
    | false =>
      cases hE : S'.ent id with
      | none => trivial
      | fresh =>
        show β' id = none
        by_cases h1000 : 1000 ≤ id
        · exfalso
          rcases look_mem (z := defE id) (t := id) (l := S'.H) with h4 | h4
          · have h5 : S'.ent id = defE id := h4
            rw [hE] at h5
            simp [defE, h1000] at h5
          · have h5 : (id, Ent.fresh) ∈ S'.H := by
              have : look (defE id) id S'.H = .fresh := hE
              rwa [this] at h4
            have := hw.ent.mem id _ h5
            cases this
        · simp [β', hh, h1000]
      | blk => rw [St.held, hE] at hh; cases hh
      | tail => rw [St.held, hE] at hh; cases hh
      | loop => rw [St.held, hE] at hh; cases hh
      | kept k ds =>
        have h4 := hw.ent.mem id _ (key id _ hE (by simp) (by simp))
        have h5 := h.h.ent (ρ id)
        cases h4 with
        | kept hS hd hr =>
          rw [hS] at h5
          subst hd
          exact ⟨RdL.ren hp _ h5.1 hr, h5.2⟩
    | true =>
      have h4 := hw.ent.mem id _ (keyh id hh)
      have hb : β' id = β (ρ id) := hph id hh
      have h5 := h.h.ent (ρ id)
      generalize hE : S'.ent id = e at h4
      cases h4 with
      | blk hS hd hr =>
        rw [hS] at h5
        subst hd
        rcases h5 with ⟨h6, h7⟩ | ⟨b, vs, sp, h7, h8, h9, h10, h11⟩
        · exact .inl ⟨hb.trans h6, renL_nil h7⟩
        · exact .inr ⟨b, vs, sp, hb.trans h7, h8, h9, h10, RdL.ren hp _ h11 hr⟩
      | sub hS hd hr =>
        rw [hS] at h5
        rcases h5 with ⟨h6, h7⟩ | ⟨b, vs, sp, h7, h8, h9, h10, h11⟩
        · subst h7
          generalize hq : D.renL ρ _ = q at hd
          cases hd
          exact .inl ⟨hb.trans h6, renL_nil hq⟩
        · exact .inr ⟨b, vs, sp, hb.trans h7, h8, h9, h10, RdL.ren hp _ (RdL.subC hd h11) hr⟩
      | tail hS =>
        rw [hS] at h5
        rcases h5 with ⟨h6, h7⟩ | ⟨b, c, h6, h7, h8, h9⟩
        · exact .inl ⟨hb.trans h6, h7⟩
        · exact .inr ⟨b, c, hb.trans h6, h7, h8, h9⟩
      | nils hS =>
        rw [hS] at h5
        exact .inl ⟨hb.trans h5, rfl⟩
      | nilb hS =>
        rw [hS] at h5
        exact .inl ⟨hb.trans h5, rfl⟩
      | loop hS hd hr =>
        rw [hS] at h5
        subst hd
        obtain ⟨k, r, h3, h4, h5, h6, h7, h8, h9, h10, h11, h12⟩ := h5
        exact ⟨k, r, hb.trans h3, h4, h5, h6, h7, h8, h9, h10, h11, h12.1, RdL.ren hp _ h12.2 hr⟩
      | kept hS hd hr => rw [St.held, hE] at hh; cases hh
  · have hi' : S'.held i = true := hi
    have hj' : S'.held j = true := hj
    have e1 := hph i hi'
    have e2 := hph j hj'
    rw [e1] at hbi
    rw [e2] at hbj
    have heldρ : ∀ id b, S'.held id = true → β (ρ id) = some b → (S.ent (ρ id)).held = true := fun id b hid hb => by
      have h4 := hw.ent.mem id _ (keyh id hid)
      have h5 := h.h.ent (ρ id)
      generalize hE : S'.ent id = e at h4
      cases h4 with
      | blk hS => rw [hS]; rfl
      | sub hS => rw [hS]; rfl
      | tail hS => rw [hS]; rfl
      | nils hS => rw [hS] at h5; rw [h5] at hb; cases hb
      | nilb hS => rw [hS] at h5; rw [h5] at hb; cases hb
      | loop hS => rw [hS]; rfl
      | kept hS => rw [St.held, hE] at hid; cases hid
    have := h.h.inj (ρ i) (ρ j) b (heldρ i b hi' hbi) (heldρ j b hj' hbj) hbi hbj
    exact nodup_map_inj hw.inj (keyh i hi') (keyh j hj') this
  · have h1 := h.h.gid i b hi
    have h2 := h.h.given i b hi
    by_cases hh : S'.held i = true
    · simp [β', hh, hw.fixed i h1, h2]
    · simp [β', hh, h1, h2]
  · rcases look_mem (z := D.dead) (t := t) (l := S'.sl) with h4 | h4
    · have : S'.get t = .dead := h4
      rw [this]; exact .dead _ _
    · have h5 := hw.sl.mem t _ h4
      have h7 := h.sl t
      have h8 : S'.get t = look D.dead t S'.sl := rfl
      rw [h8]
      generalize look D.dead t S'.sl = d at h5
      cases h5 with
      | same he hr => rw [he] at h7; exact Rd.ren hp _ h7 hr
      | coe he hr => exact ((he _ _ _ h7).bare hr).up
      | nilo he =>
        rw [he] at h7
        generalize a.tmps.getD t undef = v at h7
        cases h7
        exact .nosl _ _ _
      | nils he =>
        rw [he] at h7
        generalize a.tmps.getD t undef = v at h7
        cases h7
        exact .ngsl _ _ _

theorem Rel.weak {E : Env} {β : Names} {a : Act} (h : Rel O N S E β a) {ρ : Nat → Nat} (hw : Weak S S' ρ) : ∃ β', Rel O N S' E β' a :=
  let ⟨β', h1, _⟩ := h.weak' hw; ⟨β', h1⟩

theorem iwp_weak {c : Code} {Q : Exit → St → Prop} (ρ : Nat → Nat) (hw : Weak S S' ρ) (h : IWP P O N c S' Q) : IWP P O N c S Q :=
  fun E β a hr => let ⟨β', hr'⟩ := hr.weak hw; h E β' a hr'
theorem ils_weak {ops : Array Oper} {l : List Oper} {Q : Exit → St → Prop} (ρ : Nat → Nat) (hw : Weak S S' ρ) (h : ILS P O N ops l S' Q) : ILS P O N ops l S Q :=
  fun E β a hr => let ⟨β', hr'⟩ := hr.weak hw; h E β' a hr'

/-- A loop, by what its rounds begin with. -/
theorem iwp_loopP {α : Type} {c : Code} {Q : Exit → St → Prop} (st : α → St) (inv : α → Prop) (m : α → Nat) (a0 : α) (ρ0 : Nat → Nat) (h0 : Weak S (st a0) ρ0) (i0 : inv a0)
    (round : ∀ x, inv x → IWP P O N c (st x) (thenQ (fun S' => ∃ y ρ, Weak S' (st y) ρ ∧ inv y ∧ m y < m x) Q)) : IWP P O N (.loop c) S Q := by
  refine iwp_weak ρ0 h0 ?_
  intro E β a hr b k cs hro hb hroom
  have key : ∀ n x E β a, m x = n → inv x → Rel O N (st x) E β a →
      ∃ e a' w', (∃ S' E' β', E'.w = w' ∧ Rel O N S' E' β' a' ∧ Q e S') ∧ ArrivesIn (Machine.fenced P (fen O.round)) P (lone (b.atR a (.code c :: .inLoop c :: k)) cs E.w) b k cs e a' w' := by
    intro n
    induction n using Nat.strongRecOn with
    | _ n ih =>
      intro x E β a hn hI hr
      obtain ⟨e, a₁, w₁, ⟨S₁, E₁, β₁, rfl, hr₁, hq⟩, harr⟩ := round x hI E β a hr b (.inLoop c :: k) cs hro hb hroom
      cases e with
      | normal =>
        obtain ⟨y, ρ, hw, hI₁, hlt⟩ := hq
        obtain ⟨β₂, hr₂⟩ := hr₁.weak hw
        obtain ⟨e₂, a₂, w₂, hq₂, harr₂⟩ := ih (m y) (hn ▸ hlt) y E₁ β₂ a₁ rfl hI₁ hr₂
        exact ⟨e₂, a₂, w₂, hq₂, .of_steps (StepsIn.trans harr (.one (fenced_calm hb hroom rfl) stepR_inLoop)) harr₂⟩
      | exit id => exact ⟨_, a₁, _, ⟨S₁, E₁, β₁, rfl, hr₁, hq⟩, .pass (x := .inLoop c) rfl (fun _ _ => .inl (by simp)) harr⟩
      | goto l => exact ⟨_, a₁, _, ⟨S₁, E₁, β₁, rfl, hr₁, hq⟩, .pass (x := .inLoop c) rfl (fun _ _ => .inl (by simp)) harr⟩
      | ret => exact ⟨_, a₁, _, ⟨S₁, E₁, β₁, rfl, hr₁, hq⟩, .pass (x := .inLoop c) rfl (fun _ _ => .inl (by simp)) harr⟩
      | panic ch => exact ⟨_, a₁, _, ⟨S₁, E₁, β₁, rfl, hr₁, hq⟩, .pass (x := .inLoop c) rfl (fun _ _ => .inl (by simp)) harr⟩
      | outgrown => exact ⟨_, a₁, _, ⟨S₁, E₁, β₁, rfl, hr₁, hq⟩, .pass (x := .inLoop c) rfl (fun _ _ => .inl (by simp)) harr⟩
  obtain ⟨e, a', w', hq, harr⟩ := key _ a0 E β a rfl i0 hr
  exact ⟨e, a', w', hq, .of_steps (.one (fenced_calm hb hroom rfl) stepR_loop) harr⟩

/-- Ways meet again. -/
theorem iwp_join {α : Type} {x y : Code} {Q : Exit → St → Prop} (st : α → St) (inv : α → Prop) (h : IWP P O N x S (thenQ (fun S' => ∃ z ρ, Weak S' (st z) ρ ∧ inv z) Q))
    (k : ∀ z, inv z → IWP P O N y (st z) Q) : IWP P O N (.seq x y) S Q :=
  iwp_seq (iwp_mono h fun e S' hq => by
    cases e with
    | normal => obtain ⟨z, ρ, hw, hi⟩ := hq; exact iwp_weak ρ hw (k z hi)
    | _ => exact hq)

end
end Go.IL
