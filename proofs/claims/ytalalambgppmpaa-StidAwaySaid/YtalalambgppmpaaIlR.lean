/-
  A part of the proof: rules and plain facts. No condition.
-/
import Derived.Test.YtalalambgppmpaaIlL
set_option linter.all false
namespace Go.IL

structure Node where
  rs : List Nat
  ri : List Nat
  us : List (Nat × D)
  ui : List (Nat × Ent)

def St.upd (S : St) (n : Node) : St := ⟨n.us ++ S.sl, n.ui ++ S.H⟩

def St.eqv (S S' : St) : Prop := (∀ t, S.get t = S'.get t) ∧ ∀ i, S.ent i = S'.ent i
theorem St.eqv.refl (S : St) : S.eqv S := ⟨fun _ => rfl, fun _ => rfl⟩

theorem look_append {α : Type} {z : α} {t : Nat} : ∀ {l r : List (Nat × α)}, look z t (l ++ r) = if t ∈ l.map (·.1) then look z t l else look z t r
  | [], r => by simp
  | (s, d) :: l, r => by
    simp only [List.cons_append, look_cons, List.map_cons, List.mem_cons]
    by_cases h : s = t
    · simp [h]
    · rw [if_neg h, look_append (l := l)]
      by_cases h2 : t ∈ l.map (·.1)
      · simp [h2, h]
      · simp [h2, h, Ne.symm h]

theorem St.get_upd (S : St) (n : Node) (t : Nat) : (S.upd n).get t = if t ∈ n.us.map (·.1) then look .dead t n.us else S.get t := look_append
theorem St.ent_upd (S : St) (n : Node) (i : Nat) : (S.upd n).ent i = if i ∈ n.ui.map (·.1) then look (defE i) i n.ui else S.ent i := look_append

theorem St.eqv.upd {S S' : St} (h : S.eqv S') (n : Node) : (S.upd n).eqv (S'.upd n) :=
  ⟨fun t => by rw [St.get_upd, St.get_upd, h.1], fun i => by rw [St.ent_upd, St.ent_upd, h.2]⟩

def Node.apart (m n : Node) : Bool :=
  (m.us.map (·.1)).all (fun t => !n.rs.contains t && !(n.us.map (·.1)).contains t) && (n.us.map (·.1)).all (fun t => !m.rs.contains t) &&
  (m.ui.map (·.1)).all (fun t => !n.ri.contains t && !(n.ui.map (·.1)).contains t) && (n.ui.map (·.1)).all (fun t => !m.ri.contains t)

structure Node.Apart (m n : Node) : Prop where
  s1 : ∀ t ∈ n.rs, t ∉ m.us.map (·.1)
  s2 : ∀ t ∈ m.rs, t ∉ n.us.map (·.1)
  s3 : ∀ t ∈ m.us.map (·.1), t ∉ n.us.map (·.1)
  i1 : ∀ t ∈ n.ri, t ∉ m.ui.map (·.1)
  i2 : ∀ t ∈ m.ri, t ∉ n.ui.map (·.1)
  i3 : ∀ t ∈ m.ui.map (·.1), t ∉ n.ui.map (·.1)

theorem Node.apart_spec {m n : Node} (h : m.apart n = true) : m.Apart n := by
  simp only [Node.apart, Bool.and_eq_true, List.all_eq_true, Bool.not_eq_true', List.contains_eq_mem, decide_eq_false_iff_not] at h
  obtain ⟨⟨⟨h1, h2⟩, h3⟩, h4⟩ := h
  exact ⟨fun t ht hm => (h1 t hm).1 ht, fun t ht hn => h2 t hn ht, fun t ht => (h1 t ht).2, fun t ht hm => (h3 t hm).1 ht, fun t ht hn => h4 t hn ht, fun t ht => (h3 t ht).2⟩

theorem St.upd_comm (S : St) {m n : Node} (h : m.Apart n) : ((S.upd m).upd n).eqv ((S.upd n).upd m) := by
  constructor
  · intro t
    simp only [St.get_upd]
    by_cases h1 : t ∈ m.us.map (·.1)
    · simp [h1, h.s3 t h1]
    · simp [h1]
  · intro t
    simp only [St.ent_upd]
    by_cases h1 : t ∈ m.ui.map (·.1)
    · simp [h1, h.i3 t h1]
    · simp [h1]

theorem Rel.eqv {O : Origin} {N : Nat} {S S' : St} {E : Env} {β : Names} {a : Act} (h : Rel O N S E β a) (he : S.eqv S') : Rel O N S' E β a := by
  refine ⟨h.n, h.nd, ?_, fun t => he.1 t ▸ h.sl t⟩
  have : S.ent = S'.ent := funext he.2
  rw [← this]; exact h.h

section
variable {P : Program} {O : Origin} {N : Nat} {ops : Array Oper}

/-- Operation number 'i' comes up. -/
def GOp (P : Program) (O : Origin) (N : Nat) (ops : Array Oper) (i : Nat) (S S' : St) : Prop :=
  ∀ E β a, Rel O N S E β a → ∀ (K : Act → World → Prop) Q, (∀ E' β' a', Rel O N S' E' β' a' → K a' E'.w) → wpOpIn (fen O.round) 0 P ops Q i K a E.w

theorem gop_plain {i : Nat} {o : Oper} {S S' : St} (ho : ops[i]? = some o) (hg : quiet o = true) (h : IOp P O N o S S') : GOp P O N ops i S S' :=
  fun E β a hr K Q hK => by
    unfold wpOpIn
    simp only [ho, Region.wanted, (quiet_iff hg).1, if_true]
    exact wp_in _ (quiet_iff hg).2 (h E β a hr K Q hK)

theorem gop_guard {i : Nat} {o : Oper} {S : St} {j tj t : Nat} {want g : Bool} {d : D} (ho : ops[i]? = some o) (hg : o.guard = some (j, want)) (hj : (ops[j]?).bind (·.dst) = some tj)
    (hb : Grd S tj want g) (hd : (o.dst, noDefer o.op) = (some t, true)) (ht : t < N) (h : g = true → IOp P O N o S (S.set t d)) : GOp P O N ops i S (S.set t (.cnd g d)) := by
  obtain ⟨hd, hnd⟩ := Prod.mk.inj hd
  intro E β a hr K Q hK
  have hwant := hb.yields hr hj hg
  unfold wpOpIn
  simp only [ho, hwant]
  cases g with
  | true =>
    simp only [if_true]
    exact wp_in _ hnd (h rfl E β a hr _ _ fun E' β' a' hr' => hK E' β' a' hr'.cndT)
  | false =>
    simp only [Bool.false_eq_true, if_false, hd]
    exact ⟨fun _ _ => trivial, hK E β _ (hr.set ht (.cnd _ _ _ _ (fun h => by cases h) fun _ => rfl))⟩

def Agree (n : Node) (S S0 : St) : Prop := (∀ t ∈ n.rs, S.get t = S0.get t) ∧ ∀ i ∈ n.ri, S.ent i = S0.ent i
/-- The operation does this, whatever stands in slots that it does not look at. -/
def LOp (P : Program) (O : Origin) (N : Nat) (ops : Array Oper) (i : Nat) (S0 : St) (n : Node) : Prop :=
  ∀ S, Agree n S S0 → GOp P O N ops i S (S.upd n)

def IAny (ops : Array Oper) (nd : Nat → Node) (Sq : Nat → St) (Sf : St) : Nat → Array Bool → St → Prop
  | 0, listed, S => Region.ready .any ops listed = [] ∧ S.eqv Sf
  | fuel + 1, listed, S => (Region.ready .any ops listed = [] → S.eqv Sf) ∧
      ∀ i ∈ Region.ready .any ops listed, Agree (nd i) S (Sq i) ∧ IAny ops nd Sq Sf fuel (listed.setIfInBounds i true) (S.upd (nd i))

theorem IAny.eqv {nd : Nat → Node} {Sq : Nat → St} {Sf : St} : ∀ {fuel : Nat} {listed : Array Bool} {S S' : St}, S.eqv S' → IAny ops nd Sq Sf fuel listed S → IAny ops nd Sq Sf fuel listed S'
  | 0, _, S, S', h, ⟨h1, h2⟩ => ⟨h1, fun t => (h.1 t) ▸ h2.1 t, fun t => (h.2 t) ▸ h2.2 t⟩
  | fuel + 1, _, S, S', h, ⟨h1, h2⟩ => ⟨fun hr => let k := h1 hr; ⟨fun t => (h.1 t) ▸ k.1 t, fun t => (h.2 t) ▸ k.2 t⟩,
      fun i hi => let ⟨h3, h4⟩ := h2 i hi
        ⟨⟨fun t ht => (h.1 t) ▸ h3.1 t ht, fun t ht => (h.2 t) ▸ h3.2 t ht⟩, IAny.eqv (h.upd _) h4⟩⟩

theorem IAny.sound {nd : Nat → Node} {Sq : Nat → St} {Sf : St} {Q : Exit → St → Prop} (hlop : ∀ i, i < ops.size → LOp P O N ops i (Sq i) (nd i)) (hQ : Q .normal Sf) :
    ∀ (fuel : Nat) (listed : Array Bool) (S : St), IAny ops nd Sq Sf fuel listed S → ∀ E β a, Rel O N S E β a →
      wpAnyIn (fen O.round) 0 P .any ops (fun e a' w' => ∃ S' E' β', E'.w = w' ∧ Rel O N S' E' β' a' ∧ Q e S') fuel listed a E.w := by
  intro fuel
  induction fuel with
  | zero => exact fun listed S h E β a hr => ⟨h.1, Sf, E, β, rfl, hr.eqv h.2, hQ⟩
  | succ fuel ih =>
    intro listed S h E β a hr
    refine ⟨fun h0 => ⟨Sf, E, β, rfl, hr.eqv (h.1 h0), hQ⟩, fun i hi => ?_⟩
    obtain ⟨h1, h2⟩ := h.2 i hi
    have hlt : i < ops.size := by
      obtain ⟨_, o, ho, _⟩ := mem_ready.1 hi
      exact (Array.getElem?_eq_some_iff.1 ho).1
    exact hlop i hlt S h1 E β a hr _ _ fun E' β' a' hr' => ih _ _ h2 E' β' a' hr'

theorem IAny.first {nd : Nat → Node} {Sq : Nat → St} {Sf : St} {i : Nat} : ∀ (fuel : Nat) (listed : Array Bool) (S : St),
    (∀ j oj, ops[j]? = some oj → j ≠ i → listed.getD j true = false → (∀ e ∈ oj.after, Region.binds .any e = true → e.on ≠ i) → (nd i).Apart (nd j)) →
    i ∈ Region.ready .any ops listed → Agree (nd i) S (Sq i) → IAny ops nd Sq Sf fuel (listed.setIfInBounds i true) (S.upd (nd i)) → IAny ops nd Sq Sf (fuel + 1) listed S := by
  intro fuel
  induction fuel with
  | zero =>
    intro listed S _ hr ha H
    refine ⟨fun h => (by rw [h] at hr; cases hr), fun j hj => ?_⟩
    by_cases hji : j = i
    · subst hji; exact ⟨ha, H⟩
    · have := ready_mono hj hji
      rw [H.1] at this
      cases this
  | succ fuel ih =>
    intro listed S hfree hr ha H
    refine ⟨fun h => (by rw [h] at hr; cases hr), fun j hj => ?_⟩
    by_cases hji : j = i
    · subst hji; exact ⟨ha, H⟩
    · obtain ⟨h1, h2⟩ := H.2 j (ready_mono hj hji)
      obtain ⟨hjun, oj, hoj, hall⟩ := mem_ready.1 hj
      have hnot : ∀ e ∈ oj.after, Region.binds .any e = true → e.on ≠ i := fun e he hb heq => by
        have h1 := hall e he hb
        have h0 := (mem_ready.1 hr).1
        rw [heq] at h1
        rcases Nat.lt_or_ge i listed.size with h' | h'
        · simp [h'] at h0 h1; rw [h0] at h1; cases h1
        · simp [Array.getElem?_eq_none h'] at h1
      have hap := hfree j oj hoj hji hjun hnot
      have haj : Agree (nd j) S (Sq j) := ⟨fun t ht => by rw [← h1.1 t ht, St.get_upd, if_neg (hap.s1 t ht)], fun t ht => by rw [← h1.2 t ht, St.ent_upd, if_neg (hap.i1 t ht)]⟩
      have hai : Agree (nd i) (S.upd (nd j)) (Sq i) := ⟨fun t ht => by rw [← ha.1 t ht, St.get_upd, if_neg (hap.s2 t ht)], fun t ht => by rw [← ha.2 t ht, St.ent_upd, if_neg (hap.i2 t ht)]⟩
      refine ⟨haj, ih (listed.setIfInBounds j true) _ ?_ (ready_mono hr (Ne.symm hji)) hai ?_⟩
      · refine fun k ok hk hki hun hno => hfree k ok hk hki ?_ hno
        by_cases hjk : j = k
        · subst hjk; exact hjun
        · rw [getD_set_ne true hjk] at hun; exact hun
      · rw [Array.setIfInBounds_comm _ _ hji]
        exact IAny.eqv (S.upd_comm hap) h2

/-- The look at the text's order: each in turn may come, and is apart from all that might come ahead of it. -/
def lexIL (ops : Array Oper) (nds : List Node) : Nat → Nat → Array Bool → Bool
  | 0, _, listed => (Region.ready .any ops listed).isEmpty
  | n + 1, k, listed => (Region.ready .any ops listed).contains k &&
      (List.range ops.size).all (fun j => j == k || listed.getD j true || match ops[j]? with
        | some oj => oj.after.any (fun e => Region.binds .any e && e.on == k) || (nds.getD k ⟨[], [], [], []⟩).apart (nds.getD j ⟨[], [], [], []⟩)
        | none => true) && lexIL ops nds n (k + 1) (listed.setIfInBounds k true)

def seqS (S : St) : List Node → St
  | [] => S
  | n :: ns => seqS (S.upd n) ns

theorem IAny.lex {nds : List Node} {S0 : St} : ∀ (n k : Nat) (listed : Array Bool), k + n = nds.length → lexIL ops nds n k listed = true →
    IAny ops (fun i => nds.getD i ⟨[], [], [], []⟩) (fun i => seqS S0 (nds.take i)) (seqS S0 nds) n listed (seqS S0 (nds.take k))
  | 0, k, listed, hk, h => by
    have : nds.take k = nds := List.take_of_length_le (by omega)
    rw [this]
    exact ⟨by simpa [lexIL] using h, St.eqv.refl _⟩
  | n + 1, k, listed, hk, h => by
    simp only [lexIL, Bool.and_eq_true] at h
    obtain ⟨⟨h1, h2⟩, h3⟩ := h
    have hlt : k < nds.length := by omega
    have ih := IAny.lex (S0 := S0) n (k + 1) (listed.setIfInBounds k true) (by omega) h3
    have hS : seqS S0 (nds.take (k + 1)) = (seqS S0 (nds.take k)).upd (nds.getD k ⟨[], [], [], []⟩) := by
      have hg : nds.getD k ⟨[], [], [], []⟩ = nds[k] := by simp [hlt]
      rw [List.take_succ_eq_append_getElem hlt, hg]
      clear ih h1 h2 h3 hg
      generalize nds.take k = l
      induction l generalizing S0 with
      | nil => rfl
      | cons m l ihl => exact ihl (S0 := S0.upd m)
    rw [hS] at ih
    refine IAny.first n listed _ ?_ (by simpa using h1) ⟨fun _ _ => rfl, fun _ _ => rfl⟩ ih
    intro j oj hj hne hun hno
    simp only [List.all_eq_true, List.mem_range] at h2
    have h4 := h2 j (Array.getElem?_eq_some_iff.1 hj).1
    simp only [hj, Bool.or_eq_true, beq_iff_eq, hne, false_or, hun, Bool.false_eq_true] at h4
    rcases h4 with h4 | h4
    · obtain ⟨e, he, hb⟩ := Array.any_eq_true'.1 h4
      simp only [Bool.and_eq_true, beq_iff_eq] at hb
      exact absurd hb.2 (hno e he hb.1)
    · exact Node.apart_spec h4

/-- The operations in the text's order, each with what it does. -/
inductive DSeq (P : Program) (O : Origin) (N : Nat) (ops : Array Oper) : Nat → St → List Node → Prop
  | nil {k S} : DSeq P O N ops k S []
  | cons {k S n ns} (h : LOp P O N ops k S n) (t : DSeq P O N ops (k + 1) (S.upd n) ns) : DSeq P O N ops k S (n :: ns)

theorem DSeq.at {k : Nat} {S : St} : ∀ {nds : List Node}, DSeq P O N ops k S nds → ∀ i, i < nds.length → LOp P O N ops (k + i) (seqS S (nds.take i)) (nds.getD i ⟨[], [], [], []⟩)
  | _, .nil, i, h => by simp at h
  | _, .cons h t, 0, _ => h
  | _ :: ns, .cons h t, i + 1, hi => by
    have := DSeq.at t i (by simpa using hi)
    rw [show k + (i + 1) = k + 1 + i by omega]
    exact this

theorem iwp_draw {id : Nat} {l : List Oper} {S : St} {Q : Exit → St → Prop} (hm : P.follows .mixedOrders = true) (nds : List Node) (hlen : nds.length = l.length)
    (hd : DSeq P O N l.toArray 0 S nds) (hchk : lexIL l.toArray nds l.length 0 (Array.replicate l.length false) = true) (hQ : Q .normal (seqS S nds)) : IWP P O N (.region id l.toArray true) S Q := by
  intro E β a hr
  refine wpIn_region_any hm ?_
  have hr' : Rel O N S ⟨{ E.w with drawn := E.w.drawn + 1 }, E.X⟩ β a := by
    have hb : RowKit.Below E.w.heap.size E.w { E.w with drawn := E.w.drawn + 1 } := (RowKit.Below.refl _ _).drew
    exact ⟨hr.n, hr.nd.below hb, hr.h.below hb, fun s => Rd.mono (below_le hb) (Names.le.refl _) (hr.sl s)⟩
  have hl := IAny.lex (S0 := S) l.length 0 (Array.replicate l.length false) (by omega) hchk
  simp only [List.take_zero, seqS] at hl
  have := IAny.sound (P := P) (O := O) (N := N) (Q := Q) (fun i hi => by
    have := hd.at i (by simp at hi; omega)
    rwa [Nat.zero_add] at this) hQ _ _ _ hl _ β a hr'
  simpa using this

end
end Go.IL
