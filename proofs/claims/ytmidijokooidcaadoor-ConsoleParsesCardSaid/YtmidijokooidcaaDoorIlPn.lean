/-
  A part of the proof: rules and plain facts. No condition.
-/
import Derived.Test.YtmidijokooidcaaDoorIlP105
import Derived.Laws.Pointers
import Derived.LaidEqlPtr
set_option linter.all false
set_option linter.unusedSimpArgs false
set_option linter.unusedVariables false
open Go Go.IL
namespace Go.Fn
/-! Console: texts, fields. -/
theorem u8_nat {n : Nat} (h : n < 256) : toU8 (n : Int) = some (UInt8.ofNat n) := by rw [toU8_ok (by omega) (by omega), Int.toNat_natCast]
theorem hexI_neg {o : Option Nat} : decide (hexI o < 0) = o.isNone := by
  cases o with
  | none => rfl
  | some d => exact decide_eq_false (by show ¬ (d : Int) < 0; omega)
theorem unhex_cons (a b : UInt8) (r : List UInt8) : unhexV (a :: b :: r) = match hexV a, hexV b, unhexV r with
    | some x, some y, some l => some (UInt8.ofNat (16 * x + y) :: l)
    | _, _, _ => none := rfl
theorem text_L {s : List UInt8} (hs : s.length ≤ 100000) : ∀ (n : Nat) (r p done : List UInt8) (f : Nat), r.length = 2 * n → s = p ++ r → p.length = 2 * done.length → r.length < f → ∃ l b, console_text_L0 s f (done ++ List.replicate n 0) (p.length : Int) = some (l, b) ∧ ((match unhexV r with | some t => (done ++ t, true) | none => ([], false)) = (l, b))
  | 0, r, p, done, f + 1, hr, h, hp, hf => by
    have hr0 : r = [] := List.length_eq_zero_iff.1 (by omega)
    subst hr0
    rw [List.append_nil] at h
    rw [console_text_L0]
    simp only [bndD, h, lt_len, bif_ff]
    exact ⟨_, _, rfl, by simp [unhexV]⟩
  | n + 1, r, p, done, f, hr, h, hp, hf => by
    obtain ⟨a, b, r, rfl⟩ : ∃ a b r', r = a :: b :: r' := by
      match r, hr with
      | [], hr => exact absurd hr (by simp)
      | [_], hr => exact absurd hr (by simp; omega)
      | a :: b :: r, _ => exact ⟨a, b, r, rfl⟩
    obtain ⟨g, rfl⟩ : ∃ g, f = g + 1 + 1 := ⟨f - 2, by simp at hf; omega⟩
    have hr' : r.length = 2 * n := by simp at hr; omega
    have hps : p.length ≤ 100000 := by rw [h] at hs; simp at hs; omega
    obtain ⟨ha1, _, ha3⟩ := hex_at a
    obtain ⟨hb1, _, hb3⟩ := hex_at b
    have q0 : quoI .i64 (p.length : Int) 2 = some (done.length : Int) := by rw [quo_ok (by omega) (by omega) (by decide)]; congr 1; omega
    have h2 := next_at h
    have q1 : quoI .i64 ((p ++ [a]).length : Int) 2 = some (done.length : Int) := by rw [quo_ok (by omega) (by simp; omega) (by decide)]; congr 1; simp; omega
    have hdl : done.length ≤ 100000 := by omega
    rw [console_text_L0]
    simp only [bndD, lt_at h, bif_tt, gix_at h, bnoS, ha1, hexI_neg]
    cases hva : hexV a with
    | none =>
      simp only [Option.isNone_none, bif_tt]
      exact ⟨_, _, rfl, by rw [unhex_cons, hva]⟩
    | some x =>
      have hx := ha3 x hva
      obtain ⟨e1, _, ⟨z, e3, e4⟩, _⟩ := byte_at hx hx
      have hl0 : (done ++ List.replicate (n + 1) (0 : UInt8)) = done ++ 0 :: List.replicate n 0 := rfl
      have hg0 : (done ++ List.replicate (n + 1) (0 : UInt8))[((done.length : Nat) : Int).toNat]? = some 0 := by rw [Int.toNat_natCast, hl0, List.getElem?_append_right (Nat.le_refl _)]; simp
      have hs0 : (done ++ List.replicate (n + 1) (0 : UInt8)).set (((done.length : Nat) : Int).toNat) (UInt8.ofNat x) = done ++ UInt8.ofNat x :: List.replicate n 0 := by rw [Int.toNat_natCast, hl0, List.set_append_right _ _ (Nat.le_refl _)]; simp
      simp only [Option.isNone_some, bif_ff, q0, bnoS, gix_at hl0, hg0, show ((0 : UInt8).toNat : Int) = 0 from rfl, e3, show hexI (some x) = (x : Int) from rfl, e1, e4, u8_nat (show x < 256 by omega), hs0, w_at h (show s.length ≤ 1000000 by omega)]
      rw [console_text_L0]
      simp only [bndD, lt_at h2, bif_tt, gix_at h2, bnoS, hb1, hexI_neg]
      cases hvb : hexV b with
      | none =>
        simp only [Option.isNone_none, bif_tt]
        exact ⟨_, _, rfl, by rw [unhex_cons, hva, hvb]⟩
      | some y =>
        have hy := hb3 y hvb
        obtain ⟨e5, ⟨z2, e6, e7⟩, _, _⟩ := byte_at hx hy
        obtain ⟨e8, _⟩ := byte_at hy hy
        have hl1 : (done ++ UInt8.ofNat x :: List.replicate n 0) = done ++ UInt8.ofNat x :: List.replicate n 0 := rfl
        have hg1 : (done ++ UInt8.ofNat x :: List.replicate n 0)[((done.length : Nat) : Int).toNat]? = some (UInt8.ofNat x) := by rw [Int.toNat_natCast, List.getElem?_append_right (Nat.le_refl _)]; simp
        have hs1 : (done ++ UInt8.ofNat x :: List.replicate n 0).set (((done.length : Nat) : Int).toNat) (UInt8.ofNat (16 * x + y)) = (done ++ [UInt8.ofNat (16 * x + y)]) ++ List.replicate n 0 := by rw [Int.toNat_natCast, List.set_append_right _ _ (Nat.le_refl _)]; simp
        simp only [Option.isNone_some, bif_ff, q1, bnoS, gix_at hl1, hg1, e6, show hexI (some y) = (y : Int) from rfl, e8, e7, u8_nat (show 16 * x + y < 256 by omega), hs1, w_at h2 (show s.length ≤ 1000000 by omega)]
        obtain ⟨l, c, k1, k2⟩ := text_L hs n r (p ++ [a] ++ [b]) (done ++ [UInt8.ofNat (16 * x + y)]) g hr' (next_at h2) (by simp; omega) (by simp at hf; omega)
        refine ⟨l, c, k1, ?_⟩
        rw [← k2]
        rw [unhex_cons, hva, hvb]
        cases unhexV r with
        | none => rfl
        | some t => simp only [List.append_assoc, List.cons_append, List.nil_append]
theorem text33 {w : List UInt8} (hw : w.length ≤ 100000) : console_text w = some (twoH (textV w)) := by
  unfold console_text textV
  rw [bndD]
  by_cases h1 : w = [45]
  · rw [decide_eq_true h1, if_pos h1]; rfl
  · rw [decide_eq_false h1, if_neg h1, bif_ff, bndD]
    by_cases h2 : w = []
    · rw [decide_eq_true h2, if_pos (.inl h2)]; rfl
    · have hr : remI (w.length : Int) 2 = some ((w.length % 2 : Nat) : Int) := by rw [rem_ok (by omega) (by decide)]; rfl
      rw [decide_eq_false h2, beq_self_eq_true, gdtt, hr, bnoS, bndD, bndD]
      by_cases h3 : w.length % 2 = 1
      · rw [if_pos (.inr h3), decide_eq_true (show ((w.length % 2 : Nat) : Int) = 1 by omega)]; rfl
      · rw [if_neg (fun h => h.elim h2 h3), decide_eq_false (show ¬ ((w.length % 2 : Nat) : Int) = 1 by omega), Bool.or_self, bif_ff]
        have hq : quoI .i64 (w.length : Int) 2 = some ((w.length / 2 : Nat) : Int) := by rw [quo_ok (by omega) (by omega) (by decide)]; rfl
        rw [hq, bnoS, made_ok (by omega) (by omega) (by omega), bnoS, Int.toNat_natCast]
        obtain ⟨l, b, k1, k2⟩ := text_L hw (w.length / 2) w [] [] fuel (by omega) rfl rfl (fuel_gt (by omega))
        refine Eq.trans k1 ?_
        rw [← k2]
        cases unhexV w <;> rfl
theorem unhex_L {s : List UInt8} (hs : s.length ≤ 100000) : ∀ (n : Nat) (r p done : List UInt8) (f : Nat), r.length = 2 * n → s = p ++ r → p.length = 2 * done.length → r.length < f → sennitref33_unhex_L0 s f done (p.length : Int) = some (match unhexV r with | some t => (done ++ t, true) | none => ([], false))
  | 0, r, p, done, f + 1, hr, h, hp, hf => by
    have hr0 : r = [] := List.length_eq_zero_iff.1 (by omega)
    subst hr0
    rw [List.append_nil] at h
    have hps : p.length ≤ 100000 := by rw [← h]; exact hs
    rw [sennitref33_unhex_L0]
    simp only [bndD, h]
    rw [w64 (by omega) (by omega), decide_eq_false (by omega), bif_ff]
    simp [unhexV]
  | n + 1, r, p, done, f, hr, h, hp, hf => by
    obtain ⟨a, b, r, rfl⟩ : ∃ a b r', r = a :: b :: r' := by
      match r, hr with
      | [], hr => exact absurd hr (by simp)
      | [_], hr => exact absurd hr (by simp; omega)
      | a :: b :: r, _ => exact ⟨a, b, r, rfl⟩
    obtain ⟨g, rfl⟩ : ∃ g, f = g + 1 := ⟨f - 1, by simp at hf; omega⟩
    have hr' : r.length = 2 * n := by simp at hr; omega
    have hps : p.length + 2 ≤ 100000 := by rw [h] at hs; simp at hs; omega
    obtain ⟨_, ha1, ha3⟩ := hex_at a
    obtain ⟨_, hb1, hb3⟩ := hex_at b
    have h2 := next_at h
    have hw1 := w_at h (show s.length ≤ 1000000 by omega)
    have hlt := lt_at h2
    have hg2 := gix_at h2
    have hw2 : IntKind.wrap .i64 ((p.length : Int) + 2) = ((p ++ [a] ++ [b]).length : Int) := by rw [w64 (by omega) (by omega)]; simp
    rw [sennitref33_unhex_L0]
    simp only [bndD, hw1, hlt, bif_tt, gix_at h, hg2, bnoS, ha1, hb1, hexI_neg, hw2]
    cases hva : hexV a with
    | none =>
      simp only [Option.isNone_none, Bool.true_or, bif_tt]
      rw [unhex_cons, hva]
    | some x =>
      cases hvb : hexV b with
      | none =>
        simp only [Option.isNone_none, Option.isNone_some, Bool.or_true, bif_tt]
        rw [unhex_cons, hva, hvb]
      | some y =>
        have hx := ha3 x hva
        have hy := hb3 y hvb
        obtain ⟨_, _, _, e9⟩ := byte_at hx hy
        have hdl : done.length ≤ 100000 := by omega
        simp only [Option.isNone_some, Bool.or_self, bif_ff, show hexI (some x) = (x : Int) from rfl, show hexI (some y) = (y : Int) from rfl, e9, u8_nat (show 16 * x + y < 256 by omega), bnoS, app_ok (b := 1) (l := done) (m := [UInt8.ofNat (16 * x + y)]) (by simp; omega) (by simp; omega)]
        rw [unhex_L hs n r (p ++ [a] ++ [b]) (done ++ [UInt8.ofNat (16 * x + y)]) g hr' (next_at h2) (by simp; omega) (by simp at hf; omega)]
        rw [unhex_cons, hva, hvb]
        cases unhexV r with
        | none => rfl
        | some t => simp only [List.append_assoc, List.cons_append, List.nil_append]
theorem unhex33 {w : List UInt8} (hw : w.length ≤ 100000) : sennitref33_unhex w = some (twoH (textV w)) := by
  unfold sennitref33_unhex textV
  rw [bndD]
  by_cases h1 : w = [45]
  · rw [decide_eq_true h1, if_pos h1]; rfl
  · rw [decide_eq_false h1, if_neg h1, bif_ff, bndD]
    by_cases h2 : w = []
    · rw [decide_eq_true h2, if_pos (.inl h2)]; rfl
    · have hr : remI (w.length : Int) 2 = some ((w.length % 2 : Nat) : Int) := by rw [rem_ok (by omega) (by decide)]; rfl
      rw [decide_eq_false h2, beq_self_eq_true, gdtt, hr, bnoS, bndD, bndD]
      by_cases h3 : w.length % 2 = 1
      · rw [if_pos (.inr h3), decide_eq_false (show ¬ ((w.length % 2 : Nat) : Int) = 0 by omega)]; rfl
      · rw [if_neg (fun h => h.elim h2 h3), decide_eq_true (show ((w.length % 2 : Nat) : Int) = 0 by omega), Bool.not_true, Bool.or_self, bif_ff]
        refine (unhex_L hw (w.length / 2) w [] [] fuel (by omega) rfl rfl (fuel_gt (by omega))).trans ?_
        cases unhexV w <;> rfl
/-! Fields. -/
def fieldC (c : UInt8) : Prop := c = 115 ∨ c = 105 ∨ c = 110 ∨ c = 109 ∨ c = 112 ∨ c = 116 ∨ c = 102
instance (c : UInt8) : Decidable (fieldC c) := by unfold fieldC; infer_instance
/-- A word as a field. -/
def putV (s : S33) (c : UInt8) (w : List UInt8) : Option S33 :=
  if c = 116 then (textV w).map fun t => ⟨s.Kind, s.Side, s.ID, s.N, s.M, s.Path, t, s.Flag⟩
  else if c = 102 then (if w = [43] ∨ w = [45] then some ⟨s.Kind, s.Side, s.ID, s.N, s.M, s.Path, s.Text, decide (w = [43])⟩ else none)
  else match numV w with
    | none => none
    | some n =>
      if c = 115 then (if n < 2 then some ⟨s.Kind, n, s.ID, s.N, s.M, s.Path, s.Text, s.Flag⟩ else none)
      else if c = 105 then some ⟨s.Kind, s.Side, n, s.N, s.M, s.Path, s.Text, s.Flag⟩
      else if c = 110 then some ⟨s.Kind, s.Side, s.ID, n, s.M, s.Path, s.Text, s.Flag⟩
      else if c = 109 then some ⟨s.Kind, s.Side, s.ID, s.N, n, s.Path, s.Text, s.Flag⟩
      else some ⟨s.Kind, s.Side, s.ID, s.N, s.M, n, s.Text, s.Flag⟩
theorem put33 {c : UInt8} (hc : fieldC c) {w : List UInt8} (hw : w.length ≤ 100000) (s : S33) : ∃ b s', console_put_h (c.toNat : Int) w s = some (b, s') ∧ putV s c w = bif b then some s' else none := by
  unfold console_put_h
  rcases hc with rfl | rfl | rfl | rfl | rfl | rfl | rfl
  · simp only [bndD, show decide (((115 : UInt8).toNat : Int) = 115) = true from rfl, bif_tt, whole33, bnoS, Bool.not_true, Bool.false_or]
    unfold putV
    rw [if_neg (by decide), if_neg (by decide)]
    cases numV w with
    | none => exact ⟨_, _, rfl, rfl⟩
    | some n =>
      refine ⟨_, _, rfl, ?_⟩
      show (if n < 2 then some (⟨s.Kind, (n : Int), s.ID, s.N, s.M, s.Path, s.Text, s.Flag⟩ : S33) else none) = bif (true && decide ((n : Int) < 2)) then some (⟨s.Kind, (n : Int), s.ID, s.N, s.M, s.Path, s.Text, s.Flag⟩ : S33) else none
      by_cases h : n < 2
      · rw [if_pos h, decide_eq_true (show (n : Int) < 2 by omega)]; rfl
      · rw [if_neg h, decide_eq_false (show ¬ (n : Int) < 2 by omega)]; rfl
  · simp only [bndD, show decide (((105 : UInt8).toNat : Int) = 115) = false from rfl, show decide (((105 : UInt8).toNat : Int) = 105) = true from rfl, bif_ff, bif_tt, whole33, bnoS, Bool.not_false, Bool.true_or, Bool.and_true]
    unfold putV
    rw [if_neg (by decide), if_neg (by decide)]
    cases numV w with
    | none => exact ⟨_, _, rfl, rfl⟩
    | some n => exact ⟨_, _, rfl, rfl⟩
  · simp only [bndD, show decide (((110 : UInt8).toNat : Int) = 115) = false from rfl, show decide (((110 : UInt8).toNat : Int) = 105) = false from rfl, show decide (((110 : UInt8).toNat : Int) = 110) = true from rfl, bif_ff, bif_tt, whole33, bnoS, Bool.not_false, Bool.true_or, Bool.and_true]
    unfold putV
    rw [if_neg (by decide), if_neg (by decide)]
    cases numV w with
    | none => exact ⟨_, _, rfl, rfl⟩
    | some n => exact ⟨_, _, rfl, rfl⟩
  · simp only [bndD, show decide (((109 : UInt8).toNat : Int) = 115) = false from rfl, show decide (((109 : UInt8).toNat : Int) = 105) = false from rfl, show decide (((109 : UInt8).toNat : Int) = 110) = false from rfl, show decide (((109 : UInt8).toNat : Int) = 109) = true from rfl, bif_ff, bif_tt, whole33, bnoS, Bool.not_false, Bool.true_or, Bool.and_true]
    unfold putV
    rw [if_neg (by decide), if_neg (by decide)]
    cases numV w with
    | none => exact ⟨_, _, rfl, rfl⟩
    | some n => exact ⟨_, _, rfl, rfl⟩
  · simp only [bndD, show decide (((112 : UInt8).toNat : Int) = 115) = false from rfl, show decide (((112 : UInt8).toNat : Int) = 105) = false from rfl, show decide (((112 : UInt8).toNat : Int) = 110) = false from rfl, show decide (((112 : UInt8).toNat : Int) = 109) = false from rfl, show decide (((112 : UInt8).toNat : Int) = 112) = true from rfl, bif_ff, bif_tt, whole33, bnoS, Bool.not_false, Bool.true_or, Bool.and_true]
    unfold putV
    rw [if_neg (by decide), if_neg (by decide)]
    cases numV w with
    | none => exact ⟨_, _, rfl, rfl⟩
    | some n => exact ⟨_, _, rfl, rfl⟩
  · simp only [bndD, show decide (((116 : UInt8).toNat : Int) = 115) = false from rfl, show decide (((116 : UInt8).toNat : Int) = 105) = false from rfl, show decide (((116 : UInt8).toNat : Int) = 110) = false from rfl, show decide (((116 : UInt8).toNat : Int) = 109) = false from rfl, show decide (((116 : UInt8).toNat : Int) = 112) = false from rfl, show decide (((116 : UInt8).toNat : Int) = 116) = true from rfl, bif_ff, bif_tt, text33 hw, bnoS]
    unfold putV
    rw [if_pos rfl]
    refine ⟨_, _, rfl, ?_⟩
    cases textV w <;> rfl
  · simp only [bndD, show decide (((102 : UInt8).toNat : Int) = 115) = false from rfl, show decide (((102 : UInt8).toNat : Int) = 105) = false from rfl, show decide (((102 : UInt8).toNat : Int) = 110) = false from rfl, show decide (((102 : UInt8).toNat : Int) = 109) = false from rfl, show decide (((102 : UInt8).toNat : Int) = 112) = false from rfl, show decide (((102 : UInt8).toNat : Int) = 116) = false from rfl, bif_ff]
    unfold putV
    rw [if_neg (by decide), if_pos rfl]
    refine ⟨_, _, rfl, ?_⟩
    by_cases h : w = [43] ∨ w = [45]
    · rw [if_pos h]
      have : (decide (w = [43]) || decide (w = [45])) = true := by rw [Bool.or_eq_true, decide_eq_true_iff, decide_eq_true_iff]; exact h
      rw [this]; rfl
    · rw [if_neg h]
      have : (decide (w = [43]) || decide (w = [45])) = false := by rw [← Bool.not_eq_true, Bool.or_eq_true, decide_eq_true_iff, decide_eq_true_iff]; exact h
      rw [this]; rfl
theorem rput33 {c : UInt8} (hc : fieldC c) {w : List UInt8} (hw : w.length ≤ 100000) (s : S33) : ∃ b s', sennitref33_put s (c.toNat : Int) w = some (s', b) ∧ putV s c w = bif b then some s' else none := by
  have key : ∀ (n : Nat), decide ((0 : Int) ≤ (n : Int)) = true := fun n => decide_eq_true (by omega)
  unfold sennitref33_put
  rcases hc with rfl | rfl | rfl | rfl | rfl | rfl | rfl
  · simp only [bndD, show decide (((115 : UInt8).toNat : Int) = 116) = false from rfl, show decide (((115 : UInt8).toNat : Int) = 102) = false from rfl, show decide (((115 : UInt8).toNat : Int) = 115) = true from rfl, bif_tt, bif_ff, number33, bnoS]
    unfold putV
    rw [if_neg (by decide), if_neg (by decide)]
    cases numV w with
    | none => exact ⟨_, _, rfl, rfl⟩
    | some n =>
      refine ⟨_, _, rfl, ?_⟩
      show (if n < 2 then some (⟨s.Kind, (n : Int), s.ID, s.N, s.M, s.Path, s.Text, s.Flag⟩ : S33) else none) = bif (decide ((n : Int) = 0) || decide ((n : Int) = 1)) then some (⟨s.Kind, (n : Int), s.ID, s.N, s.M, s.Path, s.Text, s.Flag⟩ : S33) else none
      by_cases h : n < 2
      · rw [if_pos h]
        have : (decide ((n : Int) = 0) || decide ((n : Int) = 1)) = true := by rw [Bool.or_eq_true, decide_eq_true_iff, decide_eq_true_iff]; omega
        rw [this]; rfl
      · rw [if_neg h]
        have : (decide ((n : Int) = 0) || decide ((n : Int) = 1)) = false := by rw [← Bool.not_eq_true, Bool.or_eq_true, decide_eq_true_iff, decide_eq_true_iff]; omega
        rw [this]; rfl
  · simp only [bndD, show decide (((105 : UInt8).toNat : Int) = 116) = false from rfl, show decide (((105 : UInt8).toNat : Int) = 102) = false from rfl, show decide (((105 : UInt8).toNat : Int) = 115) = false from rfl, show decide (((105 : UInt8).toNat : Int) = 105) = true from rfl, bif_tt, bif_ff, number33, bnoS]
    unfold putV sennitref33_put_J0
    rw [if_neg (by decide), if_neg (by decide), bndD]
    cases numV w with
    | none => exact ⟨_, _, rfl, rfl⟩
    | some n => exact ⟨_, _, rfl, by show _ = bif decide ((0 : Int) ≤ (n : Int)) then _ else _; rw [key]; rfl⟩
  · simp only [bndD, show decide (((110 : UInt8).toNat : Int) = 116) = false from rfl, show decide (((110 : UInt8).toNat : Int) = 102) = false from rfl, show decide (((110 : UInt8).toNat : Int) = 115) = false from rfl, show decide (((110 : UInt8).toNat : Int) = 105) = false from rfl, show decide (((110 : UInt8).toNat : Int) = 110) = true from rfl, bif_tt, bif_ff, number33, bnoS]
    unfold putV sennitref33_put_J0
    rw [if_neg (by decide), if_neg (by decide), bndD]
    cases numV w with
    | none => exact ⟨_, _, rfl, rfl⟩
    | some n => exact ⟨_, _, rfl, by show _ = bif decide ((0 : Int) ≤ (n : Int)) then _ else _; rw [key]; rfl⟩
  · simp only [bndD, show decide (((109 : UInt8).toNat : Int) = 116) = false from rfl, show decide (((109 : UInt8).toNat : Int) = 102) = false from rfl, show decide (((109 : UInt8).toNat : Int) = 115) = false from rfl, show decide (((109 : UInt8).toNat : Int) = 105) = false from rfl, show decide (((109 : UInt8).toNat : Int) = 110) = false from rfl, show decide (((109 : UInt8).toNat : Int) = 109) = true from rfl, bif_tt, bif_ff, number33, bnoS]
    unfold putV sennitref33_put_J0
    rw [if_neg (by decide), if_neg (by decide), bndD]
    cases numV w with
    | none => exact ⟨_, _, rfl, rfl⟩
    | some n => exact ⟨_, _, rfl, by show _ = bif decide ((0 : Int) ≤ (n : Int)) then _ else _; rw [key]; rfl⟩
  · simp only [bndD, show decide (((112 : UInt8).toNat : Int) = 116) = false from rfl, show decide (((112 : UInt8).toNat : Int) = 102) = false from rfl, show decide (((112 : UInt8).toNat : Int) = 115) = false from rfl, show decide (((112 : UInt8).toNat : Int) = 105) = false from rfl, show decide (((112 : UInt8).toNat : Int) = 110) = false from rfl, show decide (((112 : UInt8).toNat : Int) = 109) = false from rfl, bif_tt, bif_ff, number33, bnoS]
    unfold putV sennitref33_put_J0
    rw [if_neg (by decide), if_neg (by decide), bndD]
    cases numV w with
    | none => exact ⟨_, _, rfl, rfl⟩
    | some n => exact ⟨_, _, rfl, by show _ = bif decide ((0 : Int) ≤ (n : Int)) then _ else _; rw [key]; rfl⟩
  · simp only [bndD, show decide (((116 : UInt8).toNat : Int) = 116) = true from rfl, bif_tt, unhex33 hw, bnoS]
    unfold putV
    rw [if_pos rfl]
    refine ⟨_, _, rfl, ?_⟩
    cases textV w <;> rfl
  · simp only [bndD, show decide (((102 : UInt8).toNat : Int) = 116) = false from rfl, show decide (((102 : UInt8).toNat : Int) = 102) = true from rfl, bif_tt, bif_ff]
    unfold putV
    rw [if_neg (by decide), if_pos rfl]
    refine ⟨_, _, rfl, ?_⟩
    by_cases h : w = [43] ∨ w = [45]
    · rw [if_pos h]
      have : (decide (w = [43]) || decide (w = [45])) = true := by rw [Bool.or_eq_true, decide_eq_true_iff, decide_eq_true_iff]; exact h
      rw [this]; rfl
    · rw [if_neg h]
      have : (decide (w = [43]) || decide (w = [45])) = false := by rw [← Bool.not_eq_true, Bool.or_eq_true, decide_eq_true_iff, decide_eq_true_iff]; exact h
      rw [this]; rfl
end Go.Fn
set_option linter.unusedSimpArgs false
set_option linter.unusedVariables false
open Go Go.IL
namespace Go.Fn
/-! Console: both ways to read a line tell the same. -/
def glueL (w : List UInt8) : List (List UInt8) → List (List UInt8)
  | [] => [w]
  | v :: vs => (w ++ v) :: vs
theorem glue_nil {l : List (List UInt8)} (h : l ≠ []) : glueL [] l = l := by
  cases l with
  | nil => exact absurd rfl h
  | cons v vs => rfl
theorem glue_splitL (c b : UInt8) (w l : List UInt8) (h : b ≠ c) : glueL w (splitL c (b :: l)) = glueL (w ++ [b]) (splitL c l) := by
  rw [show splitL c (b :: l) = (if b = c then [] :: splitL c l else match splitL c l with | [] => [[b]] | w :: ws => (b :: w) :: ws) from rfl, if_neg h]
  cases splitL c l with
  | nil => rfl
  | cons v vs => show (w ++ b :: v) :: vs = (w ++ [b] ++ v) :: vs; rw [List.append_assoc]; rfl
theorem u8_eq_int (b : UInt8) (n : Nat) (hn : n < 256) : decide ((b.toNat : Int) = (n : Int)) = decide (b = UInt8.ofNat n) := by
  by_cases h : b = UInt8.ofNat n
  · rw [decide_eq_true h, h, UInt8.toNat_ofNat', Nat.mod_eq_of_lt (by omega)]; exact decide_eq_true rfl
  · rw [decide_eq_false h]
    refine decide_eq_false fun e => h ?_
    have e : b.toNat = n := by omega
    rw [← e]; exact UInt8.ofNat_toNat.symm
theorem words_L {s : List UInt8} (hs : s.length ≤ 100000) : ∀ (r p : List UInt8) (done : List (List UInt8)) (w : List UInt8) (f : Nat), s = p ++ r → r.length < f → done.length ≤ p.length → w.length ≤ p.length → sennitref33_words_L0 s f (done ++ [w]) (p.length : Int) = some (done ++ glueL w (splitL 32 r))
  | [], p, done, w, f + 1, h, _, _, _ => by
    rw [List.append_nil] at h
    rw [sennitref33_words_L0]
    simp only [bndD, h, lt_len, bif_ff]
    rw [show splitL 32 [] = [[]] from rfl, show glueL w [[]] = [w ++ []] from rfl, List.append_nil]
  | b :: r, p, done, w, f + 1, h, hf, hd, hw => by
    have hpl : p.length + 1 ≤ 100000 := by rw [h] at hs; simp at hs; omega
    rw [sennitref33_words_L0]
    simp only [bndD, lt_at h, bif_tt, gix_at h, bnoS, w_at h (show s.length ≤ 1000000 by omega)]
    rw [show decide ((b.toNat : Int) = 32) = decide (b = 32) from u8_eq_int b 32 (by decide)]
    by_cases hb : b = 32
    · rw [decide_eq_true hb, bif_tt, app_ok (by simp; omega) (by simp; omega), bnoS]
      rw [words_L hs r (p ++ [b]) (done ++ [w]) [] f (next_at h) (by simpa using hf) (by simp; omega) (by simp), glue_nil (splitL_ne _ _)]
      rw [show splitL 32 (b :: r) = [] :: splitL 32 r from if_pos hb, show glueL w ([] :: splitL 32 r) = (w ++ []) :: splitL 32 r from rfl, List.append_nil, List.append_assoc, List.singleton_append]
    · rw [decide_eq_false hb, bif_ff]
      have e1 : IntKind.wrap .i64 (((done ++ [w]).length : Int) - 1) = (done.length : Int) := by rw [List.length_append, List.length_singleton, w64 (by omega) (by omega)]; omega
      have hg : gix (done ++ [w]) (done.length : Int) = some w := gix_at (l := done ++ [w]) (p := done) (r := []) rfl
      have hg2 : (done ++ [w])[((done.length : Int)).toNat]? = some w := by rw [Int.toNat_natCast, List.getElem?_append_right (Nat.le_refl _)]; simp
      have hc : cut s (p.length : Int) ((p ++ [b]).length : Int) = some [b] := by
        rw [cut_ok (by omega) (by simp; omega) (by rw [h]; simp; omega), h, Int.toNat_natCast, Int.toNat_natCast, show p ++ b :: r = (p ++ [b]) ++ r by simp, List.take_left']
        · rw [List.drop_left']; rfl
        · rfl
      have hst : (done ++ [w]).set ((done.length : Int)).toNat (w ++ [b]) = done ++ [w ++ [b]] := by rw [Int.toNat_natCast, List.set_append_right _ _ (Nat.le_refl _)]; simp
      simp only [e1, hg, hg2, bnoS, hc, cat_ok (a := w) (b := [b]) (by simp; omega), hst]
      rw [words_L hs r (p ++ [b]) done (w ++ [b]) f (next_at h) (by simpa using hf) (by simp; omega) (by simp; omega), glue_splitL _ _ _ _ hb]
theorem words33 {s : List UInt8} (hs : s.length ≤ 100000) : sennitref33_words s = some (splitL 32 s) := by
  have h := words_L hs s [] [] [] fuel rfl (fuel_gt (by omega)) (Nat.le_refl _) (Nat.le_refl _)
  rw [glue_nil (splitL_ne _ _)] at h
  exact h
/-! Kinds. -/
def forms33 : List T_console_form := (console_forms).getD []
theorem forms_is : console_forms = some forms33 := rfl
def names33 : List (List UInt8) := forms33.map (·.name)
theorem names_is : console_Names = some names33 := by kernel_rfl
/-- The number of a name; 16 for none. -/
def kx (w : List UInt8) : Nat := names33.idxOf w
theorem sidx_L (l : List (List UInt8)) (hl : l.length ≤ 1000000) (a : List UInt8) : ∀ (r p : List (List UInt8)) (f : Nat), l = p ++ r → r.length < f → slices_Index_string_string_L0 l a f (p.length : Int) = some (if r.idxOf a < r.length then ((p.length + r.idxOf a : Nat) : Int) else -1)
  | [], p, f + 1, h, _ => by
    rw [List.append_nil] at h
    rw [slices_Index_string_string_L0]
    simp only [bndD, h, lt_len, bif_ff]; rfl
  | b :: r, p, f + 1, h, hf => by
    rw [slices_Index_string_string_L0]
    simp only [bndD, lt_at h, bif_tt, gix_at h, bnoS, w_at h hl]
    by_cases hb : a = b
    · subst hb
      rw [decide_eq_true rfl, bif_tt, List.idxOf_cons_self, if_pos (by simp)]; rfl
    · rw [decide_eq_false hb, bif_ff, sidx_L l hl a r (p ++ [b]) f (next_at h) (by simpa using hf), List.idxOf_cons, show (b == a) = false from beq_false_of_ne (fun e => hb e.symm), cond_false]
      simp only [List.length_append, List.length_cons, List.length_nil]
      by_cases h2 : r.idxOf a < r.length
      · rw [if_pos h2, if_pos (by omega)]; congr 1; omega
      · rw [if_neg h2, if_neg (by omega)]
theorem kind33 (w : List UInt8) : slices_Index_string_string names33 w = some (if kx w < 16 then (kx w : Int) else -1) := by
  have h := sidx_L names33 (by decide) w names33 [] fuel rfl (fuel_gt (by decide))
  refine Eq.trans h ?_
  rw [show names33.length = 16 from rfl, show ([] : List (List UInt8)).length + names33.idxOf w = kx w from Nat.zero_add _]
  rfl
theorem kx_le (w : List UInt8) : kx w ≤ 16 := List.idxOf_le_length
theorem names_rt : ((List.range 16).all fun i => match sennitref33_Name (i : Int) with | some n => decide (names33[i]? = some n) && decide (names33.idxOf n = i) | none => false) = true := by kernel_rfl
theorem name_at {i : Nat} (hi : i < 16) : ∃ n, sennitref33_Name (i : Int) = some n ∧ names33[i]? = some n ∧ kx n = i := by
  have h := List.all_eq_true.1 names_rt i (List.mem_range.2 hi)
  revert h
  cases sennitref33_Name (i : Int) with
  | none => intro h; cases h
  | some n => intro h; rw [Bool.and_eq_true, decide_eq_true_iff, decide_eq_true_iff] at h; exact ⟨n, rfl, h⟩
theorem name_kx {w : List UInt8} (h : kx w < 16) : names33[kx w]? = some w := by
  have h : names33.idxOf w < names33.length := h
  unfold kx
  rw [List.getElem?_eq_getElem h, List.getElem_idxOf]
/-- What a kind has. -/
def hasK (k : Nat) : List UInt8 := (forms33.getD k ⟨[], []⟩).has
def formK (k : Nat) : T_console_form := forms33.getD k ⟨[], []⟩
theorem fields_rt : ((List.range 16).all fun i => (match sennitref33_fields (i : Int) with | some l => decide (l = hasK i) | none => false) && decide (gix forms33 (i : Int) = some (formK i)) && decide ((hasK i).length ≤ 5) && (hasK i).all (fun c => decide (fieldC c)) && decide (IntKind.wrap .u8 (i : Int) = (i : Int)) && decide ((hasK i).Nodup)) = true := by kernel_rfl
theorem fields_at {i : Nat} (hi : i < 16) : sennitref33_fields (i : Int) = some (hasK i) ∧ gix forms33 (i : Int) = some (formK i) ∧ (hasK i).length ≤ 5 ∧ (∀ c ∈ hasK i, fieldC c) ∧ IntKind.wrap .u8 (i : Int) = (i : Int) ∧ (hasK i).Nodup := by
  have h := List.all_eq_true.1 fields_rt i (List.mem_range.2 hi)
  simp only [Bool.and_eq_true, decide_eq_true_iff, List.all_eq_true] at h
  obtain ⟨⟨⟨⟨⟨h1, h2⟩, h3⟩, h4⟩, h5⟩, h6⟩ := h
  refine ⟨?_, h2, h3, h4, h5, h6⟩
  revert h1
  cases sennitref33_fields (i : Int) with
  | none => intro h; cases h
  | some l => intro h; rw [of_decide_eq_true h]
/-! Fields. -/
def parF : List UInt8 → List (List UInt8) → S33 → Option S33
  | c :: cs, w :: ws, s => (putV s c w).bind (parF cs ws)
  | _, _, s => some s
def S0 : S33 := ⟨0, 0, 0, 0, 0, 0, [], false⟩
def fin33 : Option S33 → S33 × Int
  | none => (S0, 60)
  | some s => if 300 < s.Text.length then (S0, 5) else (s, 0)
theorem fin_some (s : S33) : (bif decide (300 < (s.Text.length : Int)) then some (S0, 5) else some (s, 0)) = some (fin33 (some s)) := by
  unfold fin33
  by_cases h : 300 < s.Text.length
  · rw [decide_eq_true (by omega), bif_tt]; simp only [if_pos h]
  · rw [decide_eq_false (by omega), bif_ff]; simp only [if_neg h]
theorem parse_L {W : List (List UInt8)} {F : T_console_form} (hF : F.has.length ≤ 5) (hc : ∀ c ∈ F.has, fieldC c) (hW : ∀ w ∈ W, w.length ≤ 100000) : ∀ (cs pc : List UInt8) (ws pw : List (List UInt8)) (s : S33) (f : Nat), F.has = pc ++ cs → W = pw ++ ws → cs.length = ws.length → pw.length = pc.length + 1 → cs.length < f → console_Parse_L0 W F f (pc.length : Int) s.Kind s.Side s.ID s.N s.M s.Path s.Text s.Flag = some (fin33 (parF cs ws s))
  | [], pc, [], pw, s, f + 1, h, h2, _, _, _ => by
    rw [List.append_nil] at h
    rw [console_Parse_L0]
    simp only [bndD, h, lt_len, bif_ff]
    exact fin_some s
  | c :: cs, pc, w :: ws, pw, s, f + 1, h, h2, h3, h4, hf => by
    obtain ⟨b, s', k1, k2⟩ := put33 (hc c (by rw [h]; simp)) (hW w (by rw [h2]; simp)) s
    rw [console_Parse_L0]
    have e : ((pc ++ [c]).length : Int) = (pw.length : Int) := by simp; omega
    simp only [bndD, lt_at h, bif_tt, gix_at h, bnoS, w_at h (show F.has.length ≤ 1000000 by omega)]
    rw [e, gix_at h2, bnoS]
    rw [show (⟨s.Kind, s.Side, s.ID, s.N, s.M, s.Path, s.Text, s.Flag⟩ : T_world_Step) = s from rfl, k1, bnoS]
    show _ = some (fin33 ((putV s c w).bind (parF cs ws)))
    rw [k2]
    cases b with
    | false => rfl
    | true =>
      show console_Parse_L0 W F f (pw.length : Int) s'.Kind s'.Side s'.ID s'.N s'.M s'.Path s'.Text s'.Flag = _
      rw [← e]
      exact parse_L hF hc hW cs (pc ++ [c]) ws (pw ++ [w]) s' f (next_at h) (next_at h2) (by simpa using h3) (by simp; omega) (by simpa using hf)
theorem rparse_L {W : List (List UInt8)} {F : List UInt8} (hF : F.length ≤ 5) (hc : ∀ c ∈ F, fieldC c) (hW : ∀ w ∈ W, w.length ≤ 100000) (cs : List UInt8) : ∀ (pc : List UInt8) (ws pw : List (List UInt8)) (s : S33) (f : Nat), F = pc ++ cs → W = pw ++ ws → cs.length = ws.length → pw.length = pc.length + 1 → cs.length < f → sennitref33_Parse_L1 W F f (pc.length : Int) s.Kind s.Side s.ID s.N s.M s.Path s.Text s.Flag = some (fin33 (parF cs ws s)) := by
  induction cs with
  | nil =>
    intro pc ws pw s f h h2 h3 h4 hf
    obtain ⟨f, rfl⟩ : ∃ g, f = g + 1 := ⟨f - 1, by simp at hf; omega⟩
    have hws : ws = [] := List.length_eq_zero_iff.1 h3.symm
    subst hws
    rw [List.append_nil] at h
    rw [sennitref33_Parse_L1]
    simp only [bndD]
    rw [h, lt_len, Bool.false_and, bif_ff]
    exact fin_some s
  | cons c cs ih =>
    intro pc ws pw s f h h2 h3 h4 hf
    obtain ⟨f, rfl⟩ : ∃ g, f = g + 1 := ⟨f - 1, by simp at hf; omega⟩
    obtain ⟨w, ws, rfl⟩ : ∃ w ws', ws = w :: ws' := List.exists_cons_of_ne_nil (by intro e; rw [e] at h3; cases h3)
    obtain ⟨b, s', k1, k2⟩ := rput33 (hc c (by rw [h]; simp)) (hW w (by rw [h2]; simp)) s
    rw [sennitref33_Parse_L1]
    have e : ((pc ++ [c]).length : Int) = (pw.length : Int) := by simp; omega
    simp only [bndD, lt_at h, w_at h (show F.length ≤ 1000000 by omega)]
    rw [e, lt_at h2, Bool.and_self, bif_tt, gix_at h, bnoS, gix_at h2, bnoS]
    rw [show (⟨s.Kind, s.Side, s.ID, s.N, s.M, s.Path, s.Text, s.Flag⟩ : T_world_Step) = s from rfl, k1, bnoS]
    show _ = some (fin33 ((putV s c w).bind (parF cs ws)))
    rw [k2]
    cases b with
    | false => rfl
    | true =>
      show sennitref33_Parse_L1 W F f (pw.length : Int) s'.Kind s'.Side s'.ID s'.N s'.M s'.Path s'.Text s'.Flag = _
      rw [← e]
      exact ih (pc ++ [c]) ws (pw ++ [w]) s' f (next_at h) (next_at h2) (by simpa using h3) (by simp; omega) (by simpa using hf)
/-! Lines. -/
def parseS (s : List UInt8) : S33 × Int :=
  if s = [] ∨ s.head? = some 35 then (S0, 6)
  else if kx ((splitL 32 s).headD []) = 16 then (S0, 12)
  else if (splitL 32 s).length ≠ (hasK (kx ((splitL 32 s).headD []))).length + 1 then (S0, 60)
  else fin33 (parF (hasK (kx ((splitL 32 s).headD []))) (splitL 32 s).tail ⟨(kx ((splitL 32 s).headD []) : Int), 0, 0, 0, 0, 0, [], false⟩)
theorem join_mem {c : UInt8} : ∀ {l : List (List UInt8)} {w : List UInt8}, w ∈ l → w.length ≤ (joinL c l).length
  | [u], w, h => by rw [List.mem_singleton.1 h]; exact Nat.le_refl _
  | u :: v :: l, w, h => by
    rw [joinL_cons (by simp), List.length_append, List.length_cons]
    rcases List.mem_cons.1 h with e | h
    · rw [e]; omega
    · have := join_mem (c := c) h; omega
theorem split_len {c : UInt8} {s w : List UInt8} (h : w ∈ splitL c s) : w.length ≤ s.length := by
  have := join_mem (c := c) h
  rwa [join_split] at this
theorem split_cnt (c : UInt8) : ∀ s : List UInt8, (splitL c s).length ≤ s.length + 1
  | [] => Nat.le_refl _
  | b :: l => by
    have := split_cnt c l
    unfold splitL
    split
    · simp; omega
    · split
      · simp
      · rename_i e; rw [e] at this; simp at this ⊢; omega
theorem parse33 {s : List UInt8} (hs : s.length ≤ 100000) : console_Parse s = some (parseS s) := by
  unfold console_Parse parseS
  rw [bndD]
  by_cases h1 : s = []
  · rw [decide_eq_true h1, if_pos (.inl h1)]; rfl
  · obtain ⟨b, r, rfl⟩ := List.exists_cons_of_ne_nil h1
    rw [decide_eq_false h1, beq_self_eq_true, gdtt, show gix (b :: r) 0 = some b from rfl, bnoS, bndD, bndD, Bool.false_or, show decide ((b.toNat : Int) = 35) = decide (b = 35) from u8_eq_int b 35 (by decide)]
    by_cases h2 : b = 35
    · rw [decide_eq_true h2, bif_tt, if_pos (.inr (by rw [h2]; rfl))]; rfl
    · rw [decide_eq_false h2, bif_ff, if_neg (fun h => h.elim h1 (fun e => h2 (by injection e)))]
      rw [splitA (by omega), bnoS, names_is, bnoS]
      have hm := fun w (h : w ∈ splitL 32 (b :: r)) => Nat.le_trans (split_len h) hs
      have hcn := split_cnt 32 (b :: r)
      cases hW : splitL 32 (b :: r) with
      | nil => exact absurd hW (splitL_ne _ _)
      | cons w ws =>
        rw [hW] at hm hcn
        rw [show gix (w :: ws) 0 = some w from rfl, bnoS, kind33, bnoS, bndD]
        show _ = some (if kx w = 16 then _ else if (w :: ws).length ≠ (hasK (kx w)).length + 1 then _ else _)
        have hk := kx_le w
        by_cases h3 : kx w = 16
        · rw [if_neg (by omega), if_pos h3]; rfl
        · have hk : kx w < 16 := by omega
          obtain ⟨_, f2, f3, f4, f5, _⟩ := fields_at hk
          rw [if_pos hk, if_neg h3, decide_eq_false (by omega), bif_ff, forms_is, bnoS, f2, bnoS, bndD, bndD]
          have hl : (formK (kx w)).has = hasK (kx w) := rfl
          rw [hl, w64 (by omega) (by omega)]
          by_cases h4 : (w :: ws).length = (hasK (kx w)).length + 1
          · rw [decide_eq_true (by omega), Bool.not_true, bif_ff, if_neg (fun h => h h4), bndD, f5]
            exact parse_L (F := formK (kx w)) f3 f4 hm (hasK (kx w)) [] ws [w] ⟨(kx w : Int), 0, 0, 0, 0, 0, [], false⟩ fuel rfl rfl (by simpa using h4.symm) rfl (fuel_gt (by omega))
          · rw [decide_eq_false (by omega), Bool.not_false, bif_tt, if_pos h4]; rfl
theorem rkind_L {w : List UInt8} {ws : List (List UInt8)} : ∀ (j i : Nat) (f : Nat), i + j = 16 → j < f → sennitref33_Parse_L0 (w :: ws) f ((if kx w < i then kx w else 16 : Nat) : Int) (i : Int) = sennitref33_Parse_L0 (w :: ws) (f - j) ((kx w : Nat) : Int) 16
  | 0, i, f, h, _ => by
    have h : i = 16 := h
    have := kx_le w
    subst h
    by_cases h : kx w < 16
    · rw [if_pos h]; rfl
    · rw [if_neg h, show kx w = 16 by omega]; rfl
  | j + 1, i, f + 1, h, hf => by
    obtain ⟨n, n1, n2, n3⟩ := name_at (i := i) (by omega)
    rw [sennitref33_Parse_L0]
    have hwi : IntKind.wrap .u8 ((i : Int) + 1) = ((i + 1 : Nat) : Int) := by rw [IntKind.wrap_u8, Int.emod_eq_of_lt (by omega) (by omega)]; omega
    rw [bndD, decide_eq_true (show (i : Int) < 16 by omega), bif_tt, n1, bnoS, show gix (w :: ws) 0 = some w from rfl, bnoS, bndD]
    rw [show f + 1 - (j + 1) = f - j by omega, ← rkind_L j (i + 1) f (by omega) (by omega)]
    by_cases hn : n = w
    · rw [decide_eq_true hn, bif_tt, bndD, hwi]
      subst hn
      rw [n3, if_pos (by omega)]
    · rw [decide_eq_false hn, bif_ff, bndD, hwi]
      have : kx w ≠ i := fun e => hn (by
        have := name_kx (w := w) (by omega)
        rw [e, n2] at this
        injection this)
      by_cases h2 : kx w < i
      · rw [if_pos h2, if_pos (by omega)]
      · rw [if_neg h2, if_neg (by omega)]
theorem rparse33 {s : List UInt8} (hs : s.length ≤ 100000) : sennitref33_Parse s = some (parseS s) := by
  unfold sennitref33_Parse parseS
  rw [bndD]
  by_cases h1 : s = []
  · rw [decide_eq_true h1, if_pos (.inl h1)]; rfl
  · obtain ⟨b, r, rfl⟩ := List.exists_cons_of_ne_nil h1
    rw [decide_eq_false h1, beq_self_eq_true, gdtt, show gix (b :: r) 0 = some b from rfl, bnoS, bndD, bndD, Bool.false_or, show decide ((b.toNat : Int) = 35) = decide (b = 35) from u8_eq_int b 35 (by decide)]
    by_cases h2 : b = 35
    · rw [decide_eq_true h2, bif_tt, if_pos (.inr (by rw [h2]; rfl))]; rfl
    · rw [decide_eq_false h2, bif_ff, if_neg (fun h => h.elim h1 (fun e => h2 (by injection e)))]
      rw [words33 hs, bnoS]
      have hm := fun w (h : w ∈ splitL 32 (b :: r)) => Nat.le_trans (split_len h) hs
      have hcn := split_cnt 32 (b :: r)
      cases hW : splitL 32 (b :: r) with
      | nil => exact absurd hW (splitL_ne _ _)
      | cons w ws =>
        rw [hW] at hm hcn
        have hL := rkind_L (w := w) (ws := ws) 16 0 fuel rfl (fuel_gt (by decide))
        rw [if_neg (by omega)] at hL
        refine Eq.trans hL ?_
        show _ = some (if kx w = 16 then _ else if (w :: ws).length ≠ (hasK (kx w)).length + 1 then _ else _)
        have hk := kx_le w
        obtain ⟨g, hg⟩ : ∃ g, fuel - 16 = g + 1 := ⟨fuel - 17, by have : (100 : Nat) < fuel := fuel_gt (by decide); omega⟩
        rw [hg, sennitref33_Parse_L0]
        rw [bndD, show decide ((16 : Int) < 16) = false from rfl, bif_ff, bndD]
        by_cases h3 : kx w = 16
        · rw [decide_eq_true (by omega), bif_tt, if_pos h3]; rfl
        · have hk : kx w < 16 := by omega
          obtain ⟨f1, f2, f3, f4, f5, _⟩ := fields_at hk
          rw [decide_eq_false (by omega), bif_ff, if_neg h3, f1, bnoS, bndD, bndD, w64 (by omega) (by omega)]
          by_cases h4 : (w :: ws).length = (hasK (kx w)).length + 1
          · rw [decide_eq_true (by omega), Bool.not_true, bif_ff, if_neg (fun h => h h4)]
            exact rparse_L (F := hasK (kx w)) f3 f4 hm (hasK (kx w)) [] ws [w] ⟨(kx w : Int), 0, 0, 0, 0, 0, [], false⟩ fuel rfl rfl (by simpa using h4.symm) rfl (fuel_gt (by omega))
          · rw [decide_eq_false (by omega), Bool.not_false, bif_tt, if_pos h4]; rfl
end Go.Fn
set_option linter.unusedSimpArgs false
set_option linter.unusedVariables false
open Go Go.IL
namespace Go.Fn
/-! Console: scripts; ConsoleParses. -/
theorem iidx_no {s : List UInt8} {c : UInt8} (h : c ∉ s) : ∃ k, internal_stringslite_Index s [c] = some k ∧ k < 0 := by
  unfold internal_stringslite_Index internal_stringslite_IndexByte
  simp only [bndD, List.length_singleton, show decide (((1 : Nat) : Int) = 0) = false from rfl, show decide (((1 : Nat) : Int) = 1) = true from rfl, Bool.false_or]
  have hne : ([c] : List UInt8) ≠ s := fun e => h (by rw [← e]; simp)
  rw [decide_eq_false hne, bif_ff, bif_tt, show gix [c] 0 = some c from rfl]
  simp only [bnoS, idx_no h]
  exact ⟨_, rfl, by decide⟩
theorem iidx_yes {w r : List UInt8} {c : UInt8} (h : c ∉ w) : internal_stringslite_Index (w ++ c :: r) [c] = some (w.length : Int) := by
  obtain h2 := sidx_yes (r := r) h
  unfold strings_Index at h2
  cases h3 : internal_stringslite_Index (w ++ c :: r) [c] with
  | none => rw [h3] at h2; cases h2
  | some k => rw [h3] at h2; exact h2
theorem cut_no {s : List UInt8} {c : UInt8} (h : c ∉ s) : strings_Cut s [c] = some (s, [], false) := by
  obtain ⟨k, h1, h2⟩ := iidx_no h
  unfold strings_Cut internal_stringslite_Cut
  rw [h1, bnoS, bndD, decide_eq_false (by omega), bif_ff]; rfl
theorem cut_yes {w r : List UInt8} {c : UInt8} (h : c ∉ w) (hl : (w ++ c :: r).length ≤ 1000000) : strings_Cut (w ++ c :: r) [c] = some (w, r, true) := by
  unfold strings_Cut internal_stringslite_Cut
  rw [iidx_yes h, bnoS, bndD, decide_eq_true (by omega), bif_tt, cut_at rfl, bnoS, bndD]
  have e : IntKind.wrap .i64 ((w.length : Int) + (([c] : List UInt8).length : Int)) = ((w ++ [c]).length : Int) := by
    simp at hl
    rw [List.length_singleton, w64 (by omega) (by omega), List.length_append, List.length_singleton]; omega
  rw [e, cut_from (p := w ++ [c]) (r := r) (by simp), bnoS]; rfl
def linesL : List (List UInt8) → List (List UInt8)
  | [] => []
  | [w] => if w = [] then [] else [w]
  | w :: v :: ws => w :: linesL (v :: ws)
def scriptL : List (List UInt8) → List S33 → Nat → List S33 × Int × Int
  | [], acc, _ => (acc, 0, 0)
  | l :: ls, acc, n => if (parseS l).2 = 0 then scriptL ls (acc ++ [(parseS l).1]) (n + 1) else if (parseS l).2 = 6 then scriptL ls acc (n + 1) else ([], (n : Int), (parseS l).2)
theorem wn {n : Nat} (h : n ≤ 1000000) : IntKind.wrap .i64 ((n : Int) + 1) = ((n + 1 : Nat) : Int) := by rw [w64 (by omega) (by omega)]; omega
theorem script_step {t w r : List UInt8} {acc : List S33} {n : Nat} {x : Bool} (f : Nat) (ht : t ≠ []) (hc : strings_Cut t [10] = some (w, r, x)) (hw : w.length ≤ 100000) (hn : n ≤ 1000000) (ha : acc.length ≤ 1000000) :
    console_Script_L0 (f + 1) t acc (n : Int) = if (parseS w).2 = 0 then console_Script_L0 f r (acc ++ [(parseS w).1]) ((n + 1 : Nat) : Int) else if (parseS w).2 = 6 then console_Script_L0 f r acc ((n + 1 : Nat) : Int) else some ([], (n : Int), (parseS w).2) := by
  rw [console_Script_L0]
  rw [bndD, decide_eq_false ht, Bool.not_false, bif_tt, hc, bnoS, parse33 hw, bnoS, bndD]
  by_cases h1 : (parseS w).2 = 0
  · rw [decide_eq_true h1, bif_tt, if_pos h1, app_ok (by simp; omega) (by simp; omega), bnoS, bndD, wn hn]
  · rw [decide_eq_false h1, bif_ff, if_neg h1, bndD]
    by_cases h2 : (parseS w).2 = 6
    · rw [decide_eq_true h2, bif_tt, if_pos h2, bndD, wn hn]
    · rw [decide_eq_false h2, bif_ff, if_neg h2]
theorem script_L : ∀ (ws : List (List UInt8)) (acc : List S33) (n f : Nat), ws ≠ [] → (∀ w ∈ ws, (10 : UInt8) ∉ w) → (joinL 10 ws).length ≤ 100000 → ws.length + 1 < f → n + ws.length ≤ 1000000 → acc.length ≤ n → console_Script_L0 f (joinL 10 ws) acc (n : Int) = some (scriptL (linesL ws) acc n)
  | [w], acc, n, f + 2, _, hf, hl, _, hn, ha => by
    show console_Script_L0 (f + 2) w acc (n : Int) = some (scriptL (if w = [] then [] else [w]) acc n)
    by_cases hw : w = []
    · subst hw; rfl
    · have hl : w.length ≤ 100000 := hl
      simp at hn
      rw [script_step (f + 1) hw (cut_no (hf w (by simp))) hl (by omega) (by omega), if_neg hw]
      show _ = some (if (parseS w).2 = 0 then _ else if (parseS w).2 = 6 then _ else _)
      split
      · rfl
      · split <;> rfl
  | w :: v :: ws, acc, n, f + 1, _, hf, hl, hg, hn, ha => by
    have hl0 := hl
    rw [joinL_cons (by simp)] at hl ⊢
    have hl2 := hl
    simp at hl hn hg
    rw [script_step f (by simp) (cut_yes (hf w (by simp)) (by omega)) (by omega) (by omega) (by omega)]
    show _ = some (if (parseS w).2 = 0 then _ else if (parseS w).2 = 6 then _ else _)
    have hlj : (joinL 10 (v :: ws)).length ≤ 100000 := by omega
    split
    · exact script_L (v :: ws) _ (n + 1) f (by simp) (fun x hx => hf x (by simp [hx])) hlj (by simp; omega) (by simp; omega) (by simp; omega)
    · split
      · exact script_L (v :: ws) _ (n + 1) f (by simp) (fun x hx => hf x (by simp [hx])) hlj (by simp; omega) (by simp; omega) (by omega)
      · rfl
theorem script33 {s : List UInt8} (hs : s.length ≤ 100000) : console_Script s = some (scriptL (linesL (splitL 10 s)) [] 1) := by
  have hc := split_cnt 10 s
  have h := script_L (splitL 10 s) [] 1 fuel (splitL_ne _ _) (split_free 10 s) (by rw [join_split]; exact hs) (fuel_gt (by omega)) (by omega) (by simp)
  rw [join_split] at h
  exact h
theorem lines_cons {w : List UInt8} {l : List (List UInt8)} (h : l ≠ []) : linesL (w :: l) = w :: linesL l := by
  cases l with
  | nil => exact absurd rfl h
  | cons v vs => rfl
theorem rscript_L {s : List UInt8} (hs : s.length ≤ 100000) (r : List UInt8) : ∀ (p w : List UInt8) (acc : List S33) (n f : Nat), s = p ++ r → r.length + 1 < f → n ≤ p.length → acc.length ≤ n → w.length ≤ p.length → sennitref33_Script_L2 s f acc w (n : Int) (p.length : Int) = some (scriptL (linesL (glueL w (splitL 10 r))) acc (n + 1)) := by
  induction r with
  | nil =>
    intro p w acc n f h hf hn ha hw
    obtain ⟨f, rfl⟩ : ∃ g, f = g + 2 := ⟨f - 2, by simp at hf; omega⟩
    rw [List.append_nil] at h
    subst h
    rw [sennitref33_Script_L2]
    have e : sennitref33_Script_L2 s = sennitref33_Script_L2 s := rfl
    rw [bndD, decide_eq_true (by omega), bif_tt, bndD, lt_len, show ((false == true) : Bool) = false from rfl, gdff, bnoS, bndD, bndD, Bool.false_and, bif_ff, bndD, decide_eq_true rfl, bndD, bndD, Bool.true_and]
    show _ = some (scriptL (linesL [w ++ []]) acc (n + 1))
    rw [List.append_nil]
    show _ = some (scriptL (if w = [] then [] else [w]) acc (n + 1))
    by_cases h0 : w = []
    · rw [decide_eq_true h0, bif_tt, if_pos h0]; rfl
    · rw [decide_eq_false h0, bif_ff, if_neg h0, bndD, wn (by omega), rparse33 (by omega), bnoS, bndD, bndD, bndD]
      have hend : ∀ a b c, sennitref33_Script_L2 s (f + 1) a b c ((s.length + 1 : Nat) : Int) = some (a, 0, 0) := fun a b c => by
        rw [sennitref33_Script_L2, bndD, decide_eq_false (by omega), bif_ff]; rfl
      show _ = some (if (parseS w).2 = 0 then _ else if (parseS w).2 = 6 then _ else _)
      by_cases h1 : (parseS w).2 = 0
      · rw [decide_eq_true h1, Bool.not_true, Bool.false_and, bif_ff, bndD, bif_tt, app_ok (by simp; omega) (by simp; omega), bnoS, bndD, wn (by omega), if_pos h1, hend]; rfl
      · rw [decide_eq_false h1, Bool.not_false, Bool.true_and, if_neg h1]
        by_cases h2 : (parseS w).2 = 6
        · rw [decide_eq_true h2, Bool.not_true, bif_ff, bndD, bif_ff, bndD, wn (by omega), if_pos h2, hend]; rfl
        · rw [decide_eq_false h2, Bool.not_false, bif_tt, if_neg h2]
  | cons b r ih =>
    intro p w acc n f h hf hn ha hw
    obtain ⟨f, rfl⟩ : ∃ g, f = g + 1 := ⟨f - 1, by simp at hf; omega⟩
    have hpl : p.length + 1 ≤ 100000 := by rw [h] at hs; simp at hs; omega
    have hps : p.length < s.length := by rw [h]; simp
    have hwp := w_at h (show s.length ≤ 1000000 by omega)
    rw [sennitref33_Script_L2]
    rw [bndD, decide_eq_true (by omega), bif_tt, bndD, lt_at h, beq_self_eq_true, gdtt, gix_at h, bnoS, bndD, show decide ((b.toNat : Int) = 10) = decide (b = 10) from u8_eq_int b 10 (by decide), bndD, Bool.true_and]
    by_cases hb : b = 10
    · rw [decide_eq_true hb, Bool.not_true, bif_ff, bndD, decide_eq_false (show ¬ (p.length : Int) = (s.length : Int) by omega), bndD, bndD, Bool.false_and, bif_ff, bndD, wn (by omega), rparse33 (by omega), bnoS, bndD, bndD, bndD]
      rw [show splitL 10 (b :: r) = [] :: splitL 10 r from if_pos hb, show glueL w ([] :: splitL 10 r) = (w ++ []) :: splitL 10 r from rfl, List.append_nil, lines_cons (splitL_ne _ _)]
      show _ = some (if (parseS w).2 = 0 then _ else if (parseS w).2 = 6 then _ else _)
      by_cases h1 : (parseS w).2 = 0
      · rw [decide_eq_true h1, Bool.not_true, Bool.false_and, bif_ff, bndD, bif_tt, app_ok (by simp; omega) (by simp; omega), bnoS, bndD, hwp, if_pos h1]
        rw [ih (p ++ [b]) [] _ (n + 1) f (next_at h) (by simpa using hf) (by simp; omega) (by simp; omega) (by simp), glue_nil (splitL_ne _ _)]
      · rw [decide_eq_false h1, Bool.not_false, Bool.true_and, if_neg h1]
        by_cases h2 : (parseS w).2 = 6
        · rw [decide_eq_true h2, Bool.not_true, bif_ff, bndD, bif_ff, bndD, hwp, if_pos h2]
          rw [ih (p ++ [b]) [] _ (n + 1) f (next_at h) (by simpa using hf) (by simp; omega) (by omega) (by simp), glue_nil (splitL_ne _ _)]
        · rw [decide_eq_false h2, Bool.not_false, bif_tt, if_neg h2]
    · have hc : cut s (p.length : Int) ((p ++ [b]).length : Int) = some [b] := by
        rw [cut_ok (by omega) (by simp; omega) (by rw [h]; simp; omega), h, Int.toNat_natCast, Int.toNat_natCast, show p ++ b :: r = (p ++ [b]) ++ r by simp, List.take_left']
        · rw [List.drop_left']; rfl
        · rfl
      rw [decide_eq_false hb, Bool.not_false, bif_tt, bndD, hwp, hc, bnoS, cat_ok (by simp; omega), bnoS, bndD]
      rw [ih (p ++ [b]) (w ++ [b]) acc n f (next_at h) (by simpa using hf) (by simp; omega) ha (by simp; omega), glue_splitL _ _ _ _ hb]
theorem rscript33 {s : List UInt8} (hs : s.length ≤ 100000) : sennitref33_Script s = some (scriptL (linesL (splitL 10 s)) [] 1) := by
  have h := rscript_L hs s [] [] [] 0 fuel rfl (fuel_gt (by omega)) (by simp) (by simp) (by simp)
  rw [glue_nil (splitL_ne _ _)] at h
  exact h
theorem script_bd : ∀ (ls : List (List UInt8)) (acc : List S33) (n : Nat), (scriptL ls acc n).1.length ≤ acc.length + ls.length
  | [], acc, n => by simp [scriptL]
  | l :: ls, acc, n => by
    show (if (parseS l).2 = 0 then _ else if (parseS l).2 = 6 then _ else _ : List S33 × Int × Int).1.length ≤ _
    split
    · have := script_bd ls (acc ++ [(parseS l).1]) (n + 1)
      simp at this ⊢; omega
    · split
      · have := script_bd ls acc (n + 1)
        simp at this ⊢; omega
      · simp
theorem lines_len : ∀ (ws : List (List UInt8)), (linesL ws).length ≤ ws.length
  | [] => Nat.le_refl _
  | [w] => by unfold linesL; split <;> simp
  | w :: v :: ws => by
    have := lines_len (v :: ws)
    rw [lines_cons (by simp)]; simp at this ⊢; omega
theorem back_L {l : List S33} (hl : l.length ≤ 1000000) : ∀ (r p : List S33) (f : Nat), l = p ++ r → r.length < f → sennitlaw33_back_L0 l f p (p.length : Int) = some l
  | [], p, f + 1, h, _ => by
    rw [List.append_nil] at h
    rw [sennitlaw33_back_L0]
    simp only [bndD, h, lt_len, bif_ff]
  | b :: r, p, f + 1, h, hf => by
    have hp : p.length + 1 ≤ 1000000 := by rw [h] at hl; simp at hl; omega
    rw [sennitlaw33_back_L0]
    simp only [bndD, lt_at h, bif_tt, gix_at h, bnoS, w_at h hl]
    rw [app_ok (by simp; omega) (by simp; omega), bnoS]
    exact back_L hl r (p ++ [b]) f (next_at h) (by simpa using hf)
theorem same_L {l : List S33} (hl : l.length ≤ 1000000) : ∀ (r p : List S33) (f : Nat), l = p ++ r → r.length < f → sennitref33_SameSteps_L0 l l f (p.length : Int) = some true
  | [], p, f + 1, h, _ => by
    rw [List.append_nil] at h
    rw [sennitref33_SameSteps_L0]
    simp only [bndD, h, lt_len, bif_ff]
  | b :: r, p, f + 1, h, hf => by
    rw [sennitref33_SameSteps_L0]
    simp only [bndD, lt_at h, bif_tt, gix_at h, bnoS, w_at h hl, decide_true, beq_self_eq_true, Bool.and_self, Bool.not_true, bif_ff]
    exact same_L hl r (p ++ [b]) f (next_at h) (by simpa using hf)
theorem same33 {l : List S33} (hl : l.length ≤ 1000000) : sennitref33_SameSteps l l = some true := by
  unfold sennitref33_SameSteps
  rw [bndD, decide_eq_true rfl, Bool.not_true, bif_ff]
  exact same_L hl l [] fuel rfl (fuel_gt (Nat.lt_of_le_of_lt hl (by decide)))
theorem consoleParses (s : List UInt8) : sennitlaw33_ConsoleParses s = some true := by
  unfold sennitlaw33_ConsoleParses
  rw [bndD]
  by_cases h : 700 < s.length
  · rw [decide_eq_true (by omega), bif_tt, awake33]; rfl
  · have hs : s.length ≤ 100000 := by omega
    have hbd : (scriptL (linesL (splitL 10 s)) [] 1).1.length ≤ 1000000 := by
      have h1 := script_bd (linesL (splitL 10 s)) [] 1
      have h2 := lines_len (splitL 10 s)
      have h3 := split_cnt 10 s
      simp at h1; omega
    rw [decide_eq_false (by omega), bif_ff, parse33 hs, bnoS, rparse33 hs, bnoS, script33 hs, bnoS, rscript33 hs, bnoS]
    simp only [bndD, decide_true, beq_self_eq_true, Bool.and_self, gdtt, Bool.true_and]
    rw [show sennitlaw33_back (scriptL (linesL (splitL 10 s)) [] 1).1 = some (scriptL (linesL (splitL 10 s)) [] 1).1 from back_L hbd _ [] fuel rfl (fuel_gt (Nat.lt_of_le_of_lt hbd (by decide))), bnoS, same33 hbd, bnoS]
    simp only [beq_self_eq_true, gdtt, awake33, bnoS, Bool.and_self]
end Go.Fn
namespace Go.IL
section
variable {P : Program} {O : Origin} {N : Nat} {S S' : St} {o : Oper} {t : Nat} {Q : Exit → St → Prop}
/-! Short names. -/
theorem lb {a b : Nat} (h : Nat.ble (a + 1) b = true) : a < b := Nat.le_of_ble_eq_true h
theorem svI {x : Operand} {k : IntKind} {n : Int} (h : S.op x = .int k n) : SV S x (.int k n) := sv h
theorem svB {x : Operand} {n : Bool} (h : S.op x = .bool n) : SV S x (.bool n) := sv h
theorem svR {x : Operand} {i j : Nat} (h : S.op x = .ref i j) : SV S x (.ref i j) := sv h
theorem svL {x : Operand} {f : Bool} {l : List D} (h : S.op x = .slice f l) : SV S x (.slice f l) := sv h
theorem svA {x : Operand} (l : List D) (h : S.op x = .agg l) : SV S x (.agg l) := sv h
theorem svcI {x : Operand} {b : Bool} {k : IntKind} {n : Int} (h : S.op x = .cnd b (.int k n)) (hb : b = true) : SV S x (.int k n) := svc h hb
theorem svcB {x : Operand} {b n : Bool} (h : S.op x = .cnd b (.bool n)) (hb : b = true) : SV S x (.bool n) := svc h hb
theorem svcR {x : Operand} {b : Bool} {i j : Nat} (h : S.op x = .cnd b (.ref i j)) (hb : b = true) : SV S x (.ref i j) := svc h hb
theorem svcL {x : Operand} {b : Bool} {f : Bool} {l : List D} (h : S.op x = .cnd b (.slice f l)) (hb : b = true) : SV S x (.slice f l) := svc h hb
theorem mvI {x : Operand} {k : IntKind} {n : Int} (ho : o.op = .move x) (hd : o.dst = some t) (ht : Nat.ble (t + 1) N = true) (hx : S.op x = .int k n) : IOp P O N o S (S.set t (.int k n)) := iop_move ho hd (lb ht) (sv hx)
theorem mvB {x : Operand} {n : Bool} (ho : o.op = .move x) (hd : o.dst = some t) (ht : Nat.ble (t + 1) N = true) (hx : S.op x = .bool n) : IOp P O N o S (S.set t (.bool n)) := iop_move ho hd (lb ht) (sv hx)
theorem mvR {x : Operand} {i j : Nat} (ho : o.op = .move x) (hd : o.dst = some t) (ht : Nat.ble (t + 1) N = true) (hx : S.op x = .ref i j) : IOp P O N o S (S.set t (.ref i j)) := iop_move ho hd (lb ht) (sv hx)
theorem mvL {x : Operand} {f : Bool} {l : List D} (ho : o.op = .move x) (hd : o.dst = some t) (ht : Nat.ble (t + 1) N = true) (hx : S.op x = .slice f l) : IOp P O N o S (S.set t (.slice f l)) := iop_move ho hd (lb ht) (sv hx)
theorem asI {x : Operand} {k : IntKind} {n : Int} (ho : o.op = .assign x) (hd : o.dst = some t) (ht : Nat.ble (t + 1) N = true) (hx : S.op x = .int k n) : IOp P O N o S (S.set t (.int k n)) := iop_assign ho hd (lb ht) (sv hx)
theorem asB {x : Operand} {n : Bool} (ho : o.op = .assign x) (hd : o.dst = some t) (ht : Nat.ble (t + 1) N = true) (hx : S.op x = .bool n) : IOp P O N o S (S.set t (.bool n)) := iop_assign ho hd (lb ht) (sv hx)
def LA (P : Program) (T : TypeId) (u : TypeDesc) (z : Option Value) (size bytes : Nat) (g : Bool) : Prop := P.underlying T = some u ∧ aggOf P T = g ∧ TI P T z size bytes ∧ 0 < size
theorem LA.mk {T : TypeId} {u : TypeDesc} {z : Option Value} {size bytes : Nat} {g : Bool} (h1 : P.underlying T = some u) (h2 : aggOf P T = g) (h3 : TI P T z size bytes) (h4 : 0 < size) : LA P T u z size bytes g := ⟨h1, h2, h3, h4⟩
theorem lra {T : TypeId} {x : Operand} {u : TypeDesc} {z : Option Value} {size bytes : Nat} {id off : Nat} {e : TypeId} {ds : List D} (cs : List D) (l : LA P T u z size bytes true) (ho : o.op = .load T x) (hd : o.dst = some t) (ht : Nat.ble (t + 1) N = true)
    (hx : S.op x = .ref id off) (he : S.ent id = .blk e ds) (hn : off + size ≤ ds.length) (hdd : (ds.drop off).take size = cs) : IOp P O N o S (S.set t (.agg cs)) := iop_load_ra ho hd (lb ht) l.1 l.2.1 l.2.2.1 l.2.2.2 (sv hx) he hn hdd
theorem lrL {T : TypeId} {x : Operand} {u : TypeDesc} {z : Option Value} {size bytes : Nat} {id off : Nat} {e : TypeId} {ds r : List D} {f : Bool} {m : List D} (l : LA P T u z size bytes false) (ho : o.op = .load T x) (hd : o.dst = some t) (ht : Nat.ble (t + 1) N = true)
    (hx : S.op x = .ref id off) (he : S.ent id = .blk e ds) (hn : off + size ≤ ds.length) (hdd : ds.drop off = .slice f m :: r) : IOp P O N o S (S.set t (.slice f m)) := iop_load_rs ho hd (lb ht) l.1 l.2.1 l.2.2.1 l.2.2.2 (sv hx) he hn hdd
theorem rva {x : Nat} {T : TypeId} {id off : Nat} {e : TypeId} {ds cs : List D} {u : TypeDesc} {z : Option Value} {size bytes : Nat} (l : LA P T u z size bytes true) (hx : S.get x = .ref id off) (he : S.ent id = .blk e ds)
    (hn : off + size ≤ ds.length) (hd : (ds.drop off).take size = cs) : ResV P S (.cell x T) (.agg cs) := resv_a hx he l.1 l.2.1 l.2.2.1 l.2.2.2 hn hd
theorem stA {T : TypeId} {x y : Operand} {z : Option Value} {size bytes : Nat} {id off : Nat} {e : TypeId} {ds : List D} (c ds' : List D) (hi : TI P T z size bytes) (ho : o.op = .store T x y) (hd : o.dst = none)
    (hx : S.op x = .ref id off) (he : S.ent id = .blk e ds) (hy : S.op y = .agg c) (hb : (D.agg c).boxable = true) (hsz : (D.agg c).cells.length = size) (h1 : (D.agg c).cells.all D.one = true)
    (hn : off + size ≤ ds.length) (hds : splice ds off (D.agg c).cells = ds') : IOp P O N o S (S.setE id (.blk e ds')) := iop_store ho hd hi (sv hx) he (sv hy) hb hsz h1 hn hds
theorem faR {T : TypeId} {x : Operand} {i : Nat} {fs : Array Field} {F : Field} {z : Option Value} {size bytes : Nat} {id off : Nat} (off' : Nat) (ho : o.op = .fieldAddr T x i) (hd : o.dst = some t) (ht : Nat.ble (t + 1) N = true)
    (hu : P.underlying T = some (.struct fs)) (hf : fs[i]? = some F) (hi : TI P F.type z size bytes) (hs : 0 < size) (hx : S.op x = .ref id off) (ho' : off + F.offset = off') : IOp P O N o S (S.set t (.ref id off')) :=
  iop_fieldAddr_ref ho hd (lb ht) hu hf hi hs (sv hx) ho'
theorem svaI {n : Node} {S0 : St} {s : Nat} {k : IntKind} {m : Int} (hA : Agree n S S0) (hm : n.rs.elem s = true) (h : S0.get s = .int k m) : SV S (.tmp s) (.int k m) := sv (agr hA hm h)
theorem svaB {n : Node} {S0 : St} {s : Nat} {m : Bool} (hA : Agree n S S0) (hm : n.rs.elem s = true) (h : S0.get s = .bool m) : SV S (.tmp s) (.bool m) := sv (agr hA hm h)
theorem svaR {n : Node} {S0 : St} {s i j : Nat} (hA : Agree n S S0) (hm : n.rs.elem s = true) (h : S0.get s = .ref i j) : SV S (.tmp s) (.ref i j) := sv (agr hA hm h)
theorem svaL {n : Node} {S0 : St} {s : Nat} {f : Bool} {l : List D} (hA : Agree n S S0) (hm : n.rs.elem s = true) (h : S0.get s = .slice f l) : SV S (.tmp s) (.slice f l) := sv (agr hA hm h)
theorem svaA {n : Node} {S0 : St} {s : Nat} (l : List D) (hA : Agree n S S0) (hm : n.rs.elem s = true) (h : S0.get s = .agg l) : SV S (.tmp s) (.agg l) := sv (agr hA hm h)
theorem AllW.s {ρ : Nat → Nat} {t : Nat} {d : D} {l : List (Nat × D)} (h : S.get t = d.ren ρ) (hr : d.refsIn S'.okn = true) (k : AllW (SlW S S' ρ) l) : AllW (SlW S S' ρ) ((t, d) :: l) := .cons (.same h hr) k
theorem AllW.sames {ρ : Nat → Nat} : ∀ {l : List (Nat × D)}, l.map (fun p => S.get p.1) = l.map (fun p => p.2.ren ρ) → (l.all fun p => p.2.refsIn S'.okn) = true → AllW (SlW S S' ρ) l
  | [], _, _ => .nil
  | (t, d) :: l, h, hr => by
    simp only [List.map_cons, List.cons.injEq] at h
    simp only [List.all_cons, Bool.and_eq_true] at hr
    exact .cons (.same h.1 hr.1) (AllW.sames h.2 hr.2)
end
theorem SubL.k {d : D} {ds ds' : List D} (t : SubL ds ds') : SubL (d :: ds) (d :: ds') := .cons (.refl d) t
theorem FDL.k {S : St} {d : D} {ds ds' : List D} (t : FDL S ds ds') : FDL S (d :: ds) (d :: ds') := .cons (.refl d) t
theorem SubL.all : ∀ (l : List D), SubL l l
  | [] => .nil
  | d :: l => .cons (.refl d) (SubL.all l)
theorem FDL.all {S : St} (l : List D) : FDL S l l := fdl_refl l
end Go.IL
namespace Go.IL
/-! Pointers: compared with nil, and with themselves. -/
section
variable {P : Program} {O : Origin} {N : Nat} {S S' : St} {o : Oper} {t : Nat}
theorem pointee_of {T e : TypeId} (h : P.underlying T = some (.pointer e)) : P.underlying T = some (.pointer (P.pointee T)) := by
  unfold Program.pointee; rw [h]
theorem nilp_ev {E : Env} {β : Names} {a : Act} {y : Operand} (hr : Rel O N S E β a) (hy : SV S y .nilp) : a.eval y = .pointer none := by
  have := hy.rd hr
  generalize a.eval y = v at this
  cases this; rfl
theorem run_eqnil {T e : TypeId} {p : Option Addr} (hu : P.underlying T = some (.pointer e)) (w : World) (neq : Bool) : (binOp (if neq then .neq else .eql) T (.pointer p) (.pointer none)).run P w = .ok (.bool (if neq then !p.isNone else p.isNone)) w := by
  cases neq
  · exact run_eql_pointer_nil w T p (pointee_of hu)
  · exact run_neq_pointer_nil w T p (pointee_of hu)
theorem iop_pnil_core {T T2 e : TypeId} {x y : Operand} {neq r : Bool} (ho : o.op = .binOp (if neq then .neq else .eql) T x y T2) (hd : o.dst = some t) (ht : t < N) (hu : P.underlying T = some (.pointer e))
    (hx : ∀ E β a, Rel O N S E β a → ∃ p, a.eval x = .pointer p ∧ (if neq then !p.isNone else p.isNone) = r) (hy : SV S y .nilp) : IOp P O N o S (S.set t (.bool r)) :=
  iop_of hd ht fun E β a hr => by
    obtain ⟨p, hp, hq⟩ := hx E β a hr
    have hyv := nilp_ev hr hy
    have h1 := run_eqnil (p := p) hu E.w neq
    rw [hq] at h1
    exact ⟨_, by simp [execOp, ho, hp, hyv, eqGuard, h1], .bool _ _⟩
theorem iop_nen {T T2 e : TypeId} {x y : Operand} {id off : Nat} (ho : o.op = .binOp .neq T x y T2) (hd : o.dst = some t) (ht : t < N) (hu : P.underlying T = some (.pointer e)) (hx : SV S x (.ref id off)) (hy : SV S y .nilp) : IOp P O N o S (S.set t (.bool true)) :=
  iop_pnil_core (neq := true) ho hd ht hu (fun E β a hr => by obtain ⟨b, _, h⟩ := rd_ref (hx.rd hr); exact ⟨_, h, rfl⟩) hy
theorem iop_nenn {T T2 e : TypeId} {x y : Operand} (ho : o.op = .binOp .neq T x y T2) (hd : o.dst = some t) (ht : t < N) (hu : P.underlying T = some (.pointer e)) (hx : SV S x .nilp) (hy : SV S y .nilp) : IOp P O N o S (S.set t (.bool false)) :=
  iop_pnil_core (neq := true) ho hd ht hu (fun E β a hr => ⟨_, nilp_ev hr hx, rfl⟩) hy
end
end Go.IL
