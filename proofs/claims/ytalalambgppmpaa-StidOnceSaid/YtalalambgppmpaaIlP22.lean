/-
  A part of the proof: rules and plain facts. No condition.
-/
import Derived.Test.YtalalambgppmpaaIlP21
set_option linter.all false
set_option linter.unusedSimpArgs false
set_option linter.unusedVariables false
open Go Go.IL
namespace Go.Fn
theorem off_L {l : List Int} {x : Int} (hl : l.length ≤ 100000) : ∀ (r p : List Int) (f : Nat), l = p ++ r → r.length < f → sennitref22_off_L0 l x f (p.filter fun y => !decide (y = x)) (p.length : Int) = some (l.filter fun y => !decide (y = x))
  | [], p, f + 1, h, _ => by
    unfold sennitref22_off_L0
    simp only [bndD, lt_end h, bif_ff]
    rw [h, List.append_nil]
  | y :: r, p, f + 1, h, hf => by
    unfold sennitref22_off_L0
    have hp : (p.filter fun y => !decide (y = x)).length ≤ p.length := List.length_filter_le _ _
    have hpl : p.length ≤ 100000 := by rw [h] at hl; simp at hl; omega
    have ih := off_L (x := x) hl r (p ++ [y]) f (next_at h) (by simpa using hf)
    simp only [bndD, lt_at h, bif_tt, gix_at h, bnoS, w_at h (show l.length ≤ 1000000 by omega)]
    by_cases hy : y = x
    · simp only [decide_eq_true hy, Bool.not_true, bif_ff]
      rw [← ih]; congr 1; rw [List.filter_append]; simp [hy]
    · simp only [decide_eq_false hy, Bool.not_false, bif_tt]
      rw [app_ok (by simp; omega) (by simp; omega), bnoS, ← ih]; congr 1; rw [List.filter_append]; simp [hy]
theorem off_eq {l : List Int} (x : Int) (hl : l.length ≤ 100000) : sennitref22_off l x = some (l.filter fun y => !decide (y = x)) :=
  off_L hl l [] fuel rfl (fuel_gt (by omega))
theorem cutout {l : List Int} {x : Int} {p : Nat} (hp : l.Pairwise (· < ·)) (h : l[p]? = some x) : l.take p ++ l.drop (p + 1) = l.filter fun y => !decide (y = x) := by
  obtain ⟨hlt, hx⟩ := List.getElem?_eq_some_iff.1 h
  have e : l = l.take p ++ x :: l.drop (p + 1) := by
    rw [← hx, List.getElem_cons_drop, List.take_append_drop]
  rw [e] at hp
  obtain ⟨_, h2, h3⟩ := List.pairwise_append.1 hp
  have h4 := (List.pairwise_cons.1 h2).1
  conv => rhs; rw [e]
  rw [List.filter_append, List.filter_cons_of_neg (by simp)]
  rw [List.filter_eq_self.2 (fun y hy => by have := h3 y hy x (by simp); simp; omega), List.filter_eq_self.2 (fun y hy => by have := h4 y hy; simp; omega)]
def endS (s : StT) (id : Int) (c : Bool) : StT :=
  if check s ≠ 0 ∨ id ∉ s.Live then s else ⟨s.Odd, s.Next, s.Last, s.Live.filter fun y => !decide (y = id), if c = true then cutl s.Cut id else s.Cut, s.Mine, s.Hers, s.Heard, s.Told⟩
theorem end_eq {s : StT} (id : Int) (c : Bool) (hl : s.Live.length ≤ 1000) (hc : s.Cut.length ≤ 1000) : stid_End s id c = some (endS s id c) := by
  unfold stid_End endS
  rw [ownh_eq hl hc, bnoS]
  obtain ⟨p, b1, b2, b3⟩ := bs_any (l := s.Live) id (by omega)
  rw [show slices_BinarySearch_int_int (s.Odd, s.Next, s.Last, s.Live, s.Cut, s.Mine, s.Hers, s.Heard, s.Told).2.2.2.1 id = _ from b2, bnoS, check_eq hl hc, bnoS]
  simp only [bndD]
  by_cases h0 : check s = 0
  · obtain ⟨h1, h2, h3, h4, h5⟩ := check_ok h0
    have hs := (rise_all _ _ h3).2
    obtain ⟨_, _, b4⟩ := b3 hs
    by_cases hm : id ∈ s.Live
    · have hg := b4.2 hm
      have hpl : p < s.Live.length := (List.getElem?_eq_some_iff.1 hg).1
      rw [if_neg (by simp [h0, hm]), decide_eq_true h0, decide_eq_true hg]
      simp only [Bool.not_true, Bool.or_self, bif_ff, slices_Delete_int_int_h]
      rw [w64 (by omega) (by omega), delS_ok (by omega) (by omega) (by omega), bnoS, show ((p : Int) + 1).toNat = p + 1 by omega, Int.toNat_natCast, cutout hs hg]
      cases c
      · rfl
      · rw [bif_tt, slain_eq (by omega), bnoS]; rfl
    · rw [if_pos (.inr hm), decide_eq_false (fun h => hm (b4.1 h))]
      simp only [Bool.not_false, Bool.or_true, bif_tt]
  · rw [if_pos (.inl h0), decide_eq_false h0]; rfl
theorem refend_eq {s : StT} (id : Int) (c : Bool) (hl : s.Live.length ≤ 1000) (hc : s.Cut.length ≤ 1000) : sennitref22_End s id c = some (endS s id c) := by
  unfold sennitref22_End endS
  rw [refcheck_eq hl hc, bnoS]
  simp only [bndD]
  by_cases h0 : check s = 0
  · rw [decide_eq_true h0]
    simp only [Bool.not_true, beq_self_eq_true, gdtt, is_eq _ (show s.Live.length ≤ 1000000 by omega), bnoS, Bool.false_or]
    by_cases hm : id ∈ s.Live
    · rw [if_neg (by simp [h0, hm]), decide_eq_true hm, Bool.not_true, bif_ff, off_eq _ (by omega), bnoS]
      cases c
      · rfl
      · rw [bif_tt, refcut_eq _ (by show s.Cut.length ≤ _; omega), bnoS]; rfl
    · rw [if_pos (.inr hm), decide_eq_false hm, Bool.not_false, bif_tt]
  · rw [if_pos (.inl h0), decide_eq_false h0]; rfl
def lost (s : StT) (last x : Int) : Bool := decide (last < x) && own s x
theorem lost_eq (s : StT) (last x : Int) : stid_Away_1 x last s = some (lost s last x) := by
  unfold stid_Away_1 lost
  simp only [bndD]
  by_cases h : last < x
  · simp only [decide_eq_true h, beq_self_eq_true, gdtt, own_eq, bnoS]
  · simp only [decide_eq_false h, show (false == true) = false from rfl, gdff, bnoS, Bool.false_and]
theorem idxf_L {s : StT} {last : Int} {l : List Int} (hl : l.length ≤ 100000) : ∀ (r p : List Int) (f : Nat), l = p ++ r → r.length < f → (∀ y ∈ p, lost s last y = false) →
    (slices_IndexFunc_int_int_Away_1_L0 l last s f (p.length : Int) = some (-1) ∧ ∀ y ∈ l, lost s last y = false) ∨ ∃ q x t, l = q ++ x :: t ∧ (∀ y ∈ q, lost s last y = false) ∧ lost s last x = true ∧ slices_IndexFunc_int_int_Away_1_L0 l last s f (p.length : Int) = some (q.length : Int)
  | [], p, f + 1, h, _, ha => by
    left
    unfold slices_IndexFunc_int_int_Away_1_L0
    simp only [bndD, lt_end h, bif_ff]
    refine ⟨trivial, ?_⟩
    rw [h, List.append_nil]; exact ha
  | y :: r, p, f + 1, h, hf, ha => by
    unfold slices_IndexFunc_int_int_Away_1_L0
    simp only [bndD, lt_at h, bif_tt, gix_at h, bnoS, lost_eq, w_at h (show l.length ≤ 1000000 by omega)]
    rcases Bool.eq_false_or_eq_true (lost s last y) with hb | hb
    · right; exact ⟨p, y, r, h, ha, hb, by rw [hb]; rfl⟩
    · rw [hb, bif_ff]
      exact idxf_L hl r (p ++ [y]) f (next_at h) (by simpa using hf) (fun z hz => by
        rcases List.mem_append.1 hz with hz | hz
        · exact ha z hz
        · rw [List.mem_singleton.1 hz]; exact hb)
theorem delf_L {s : StT} {last : Int} : ∀ (r k m : List Int) (f : Nat), k.length + m.length + r.length ≤ 100000 → r.length < f →
    slices_DeleteFunc_int_int_h_Away_1_L0 last s f (k ++ m ++ r) (k.length : Int) ((k.length + m.length : Nat) : Int) = some (k ++ r.filter fun y => !lost s last y)
  | [], k, m, f + 1, hl, _ => by
    unfold slices_DeleteFunc_int_int_h_Away_1_L0
    simp only [bndD, List.append_nil, List.length_append, decide_eq_false (show ¬ ((k.length + m.length : Nat) : Int) < ((k.length + m.length : Nat) : Int) by omega), bif_ff]
    rw [cut_at rfl, bnoS, cut_at (show k = k ++ [] by simp), bnoS]; simp
  | y :: r, k, m, f + 1, hl, hf => by
    unfold slices_DeleteFunc_int_int_h_Away_1_L0
    simp only [List.length_cons] at hl hf
    have hy : (k ++ m ++ y :: r)[k.length + m.length]? = some y := by
      rw [List.getElem?_append_right (by simp)]; simp
    have hlen : (k ++ m ++ y :: r).length = k.length + m.length + (r.length + 1) := by simp; omega
    have hk : k.length < (k ++ m ++ y :: r).length := by omega
    simp only [bndD, decide_eq_true (show ((k.length + m.length : Nat) : Int) < ((k ++ m ++ y :: r).length : Int) by omega), bif_tt, gix_nat, hy, bnoS, Int.toNat_natCast, lost_eq, List.getElem?_eq_getElem hk,
      w64 (show -9223372036854775808 ≤ ((k.length + m.length : Nat) : Int) + 1 by omega) (by omega), w64 (show -9223372036854775808 ≤ (k.length : Int) + 1 by omega) (by omega)]
    rcases Bool.eq_false_or_eq_true (lost s last y) with hb | hb
    · rw [hb, Bool.not_true, bif_ff, List.filter_cons_of_neg (by simp [hb])]
      have := delf_L (s := s) (last := last) r k (m ++ [y]) f (by simp; omega) (by omega)
      rw [show k ++ m ++ y :: r = k ++ (m ++ [y]) ++ r by simp, ← this]; congr 1; simp; omega
    · rw [hb, Bool.not_false, bif_tt, List.filter_cons_of_pos (by simp [hb])]
      obtain ⟨m2, h1, h2⟩ : ∃ m2 : List Int, m2.length = m.length ∧ (k ++ m ++ y :: r).set k.length y = k ++ [y] ++ m2 ++ r := by
        rw [List.append_assoc k m, List.set_append_right _ _ (Nat.le_refl _), Nat.sub_self]
        cases m with
        | nil => exact ⟨[], rfl, by simp⟩
        | cons a m => exact ⟨m ++ [y], by simp, by simp⟩
      rw [h2]
      have := delf_L (s := s) (last := last) r (k ++ [y]) m2 f (by simp; omega) (by omega)
      rw [show k ++ y :: List.filter (fun y => !lost s last y) r = k ++ [y] ++ List.filter (fun y => !lost s last y) r by simp, ← this]
      congr 1 <;> simp <;> omega
theorem delf_eq {s : StT} {last : Int} {l : List Int} (hl : l.length ≤ 100000) : slices_DeleteFunc_int_int_h_Away_1 l last s = some (l.filter fun y => !lost s last y) := by
  unfold slices_DeleteFunc_int_int_h_Away_1 slices_IndexFunc_int_int_Away_1
  rcases idxf_L (s := s) (last := last) hl l [] fuel rfl (fuel_gt (by omega)) (fun _ h => (List.not_mem_nil h).elim) with ⟨h1, h2⟩ | ⟨q, x, t, h1, h2, h3, h4⟩
  · have h1 : slices_IndexFunc_int_int_Away_1_L0 l last s fuel 0 = _ := h1
    rw [h1, bnoS]
    simp only [bndD, decide_true, bif_tt]
    rw [List.filter_eq_self.2 (fun y hy => by rw [h2 y hy]; rfl)]
  · have h4 : slices_IndexFunc_int_int_Away_1_L0 l last s fuel 0 = _ := h4
    have hql : q.length + (t.length + 1) ≤ 100000 := by rw [h1] at hl; simpa using hl
    rw [h4, bnoS]
    simp only [bndD, decide_eq_false (show ¬ (q.length : Int) = -1 by omega), bif_ff]
    rw [w64 (by omega) (by omega)]
    have := delf_L (s := s) (last := last) t q [x] fuel (by simp; omega) (fuel_gt (by omega))
    rw [h1, List.filter_append, List.filter_cons_of_neg (by simp [h3]), List.filter_eq_self.2 (fun y hy => by rw [h2 y hy]; rfl), ← this]
    congr 1; simp
def awayS (s : StT) (last : Int) : StT × List Int × Bool :=
  if check s ≠ 0 ∨ btw last 0 1048576 = false ∨ (-1 < s.Heard ∧ s.Heard < last) then (s, [], false)
  else (⟨s.Odd, s.Next, s.Last, s.Live.filter fun y => !lost s last y, s.Cut, s.Mine, s.Hers, last, s.Told⟩, s.Live.filter (lost s last), true)
theorem away_L {s : StT} {last : Int} (hl : s.Live.length ≤ 1000) : ∀ (r p : List Int) (f : Nat), s.Live = p ++ r → r.length < f → stid_Away_L0 s last (s.Odd, s.Next, s.Last, s.Live, s.Cut, s.Mine, s.Hers, s.Heard, s.Told) f (p.filter (lost s last)) (p.length : Int) =
    some (⟨s.Odd, s.Next, s.Last, s.Live.filter fun y => !lost s last y, s.Cut, s.Mine, s.Hers, last, s.Told⟩, s.Live.filter (lost s last), true)
  | [], p, f + 1, h, _ => by
    unfold stid_Away_L0
    simp only [bndD, lt_end h, bif_ff]
    rw [delf_eq (by omega), bnoS, show p.filter (lost s last) = s.Live.filter (lost s last) by rw [h, List.append_nil]]
  | y :: r, p, f + 1, h, hf => by
    unfold stid_Away_L0
    have hp : (p.filter (lost s last)).length ≤ p.length := List.length_filter_le _ _
    have hpl : p.length ≤ 1000 := by rw [h] at hl; simp at hl; omega
    have ih := away_L (last := last) hl r (p ++ [y]) f (next_at h) (by simpa using hf)
    simp only [bndD, lt_at h, bif_tt, gix_at h, bnoS, lost_eq, w_at h (show s.Live.length ≤ 1000000 by omega)]
    rcases Bool.eq_false_or_eq_true (lost s last y) with hb | hb
    · rw [hb, bif_tt, app_ok (by simp; omega) (by simp; omega), bnoS, ← ih]; congr 1; rw [List.filter_append]; simp [hb]
    · rw [hb, bif_ff, ← ih]; congr 1; rw [List.filter_append]; simp [hb]
theorem away_eq {s : StT} (last : Int) (hl : s.Live.length ≤ 1000) (hc : s.Cut.length ≤ 1000) : stid_Away s last = some (awayS s last) := by
  unfold stid_Away awayS
  rw [ownh_eq hl hc, bnoS, check_eq hl hc, bnoS]
  simp only [bndD, inB]
  have := away_L (s := s) (last := last) hl s.Live [] fuel rfl (fuel_gt (by omega))
  have this : stid_Away_L0 s last (s.Odd, s.Next, s.Last, s.Live, s.Cut, s.Mine, s.Hers, s.Heard, s.Told) fuel [] 0 = _ := this
  by_cases h0 : check s = 0
  · simp only [decide_eq_true h0, Bool.not_true, beq_self_eq_true, gdtt, bnoS, Bool.false_or]
    cases btw last 0 1048576
    · rw [if_pos (.inr (.inl rfl))]; rfl
    · by_cases h1 : -1 < s.Heard ∧ s.Heard < last
      · rw [if_pos (.inr (.inr h1)), decide_eq_true h1.1, decide_eq_true h1.2]; rfl
      · rw [if_neg (by simp [h0]; omega), show (decide (-1 < s.Heard) && decide (s.Heard < last)) = false by simpa using h1, Bool.not_true, Bool.or_self, bif_ff]
        exact this
  · rw [if_pos (.inl h0), decide_eq_false h0]; rfl
theorem refaway1 {s : StT} {last : Int} {g : List Int} (hl : s.Live.length ≤ 1000) (hg : g.length ≤ 1000) : ∀ (r p : List Int) (f : Nat), g = p ++ r → r.length < f → sennitref22_Away_L1 s last g f (p.length : Int) (s.Live.filter fun y => !decide (y ∈ p)) =
    some (⟨s.Odd, s.Next, s.Last, s.Live.filter fun y => !decide (y ∈ g), s.Cut, s.Mine, s.Hers, last, s.Told⟩, g, true)
  | [], p, f + 1, h, _ => by
    unfold sennitref22_Away_L1
    simp only [bndD, lt_end h, bif_ff]
    rw [show p = g by rw [h, List.append_nil]]
  | y :: r, p, f + 1, h, hf => by
    unfold sennitref22_Away_L1
    have hp : (s.Live.filter fun y => !decide (y ∈ p)).length ≤ s.Live.length := List.length_filter_le _ _
    have ih := refaway1 (last := last) hl hg r (p ++ [y]) f (next_at h) (by simpa using hf)
    simp only [bndD, lt_at h, bif_tt, gix_at h, bnoS, w_at h (show g.length ≤ 1000000 by omega)]
    rw [off_eq _ (by omega), bnoS, ← ih, List.filter_filter]
    congr 1
    refine List.filter_congr fun z _ => ?_
    simp only [List.mem_append, List.mem_singleton]
    by_cases h1 : z ∈ p <;> by_cases h2 : z = y <;> simp [h1, h2]
theorem refaway0 {s : StT} {last : Int} (hl : s.Live.length ≤ 1000) : ∀ (r p : List Int) (f : Nat), s.Live = p ++ r → r.length < f → sennitref22_Away_L0 s last f (p.filter (lost s last)) (p.length : Int) = sennitref22_Away_L1 s last (s.Live.filter (lost s last)) fuel 0 s.Live
  | [], p, f + 1, h, _ => by
    unfold sennitref22_Away_L0
    simp only [bndD, lt_end h, bif_ff]
    rw [show p.filter (lost s last) = s.Live.filter (lost s last) by rw [h, List.append_nil]]
  | y :: r, p, f + 1, h, hf => by
    unfold sennitref22_Away_L0
    have hp : (p.filter (lost s last)).length ≤ p.length := List.length_filter_le _ _
    have hpl : p.length ≤ 1000 := by rw [h] at hl; simp at hl; omega
    have ih := refaway0 (last := last) hl r (p ++ [y]) f (next_at h) (by simpa using hf)
    have ho : own (⟨s.Odd, s.Next, s.Last, s.Live, s.Cut, s.Mine, s.Hers, last, s.Told⟩ : StT) y = own s y := rfl
    simp only [bndD, lt_at h, bif_tt, gix_at h, bnoS, refown_eq, ho, w_at h (show s.Live.length ≤ 1000000 by omega)]
    have hx : (bno (gd (own s y == true) (some y) default) fun x40 => bif own s y && decide (last < x40) then bno (app 8 (List.filter (lost s last) p) [y]) fun x45 => sennitref22_Away_L0 s last f x45 ((p ++ [y]).length : Int) else sennitref22_Away_L0 s last f (List.filter (lost s last) p) ((p ++ [y]).length : Int)) =
        bif lost s last y then bno (app 8 (List.filter (lost s last) p) [y]) fun x45 => sennitref22_Away_L0 s last f x45 ((p ++ [y]).length : Int) else sennitref22_Away_L0 s last f (List.filter (lost s last) p) ((p ++ [y]).length : Int) := by
      unfold lost
      cases own s y
      · simp only [show (false == true) = false from rfl, gdff, bnoS, Bool.false_and, Bool.and_false]
      · simp only [beq_self_eq_true, gdtt, bnoS, Bool.true_and, Bool.and_true]
    rw [hx]
    rcases Bool.eq_false_or_eq_true (lost s last y) with hb | hb
    · rw [hb, bif_tt, app_ok (by simp; omega) (by simp; omega), bnoS, ← ih]; congr 1; rw [List.filter_append]; simp [hb]
    · rw [hb, bif_ff, ← ih]; congr 1; rw [List.filter_append]; simp [hb]
theorem refaway_eq {s : StT} (last : Int) (hl : s.Live.length ≤ 1000) (hc : s.Cut.length ≤ 1000) : sennitref22_Away s last = some (awayS s last) := by
  unfold sennitref22_Away awayS
  rw [refcheck_eq hl hc, bnoS]
  simp only [bndD, refinB]
  by_cases h0 : check s = 0
  · obtain ⟨h1, h2, h3, h4, h5⟩ := check_ok h0
    obtain ⟨n1, n2, n3, n4, n5, n6, n7, n8⟩ := nums_ok h1
    have hgl : (s.Live.filter (lost s last)).length ≤ s.Live.length := List.length_filter_le _ _
    have t1 := refaway0 (s := s) (last := last) hl s.Live [] fuel rfl (fuel_gt (by omega))
    have t1 : sennitref22_Away_L0 s last fuel [] 0 = _ := t1
    have t2 := refaway1 (s := s) (last := last) (g := s.Live.filter (lost s last)) hl (by omega) _ [] fuel rfl (fuel_gt (by omega))
    have e1 : s.Live.filter (fun y => !decide (y ∈ ([] : List Int))) = s.Live := List.filter_eq_self.2 (fun y _ => by simp)
    rw [e1] at t2
    have t2 : sennitref22_Away_L1 s last (s.Live.filter (lost s last)) fuel 0 s.Live = _ := t2
    have e2 : s.Live.filter (fun y => !decide (y ∈ s.Live.filter (lost s last))) = s.Live.filter fun y => !lost s last y := List.filter_congr fun y hy => by
      simp only [List.mem_filter, hy, true_and]
      cases lost s last y <;> rfl
    rw [e2] at t2
    simp only [decide_eq_true h0, Bool.not_true, beq_self_eq_true, gdtt, bnoS, Bool.false_or]
    cases btw last 0 1048576
    · rw [if_pos (.inr (.inl rfl))]; rfl
    · by_cases h1 : -1 < s.Heard ∧ s.Heard < last
      · rw [if_pos (.inr (.inr h1)), decide_eq_false (show ¬ s.Heard = -1 by omega), decide_eq_true h1.2]; rfl
      · rw [if_neg (by simp [h0]; omega), show ((!decide (s.Heard = -1)) && decide (s.Heard < last)) = false by simp; omega, Bool.not_true, Bool.or_self, bif_ff, t1, t2]
  · rw [if_pos (.inl h0), decide_eq_false h0]; rfl
def shutS (s : StT) : StT × Int :=
  if check s ≠ 0 then (s, -1) else if s.Told = -1 then (⟨s.Odd, s.Next, s.Last, s.Live, s.Cut, s.Mine, s.Hers, s.Heard, s.Last⟩, s.Last) else (s, s.Told)
theorem shut_eq {s : StT} (hl : s.Live.length ≤ 1000) (hc : s.Cut.length ≤ 1000) : stid_Shut s = some (shutS s) := by
  unfold stid_Shut shutS stid_Shut_J0
  rw [ownh_eq hl hc, bnoS, check_eq hl hc, bnoS]
  simp only [bndD]
  by_cases h0 : check s = 0
  · rw [if_neg (by simpa using h0), decide_eq_true h0]
    by_cases h1 : s.Told = -1
    · rw [if_pos h1, decide_eq_true h1]; rfl
    · rw [if_neg h1, decide_eq_false h1]; rfl
  · rw [if_pos h0, decide_eq_false h0]; rfl
theorem refshut_eq {s : StT} (hl : s.Live.length ≤ 1000) (hc : s.Cut.length ≤ 1000) : sennitref22_Shut s = some (shutS s) := by
  unfold sennitref22_Shut shutS sennitref22_Shut_J0
  rw [refcheck_eq hl hc, bnoS]
  simp only [bndD]
  by_cases h0 : check s = 0
  · obtain ⟨n1, n2, n3, n4, n5, n6, n7, n8⟩ := nums_ok (check_ok h0).1
    rw [if_neg (by simpa using h0), decide_eq_true h0]
    by_cases h1 : s.Told = -1
    · rw [if_pos h1, decide_eq_true (show s.Told < 0 by omega)]; rfl
    · rw [if_neg h1, decide_eq_false (show ¬ s.Told < 0 by omega)]; rfl
  · rw [if_pos h0, decide_eq_false h0]; rfl
end Go.Fn
