/-
  A part of the proof: rules and plain facts. No condition.
-/
import Derived.Test.YtalalambgppmpaaIlP19
set_option linter.all false
set_option linter.unusedSimpArgs false
set_option linter.unusedVariables false
open Go Go.IL
namespace Go.Fn
theorem rise_all {s : StT} : ∀ (l : List Int) (a : Int), rise s a l = true → (∀ x ∈ l, a < x ∧ began s x = true) ∧ l.Pairwise (· < ·)
  | [], a, _ => ⟨fun _ h => (List.not_mem_nil h).elim, .nil⟩
  | y :: r, a, h => by
    simp only [rise, Bool.and_eq_true, decide_eq_true_eq] at h
    obtain ⟨⟨h1, h2⟩, h3⟩ := h
    obtain ⟨i1, i2⟩ := rise_all r y h3
    refine ⟨fun x hx => ?_, .cons (fun x hx => (i1 x hx).1) i2⟩
    rcases List.mem_cons.1 hx with rfl | hx
    · exact ⟨h1, h2⟩
    · exact ⟨Int.lt_trans h1 (i1 x hx).1, (i1 x hx).2⟩
theorem rise_of {s : StT} : ∀ (l : List Int) (a : Int), (∀ x ∈ l, a < x ∧ began s x = true) → l.Pairwise (· < ·) → rise s a l = true
  | [], a, _, _ => rfl
  | y :: r, a, h, hp => by
    obtain ⟨h1, h2⟩ := List.pairwise_cons.1 hp
    simp only [rise, Bool.and_eq_true, decide_eq_true_eq]
    exact ⟨⟨(h y (by simp)).1, (h y (by simp)).2⟩, rise_of r y (fun x hx => ⟨h1 x hx, (h x (by simp [hx])).2⟩) h2⟩
def ins (l : List Int) (x : Int) : List Int := l.filter (fun y => decide (y < x)) ++ [x] ++ l.filter (fun y => decide (x ≤ y))
theorem split_at {l a b : List Int} {x : Int} (h : l = a ++ b) (ha : ∀ y ∈ a, y < x) (hb : ∀ y ∈ b, x ≤ y) : a = l.filter (fun y => decide (y < x)) ∧ b = l.filter (fun y => decide (x ≤ y)) := by
  subst h
  rw [List.filter_append, List.filter_append]
  have h1 : a.filter (fun y => decide (y < x)) = a := List.filter_eq_self.2 fun y hy => decide_eq_true (ha y hy)
  have h2 : b.filter (fun y => decide (y < x)) = [] := List.filter_eq_nil_iff.2 fun y hy => by have := hb y hy; simp; omega
  have h3 : a.filter (fun y => decide (x ≤ y)) = [] := List.filter_eq_nil_iff.2 fun y hy => by have := ha y hy; simp; omega
  have h4 : b.filter (fun y => decide (x ≤ y)) = b := List.filter_eq_self.2 fun y hy => decide_eq_true (hb y hy)
  rw [h1, h2, h3, h4]; simp
theorem less_eq (a b : Int) : cmp_Less_int a b = some (decide (a < b)) := by
  unfold cmp_Less_int cmp_isNaN_int
  simp only [bndD, decide_true, Bool.not_true, bnoS, show (false == true) = false from rfl, gdff, Bool.false_and, Bool.false_or]
theorem bs_L {l : List Int} {x : Int} (hl : l.length ≤ 1000000) : ∀ (f lo hi : Nat), hi - lo < f → lo ≤ hi → hi ≤ l.length → ∃ p : Nat, p ≤ l.length ∧ slices_BinarySearch_int_int_L0 l x f lo hi = some ((p : Int), decide (l[p]? = some x)) ∧
    (l.Pairwise (· < ·) → (∀ y ∈ l.take lo, y < x) → (∀ y ∈ l.drop hi, x ≤ y) → (∀ y ∈ l.take p, y < x) ∧ (∀ y ∈ l.drop p, x ≤ y)) := by
  intro f
  induction f with
  | zero => intro lo hi h; omega
  | succ f ih =>
    intro lo hi hf h1 h2
    unfold slices_BinarySearch_int_int_L0
    by_cases hc : lo < hi
    · have hm : (lo + hi) / 2 < l.length := by omega
      have e1 : shrI .u64 ((lo : Int) + (hi : Int)) 1 = some (((lo + hi) / 2 : Nat) : Int) := by
        rw [shr_at (k := .u64) (b := 1) 1 rfl (by decide)]; congr 1
      simp only [bndD, decide_eq_true (show (lo : Int) < (hi : Int) by omega), bif_tt, w64 (show -9223372036854775808 ≤ (lo : Int) + (hi : Int) by omega) (by omega), wU64 (show 0 ≤ (lo : Int) + (hi : Int) by omega) (by omega), e1, bnoS,
        w64 (show -9223372036854775808 ≤ (((lo + hi) / 2 : Nat) : Int) by omega) (by omega), gix_nat, List.getElem?_eq_getElem hm, less_eq]
      generalize hmm : (lo + hi) / 2 = m at hm ⊢
      have hml : lo ≤ m := by omega
      have hmh : m < hi := by omega
      by_cases hx : l[m] < x
      · simp only [decide_eq_true hx, bif_tt, w64 (show -9223372036854775808 ≤ (m : Int) + 1 by omega) (by omega)]
        obtain ⟨p, i1, i2, i3⟩ := ih (m + 1) hi (by omega) (by omega) h2
        refine ⟨p, i1, ?_, fun hp ha hb => i3 hp (fun y hy => ?_) hb⟩
        · rw [← i2]; congr 1
        · obtain ⟨j, hj, rfl⟩ := List.mem_iff_getElem.1 hy
          rw [List.length_take] at hj
          rw [List.getElem_take]
          rcases Nat.lt_or_ge j m with hjm | hjm
          · exact Int.lt_trans (List.pairwise_iff_getElem.1 hp j m (by omega) (by omega) hjm) hx
          · have : j = m := by omega
            subst this; exact hx
      · simp only [decide_eq_false hx, bif_ff]
        obtain ⟨p, i1, i2, i3⟩ := ih lo m (by omega) (by omega) (by omega)
        refine ⟨p, i1, i2, fun hp ha hb => i3 hp ha (fun y hy => ?_)⟩
        obtain ⟨j, hj, rfl⟩ := List.mem_iff_getElem.1 hy
        rw [List.length_drop] at hj
        rw [List.getElem_drop]
        rcases Nat.eq_zero_or_pos j with rfl | hj0
        · simp only [Nat.add_zero]; omega
        · have := List.pairwise_iff_getElem.1 hp m (m + j) (by omega) (by omega) (by omega)
          omega
    · have : lo = hi := by omega
      subst this
      refine ⟨lo, h2, ?_, fun _ ha hb => ⟨ha, hb⟩⟩
      simp only [bndD, decide_eq_false (show ¬ (lo : Int) < (lo : Int) by omega), bif_ff]
      by_cases hl' : lo < l.length
      · simp only [decide_eq_true (show (lo : Int) < (l.length : Int) by omega), beq_self_eq_true, gdtt, gix_nat, List.getElem?_eq_getElem hl', bnoS, Bool.true_and, slices_isNaN_int, bndD, decide_true, Bool.not_true]
        by_cases hx : l[lo] = x
        · simp only [hx, decide_true, show (true == false) = false from rfl, gdff, bnoS, Bool.true_or, Bool.false_and]
        · simp only [decide_eq_false hx, beq_self_eq_true, gdtt, bnoS, show (false == true) = false from rfl, Bool.and_false, gdff, Bool.false_and, Bool.or_self, show decide (some l[lo] = some x) = false from decide_eq_false (by simpa using hx)]
      · rw [List.getElem?_eq_none (by omega)]
        simp only [decide_eq_false (show ¬ (lo : Int) < (l.length : Int) by omega), show (false == true) = false from rfl, gdff, bnoS, Bool.false_and, show decide ((none : Option Int) = some x) = false from rfl]
theorem bs_any {l : List Int} (x : Int) (hl : l.length ≤ 1000000) : ∃ p : Nat, p ≤ l.length ∧ slices_BinarySearch_int_int l x = some ((p : Int), decide (l[p]? = some x)) ∧
    (l.Pairwise (· < ·) → l.take p = l.filter (fun y => decide (y < x)) ∧ l.drop p = l.filter (fun y => decide (x ≤ y)) ∧ (l[p]? = some x ↔ x ∈ l)) := by
  obtain ⟨p, h1, h2, h3⟩ := bs_L (x := x) hl fuel 0 l.length (fuel_gt (by omega)) (Nat.zero_le _) (Nat.le_refl _)
  refine ⟨p, h1, h2, fun hp => ?_⟩
  obtain ⟨h4, h5⟩ := h3 hp (by simp) (by simp)
  obtain ⟨h6, h7⟩ := split_at (List.take_append_drop p l).symm h4 h5
  refine ⟨h6, h7, fun h => List.mem_of_getElem? h, fun hx => ?_⟩
  rw [← List.take_append_drop p l] at hx
  rcases List.mem_append.1 hx with hx | hx
  · have := h4 x hx; omega
  · obtain ⟨j, hj, hjx⟩ := List.mem_iff_getElem.1 hx
    rw [List.length_drop] at hj
    rw [List.getElem_drop] at hjx
    rcases Nat.eq_zero_or_pos j with rfl | hj0
    · rw [List.getElem?_eq_getElem (by omega)]; simpa using hjx
    · have h8 := List.pairwise_iff_getElem.1 hp p (p + j) (by omega) (by omega) (by omega)
      have h9 := h5 l[p] (List.mem_iff_getElem.2 ⟨0, by rw [List.length_drop]; omega, by rw [List.getElem_drop]; simp⟩)
      omega
theorem born_eq {o : Bool} {n la mi he hd to x : Int} {l c : List Int} (hl : l.length ≤ 1000000) (hp : l.Pairwise (· < ·)) : stid_State_born_h o n la mi he hd to x l c = some (o, n, la, ins l x, c, mi, he, hd, to) := by
  unfold stid_State_born_h
  obtain ⟨p, h1, h2, h3⟩ := bs_any x hl
  obtain ⟨h4, h5, _⟩ := h3 hp
  rw [h2, bnoS]
  simp only [slices_Insert_int_int_h]
  rw [insS_ok (by omega) (by omega) (by simp; omega) (by simp; omega), bnoS, Int.toNat_natCast, h4, h5]; rfl
theorem refadd_L {s : StT} {x : Int} (hl : s.Live.length ≤ 100000) (hs : s.Live.Pairwise (· < ·)) : ∀ (r p : List Int) (f : Nat), s.Live = p ++ r → (∀ y ∈ p, y < x) → r.length < f →
    sennitref22_add_L0 s x f (p.length : Int) = some ⟨s.Odd, s.Next, s.Last, ins s.Live x, s.Cut, s.Mine, s.Hers, s.Heard, s.Told⟩ := by
  have fin : ∀ (r p : List Int), s.Live = p ++ r → (∀ y ∈ p, y < x) → (∀ y ∈ r, x ≤ y) → (bno (cut s.Live 0 (p.length : Int)) fun x20 =>
      bno (app 8 ([] : (List Int)) x20) fun x21 =>
      bno (app 8 x21 ([x] : (List Int))) fun x22 =>
      bno (cut s.Live (p.length : Int) (s.Live.length : Int)) fun x23 =>
      bno (app 8 x22 x23) fun x24 =>
      some (⟨s.Odd, s.Next, s.Last, x24, s.Cut, s.Mine, s.Hers, s.Heard, s.Told⟩ : T_stid_State)) = some ⟨s.Odd, s.Next, s.Last, ins s.Live x, s.Cut, s.Mine, s.Hers, s.Heard, s.Told⟩ := fun r p h ha hb => by
    have hlen : p.length + r.length ≤ 100000 := by rw [h, List.length_append] at hl; exact hl
    obtain ⟨h4, h5⟩ := split_at h ha hb
    rw [cut_at h, bnoS, app_ok (by simp; omega) (by simp; omega), bnoS, List.nil_append, app_ok (by simp; omega) (by simp; omega), bnoS, cut_to (by omega) (by rw [h]; simp; omega), bnoS, Int.toNat_natCast, h, List.drop_left,
      app_ok (by simp; omega) (by simp; omega), bnoS]
    rw [← h]; unfold ins; rw [← h4, ← h5]
  intro r
  induction r with
  | nil =>
    intro p f h hp hf
    obtain ⟨f, rfl⟩ : ∃ g, f = g + 1 := ⟨f - 1, by simp at hf; omega⟩
    unfold sennitref22_add_L0
    simp only [bndD, lt_end h, show (false == true) = false from rfl, gdff, bnoS, Bool.false_and, bif_ff]
    exact fin [] p h hp (fun _ h => (List.not_mem_nil h).elim)
  | cons y r ih =>
    intro p f h hp hf
    obtain ⟨f, rfl⟩ : ∃ g, f = g + 1 := ⟨f - 1, by simp at hf; omega⟩
    unfold sennitref22_add_L0
    simp only [bndD, lt_at h, beq_self_eq_true, gdtt, gix_at h, bnoS, Bool.true_and]
    by_cases hy : y < x
    · simp only [decide_eq_true hy, bif_tt, w_at h (show s.Live.length ≤ 1000000 by omega)]
      refine ih (p ++ [y]) f (next_at h) (fun z hz => ?_) (by simpa using hf)
      rcases List.mem_append.1 hz with hz | hz
      · exact hp z hz
      · rw [List.mem_singleton.1 hz]; exact hy
    · simp only [decide_eq_false hy, bif_ff]
      refine fin (y :: r) p h hp (fun z hz => ?_)
      rcases List.mem_cons.1 hz with rfl | hz
      · omega
      · rw [h] at hs
        have := (List.pairwise_cons.1 (List.pairwise_append.1 hs).2.1).1 z hz
        omega
theorem refadd_eq {s : StT} (x : Int) (hl : s.Live.length ≤ 100000) (hs : s.Live.Pairwise (· < ·)) : sennitref22_add s x = some ⟨s.Odd, s.Next, s.Last, ins s.Live x, s.Cut, s.Mine, s.Hers, s.Heard, s.Told⟩ :=
  refadd_L hl hs s.Live [] fuel rfl (fun _ h => (List.not_mem_nil h).elim) (fuel_gt (by omega))
def cutl (c : List Int) (x : Int) : List Int := (c ++ [x]).drop (c.length + 1 - 8)
theorem slain_eq {o : Bool} {n la mi he hd to x : Int} {l c : List Int} (hc : c.length ≤ 100000) : stid_State_slain_h o n la mi he hd to x l c = some (o, n, la, l, cutl c x, mi, he, hd, to) := by
  unfold stid_State_slain_h cutl
  rw [app_ok (by simp; omega) (by simp; omega), bnoS]
  simp only [bndD, List.length_append, List.length_singleton]
  by_cases h : 8 < c.length + 1
  · rw [decide_eq_true (show (8 : Int) < ((c.length + 1 : Nat) : Int) by omega), bif_tt, w64 (by omega) (by omega)]
    simp only [slices_Delete_int_int_h]
    rw [delS_ok (by omega) (by omega) (by simp; omega), bnoS]
    rw [show ((c.length + 1 : Nat) : Int) - 8 = ((c.length + 1 - 8 : Nat) : Int) by omega, Int.toNat_natCast]; rfl
  · rw [decide_eq_false (show ¬ (8 : Int) < ((c.length + 1 : Nat) : Int) by omega), bif_ff, show c.length + 1 - 8 = 0 by omega]; rfl
theorem refcut_eq {s : StT} (x : Int) (hc : s.Cut.length ≤ 100000) : sennitref22_cutOff s x = some ⟨s.Odd, s.Next, s.Last, s.Live, cutl s.Cut x, s.Mine, s.Hers, s.Heard, s.Told⟩ := by
  unfold sennitref22_cutOff cutl
  rw [app_ok (by simp; omega) (by simp; omega), bnoS, List.nil_append, app_ok (by simp; omega) (by simp; omega), bnoS]
  simp only [bndD]
  rw [w64 (by simp; omega) (by simp; omega), cut_to (by omega) (by simp; omega), bnoS]
  congr 3
  simp; omega
end Go.Fn
