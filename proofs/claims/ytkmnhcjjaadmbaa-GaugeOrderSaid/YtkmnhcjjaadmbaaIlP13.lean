/-
  A part of the proof: rules and plain facts. No condition.
-/
import Derived.Test.YtkmnhcjjaadmbaaIlP12
set_option linter.all false
set_option linter.unusedSimpArgs false
set_option linter.unusedVariables false
open Go Go.IL Go.Fl
namespace Go.Fn

/-! The stable sort, plainly. -/
def dg (D : List Int) (k : Nat) : Int := D.getD k 0
theorem dg_some {D : List Int} {k : Nat} (h : k < D.length) : D[k]? = some (dg D k) := by
  unfold dg; rw [List.getElem?_eq_getElem h, List.getD_eq_getElem?_getD, List.getElem?_eq_getElem h]; rfl
theorem dg_set {D : List Int} {i : Nat} (h : i < D.length) (k : Nat) (u : Int) : dg (D.set i u) k = if k = i then u else dg D k := by
  unfold dg
  rw [List.getD_eq_getElem?_getD, List.getD_eq_getElem?_getD, List.getElem?_set]
  by_cases hk : i = k
  · subst hk; simp [h]
  · rw [if_neg hk, if_neg (fun e => hk e.symm)]
theorem gix_dg {D : List Int} {k : Nat} (h : k < D.length) : gix D (k : Int) = some (dg D k) := by rw [gix_nat, dg_some h]
theorem get_dg {D : List Int} {k : Nat} (h : k < D.length) : D[((k : Nat) : Int).toNat]? = some (dg D k) := by rw [Int.toNat_natCast, dg_some h]
/-- The key of a number: none is less than all. -/
def kk (a : Nat) : Int := if isNan a then -18446744073709551616 else K a
theorem K_ge (a : Nat) : -9223372036854775808 < K a := by have := rung_lt a; unfold K; split <;> omega
theorem cmpOf_kk (a b : Nat) : cmpOf a b = if kk a < kk b then -1 else if kk b < kk a then 1 else 0 := by
  have h1 := K_ge a
  have h2 := K_ge b
  unfold cmpOf kk
  cases isNan a <;> cases isNan b <;> simp <;> (repeat' split) <;> first | rfl | omega
def wk (l : List Nat) (i : Int) : Int := kk (l.getD i.toNat 0)
theorem order1_eq {l : List Nat} {i j : Int} (hi : 0 ≤ i ∧ i < l.length) (hj : 0 ≤ j ∧ j < l.length) : ∃ c, gauge_Order_1 i j l = some c ∧ (decide (c < 0) = decide (wk l j < wk l i)) := by
  unfold gauge_Order_1
  rw [gix_lit l hj.1, gix_lit l hi.1, List.getElem?_eq_getElem (by omega), List.getElem?_eq_getElem (by omega), bnoS, bnoS, compare_eq, bnoS]
  refine ⟨_, rfl, ?_⟩
  rw [cmpOf_kk]
  have e1 : wk l j = kk l[j.toNat] := by unfold wk; rw [List.getD_eq_getElem?_getD, List.getElem?_eq_getElem (by omega)]; rfl
  have e2 : wk l i = kk l[i.toNat] := by unfold wk; rw [List.getD_eq_getElem?_getD, List.getElem?_eq_getElem (by omega)]; rfl
  rw [e1, e2]
  by_cases h : kk l[j.toNat] < kk l[i.toNat]
  · rw [if_pos h]; simp [h]
  · rw [if_neg h]; split <;> simp [h]
/-- Who stands ahead of whom. -/
def R (l : List Nat) (i j : Int) : Prop := wk l j < wk l i ∨ (wk l i = wk l j ∧ i < j)
def Srt (l : List Nat) (D : List Int) (a b : Nat) : Prop := ∀ i j, a ≤ i → i < j → j < b → R l (dg D i) (dg D j)
/-- All are places in the list. -/
def Rng (l : List Nat) (D : List Int) : Prop := ∀ k, k < D.length → 0 ≤ dg D k ∧ dg D k < l.length

/-! Insertion. -/
structure InsInv (l : List Nat) (D0 D : List Int) (a i j : Nat) : Prop where
  len : D.length = D0.length
  aj : a ≤ j
  ji : j ≤ i
  lo : ∀ k, k < j → dg D k = dg D0 k
  at' : dg D j = dg D0 i
  mid : ∀ k, j < k → k ≤ i → dg D k = dg D0 (k - 1) ∧ wk l (dg D0 (k - 1)) < wk l (dg D0 i)
  hi : ∀ k, i < k → dg D k = dg D0 k
theorem ins_in {l : List Nat} {a i : Nat} {kk0 : List Int → Int → Option (List Int)} {D0 : List Int} (hi : i < D0.length) (hlen : D0.length ≤ 1000) (hr : Rng l D0) (hs : Srt l D0 a i) (hx : ∀ k, a ≤ k → k < i → dg D0 k < dg D0 i) :
    ∀ (n : Nat) (D : List Int) (j : Nat), j - a < n → InsInv l D0 D a i j → ∃ D' j', InsInv l D0 D' a i j' ∧ (a < j' → wk l (dg D0 i) ≤ wk l (dg D0 (j' - 1))) ∧ slices_insertionSortCmpFunc_int_h_Order_1_L1 (a : Int) l (i : Int) kk0 n D (j : Int) = kk0 D' ((i + 1 : Nat) : Int) := by
  intro n
  induction n with
  | zero => intro D j h; omega
  | succ n ih =>
    intro D j hn hI
    obtain ⟨h1, h2, h3, h4, h5, h6, h7⟩ := hI
    have hjl : j < D.length := by omega
    have wi : IntKind.wrap .i64 ((i : Int) + 1) = ((i + 1 : Nat) : Int) := by rw [w64 (by omega) (by omega)]; omega
    unfold slices_insertionSortCmpFunc_int_h_Order_1_L1
    by_cases haj : a < j
    · have wj : IntKind.wrap .i64 ((j : Int) - 1) = ((j - 1 : Nat) : Int) := by rw [w64 (by omega) (by omega)]; omega
      have hj1 : j - 1 < D.length := by omega
      have r1 := hr i hi
      have r2 := hr (j - 1) (by omega)
      obtain ⟨c, hc, hd⟩ := order1_eq (l := l) (i := dg D j) (j := dg D (j - 1)) (by rw [h5]; exact r1) (by rw [h4 _ (by omega)]; exact r2)
      simp only [bndD, decide_eq_true (show ((a : Nat) : Int) < (j : Int) by omega), beq_self_eq_true, gdtt, gix_dg hjl, get_dg hjl, bnoS, wj, gix_dg hj1, get_dg hj1, hc, hd, Bool.true_and]
      rw [h5, h4 _ (by omega : j - 1 < j)]
      by_cases hw : wk l (dg D0 (j - 1)) < wk l (dg D0 i)
      · rw [decide_eq_true hw, cond_true]
        have e1 : (D.set j (dg D0 (j - 1))).length = D.length := List.length_set
        simp only [Int.toNat_natCast]
        rw [gix_dg (D := D.set j (dg D0 (j - 1))) (by rw [e1]; exact hj1), bnoS, dg_some (D := D.set j (dg D0 (j - 1))) (by rw [e1]; exact hj1), bnoS]
        refine ih _ (j - 1) (by omega) ⟨by simp [h1], by omega, by omega, ?_, ?_, ?_, ?_⟩
        · intro k hk
          rw [dg_set (by rw [e1]; exact hj1), dg_set hjl, if_neg (by omega), if_neg (by omega)]; exact h4 k (by omega)
        · rw [dg_set (by rw [e1]; exact hj1), if_pos rfl]
        · intro k hk1 hk2
          rw [dg_set (by rw [e1]; exact hj1), dg_set hjl, if_neg (by omega)]
          by_cases hkj : k = j
          · subst hkj; rw [if_pos rfl]; exact ⟨rfl, hw⟩
          · rw [if_neg hkj]; exact h6 k (by omega) hk2
        · intro k hk
          rw [dg_set (by rw [e1]; exact hj1), dg_set hjl, if_neg (by omega), if_neg (by omega)]; exact h7 k hk
      · rw [decide_eq_false hw, cond_false, wi]
        exact ⟨D, j, ⟨h1, h2, h3, h4, h5, h6, h7⟩, fun _ => by omega, rfl⟩
    · have hja : j = a := by omega
      have ff : (false == true) = false := rfl
      simp only [bndD, decide_eq_false (show ¬ ((a : Nat) : Int) < (j : Int) by omega), ff, gdff, bnoS, Bool.false_and, cond_false, wi]
      exact ⟨D, j, ⟨h1, h2, h3, h4, h5, h6, h7⟩, fun h => by omega, rfl⟩
theorem ins_srt {l : List Nat} {D0 D : List Int} {a i j : Nat} (hI : InsInv l D0 D a i j) (hs : Srt l D0 a i) (hx : ∀ k, a ≤ k → k < i → dg D0 k < dg D0 i) (hj : a < j → wk l (dg D0 i) ≤ wk l (dg D0 (j - 1))) : Srt l D a (i + 1) := by
  obtain ⟨h1, h2, h3, h4, h5, h6, h7⟩ := hI
  have low : ∀ k, a ≤ k → k < j → wk l (dg D0 i) ≤ wk l (dg D0 k) := by
    intro k hk1 hk2
    have h8 := hj (by omega)
    by_cases hk : k = j - 1
    · rw [hk]; exact h8
    · have := hs k (j - 1) hk1 (by omega) (by omega)
      unfold R at this; omega
  intro p q hp hpq hq
  unfold R
  by_cases c1 : q < j
  · rw [h4 p (by omega), h4 q c1]; exact hs p q hp hpq (by omega)
  · by_cases c2 : q = j
    · subst c2
      rw [h5, h4 p (by omega)]
      have := low p hp (by omega)
      have := hx p hp (by omega)
      omega
    · have hq6 := h6 q (by omega) (by omega)
      rw [hq6.1]
      by_cases c3 : p < j
      · rw [h4 p c3]
        by_cases c4 : p = q - 1
        · omega
        · exact hs p (q - 1) hp (by omega) (by omega)
      · by_cases c4 : p = j
        · subst c4; rw [h5]; left; exact hq6.2
        · have hp6 := h6 p (by omega) (by omega)
          rw [hp6.1]; exact hs (p - 1) (q - 1) (by omega) (by omega) (by omega)
/-- A block: in order, and of its own places. -/
def Blk (l : List Nat) (D : List Int) (a b : Nat) : Prop := Srt l D a b ∧ ∀ k, a ≤ k → k < b → (a : Int) ≤ dg D k ∧ dg D k < b
theorem ins_out {l : List Nat} {a b : Nat} (hlen : b ≤ 1000) : ∀ (n i : Nat) (D : List Int), D.length ≤ 1000 → b ≤ D.length → b - i < n → a < i → i ≤ b → Rng l D → Blk l D a i → (∀ k, i ≤ k → k < b → dg D k = k) →
    ∃ D', slices_insertionSortCmpFunc_int_h_Order_1_L0 (a : Int) (b : Int) l n D (i : Int) = some D' ∧ D'.length = D.length ∧ Blk l D' a b ∧ (∀ k, k < a ∨ b ≤ k → dg D' k = dg D k) ∧ Rng l D' := by
  intro n
  induction n with
  | zero => intro i D _ _ h; omega
  | succ n ih =>
    intro i D hD hbD hn hai hib hr hb hid
    unfold slices_insertionSortCmpFunc_int_h_Order_1_L0
    by_cases hi : i < b
    · have hx : ∀ k, a ≤ k → k < i → dg D k < dg D i := by
        intro k hk1 hk2; rw [hid i (Nat.le_refl _) hi]; exact (hb.2 k hk1 hk2).2
      obtain ⟨D', j, hI, hj, he⟩ := ins_in (kk0 := slices_insertionSortCmpFunc_int_h_Order_1_L0 (a : Int) (b : Int) l n) (by omega : i < D.length) hD hr hb.1 hx fuel D i (fuel_gt (by omega)) ⟨rfl, by omega, Nat.le_refl _, fun _ _ => rfl, rfl, fun k h1 h2 => by omega, fun _ _ => rfl⟩
      have hsrt := ins_srt hI hb.1 hx hj
      obtain ⟨h1, h2, h3, h4, h5, h6, h7⟩ := hI
      have hval : ∀ k, a ≤ k → k ≤ i → ∃ k', a ≤ k' ∧ k' ≤ i ∧ dg D' k = dg D k' := by
        intro k hk1 hk2
        by_cases c1 : k < j
        · exact ⟨k, hk1, hk2, h4 k c1⟩
        · by_cases c2 : k = j
          · subst c2; exact ⟨i, by omega, Nat.le_refl _, h5⟩
          · exact ⟨k - 1, by omega, by omega, (h6 k (by omega) hk2).1⟩
      have hblk : Blk l D' a (i + 1) := ⟨hsrt, fun k hk1 hk2 => by
        obtain ⟨k', e1, e2, e3⟩ := hval k hk1 (by omega)
        rw [e3]
        by_cases c : k' = i
        · rw [c, hid i (Nat.le_refl _) hi]; omega
        · have := hb.2 k' e1 (by omega); omega⟩
      have hrng : Rng l D' := by
        intro k hk
        by_cases c1 : k < j
        · rw [h4 k c1]; exact hr k (by omega)
        · by_cases c2 : k = j
          · subst c2; rw [h5]; exact hr i (by omega)
          · by_cases c3 : k ≤ i
            · rw [(h6 k (by omega) c3).1]; exact hr (k - 1) (by omega)
            · rw [h7 k (by omega)]; exact hr k (by omega)
      obtain ⟨D2, e1, e2, e3, e4, e5⟩ := ih (i + 1) D' (by omega) (by omega) (by omega) (by omega) (by omega) hrng hblk (fun k hk1 hk2 => by rw [h7 k (by omega)]; exact hid k (by omega) hk2)
      refine ⟨D2, ?_, by omega, e3, fun k hk => ?_, e5⟩
      · simp only [bndD, decide_eq_true (show (i : Int) < (b : Int) by omega), cond_true]
        rw [he]; exact e1
      · rw [e4 k hk]
        rcases hk with hk | hk
        · exact h4 k (by omega)
        · exact h7 k (by omega)
    · have : i = b := by omega
      subst this
      simp only [bndD, decide_eq_false (show ¬ (i : Int) < (i : Int) by omega), cond_false]
      exact ⟨D, rfl, rfl, hb, fun _ _ => rfl, hr⟩
theorem ins_eq {l : List Nat} {a b : Nat} {D : List Int} (hD : D.length ≤ 1000) (hab : a < b) (hb : b ≤ D.length) (hr : Rng l D) (hid : ∀ k, a ≤ k → k < b → dg D k = k) :
    ∃ D', slices_insertionSortCmpFunc_int_h_Order_1 (a : Int) (b : Int) D l = some D' ∧ D'.length = D.length ∧ Blk l D' a b ∧ (∀ k, k < a ∨ b ≤ k → dg D' k = dg D k) ∧ Rng l D' := by
  unfold slices_insertionSortCmpFunc_int_h_Order_1
  have e : IntKind.wrap .i64 ((a : Int) + 1) = ((a + 1 : Nat) : Int) := by rw [w64 (by omega) (by omega)]; omega
  simp only [bndD, e]
  refine ins_out (by omega) fuel (a + 1) D hD hb (fuel_gt (by omega)) (by omega) (by omega) hr ⟨fun i j h1 h2 h3 => by omega, fun k h1 h2 => ?_⟩ (fun k h1 h2 => hid k (by omega) h2)
  have : k = a := by omega
  subst this; rw [hid k h1 hab]; omega

/-! Rotation. -/
theorem swap_in {p q : Nat} {c : Nat} {D0 : List Int} (hD : D0.length ≤ 1000) (hpq : p + c ≤ q) (hq : q + c ≤ D0.length) : ∀ (n i : Nat) (D : List Int), c - i < n → i ≤ c → D.length = D0.length → (∀ k, dg D k = if p ≤ k ∧ k < p + i then dg D0 (k - p + q) else if q ≤ k ∧ k < q + i then dg D0 (k - q + p) else dg D0 k) →
    ∃ D', slices_swapRangeCmpFunc_int_h_Order_1_L0 (p : Int) (q : Int) (c : Int) n D (i : Int) = some D' ∧ D'.length = D0.length ∧ ∀ k, dg D' k = if p ≤ k ∧ k < p + c then dg D0 (k - p + q) else if q ≤ k ∧ k < q + c then dg D0 (k - q + p) else dg D0 k := by
  intro n
  induction n with
  | zero => intro i D h; omega
  | succ n ih =>
    intro i D hn hic hl hk
    unfold slices_swapRangeCmpFunc_int_h_Order_1_L0
    by_cases hi : i < c
    · have w1 : IntKind.wrap .i64 ((p : Int) + (i : Int)) = ((p + i : Nat) : Int) := by rw [w64 (by omega) (by omega)]; omega
      have w2 : IntKind.wrap .i64 ((q : Int) + (i : Int)) = ((q + i : Nat) : Int) := by rw [w64 (by omega) (by omega)]; omega
      have w3 : IntKind.wrap .i64 ((i : Int) + 1) = ((i + 1 : Nat) : Int) := by rw [w64 (by omega) (by omega)]; omega
      have h1 : p + i < D.length := by omega
      have h2 : q + i < D.length := by omega
      have e1 : ∀ u, (D.set (p + i) u).length = D.length := fun u => List.length_set
      simp only [bndD, decide_eq_true (show (i : Int) < (c : Int) by omega), cond_true, w1, w2, w3, gix_dg h1, gix_dg h2, get_dg h1, get_dg h2, bnoS, Int.toNat_natCast, dg_some h1, dg_some h2]
      rw [gix_dg (D := D.set (p + i) (dg D (q + i))) (by rw [e1]; exact h2), bnoS, dg_some (D := D.set (p + i) (dg D (q + i))) (by rw [e1]; exact h2), bnoS]
      refine ih (i + 1) _ (by omega) (by omega) (by simp [hl]) fun k => ?_
      rw [dg_set (by rw [e1]; exact h2), dg_set h1]
      simp only [hk]
      (repeat' split) <;> first | rfl | (congr 1; omega) | (exfalso; omega)
    · have : i = c := by omega
      subst this
      simp only [bndD, decide_eq_false (show ¬ (i : Int) < (i : Int) by omega), cond_false]
      exact ⟨D, rfl, hl, hk⟩
theorem swap_eq {p q c : Nat} {D : List Int} {l : List Nat} (hD : D.length ≤ 1000) (hpq : p + c ≤ q) (hq : q + c ≤ D.length) :
    ∃ D', slices_swapRangeCmpFunc_int_h_Order_1 (p : Int) (q : Int) (c : Int) D l = some D' ∧ D'.length = D.length ∧ ∀ k, dg D' k = if p ≤ k ∧ k < p + c then dg D (k - p + q) else if q ≤ k ∧ k < q + c then dg D (k - q + p) else dg D k := by
  unfold slices_swapRangeCmpFunc_int_h_Order_1
  exact swap_in hD hpq hq fuel 0 D (fuel_gt (by omega)) (by omega) rfl (fun k => by rw [if_neg (by omega), if_neg (by omega)])
/-- What a rotation of [a, m) and [m, b) leaves. -/
def rot (D : List Int) (a m b k : Nat) : Int := if a ≤ k ∧ k < a + (b - m) then dg D (k + (m - a)) else if a + (b - m) ≤ k ∧ k < b then dg D (k - (b - m)) else dg D k
theorem rot_in {l : List Nat} {m : Nat} : ∀ (n i j : Nat) (D : List Int), i + j < n → 0 < i → 0 < j → i ≤ m → m + j ≤ D.length → D.length ≤ 1000 →
    ∃ D', slices_rotateCmpFunc_int_h_Order_1_L0 (m : Int) l n D (i : Int) (j : Int) = some D' ∧ D'.length = D.length ∧ ∀ k, dg D' k = rot D (m - i) m (m + j) k := by
  intro n
  induction n with
  | zero => intro i j D h; omega
  | succ n ih =>
    intro i j D hn hi hj him hmj hD
    have wmi : IntKind.wrap .i64 ((m : Int) - (i : Int)) = ((m - i : Nat) : Int) := by rw [w64 (by omega) (by omega)]; omega
    unfold slices_rotateCmpFunc_int_h_Order_1_L0
    by_cases hij : i = j
    · subst hij
      obtain ⟨D', e1, e2, e3⟩ := swap_eq (p := m - i) (q := m) (c := i) (D := D) (l := l) hD (by omega) (by omega)
      simp only [bndD, decide_true, Bool.not_true, cond_false, wmi, e1, bnoS, chk_t e2]
      refine ⟨D', rfl, e2, fun k => ?_⟩
      rw [e3]; unfold rot
      (repeat' split) <;> first | rfl | (congr 1; omega) | (exfalso; omega)
    · simp only [bndD, decide_eq_false (show ¬ (i : Int) = (j : Int) by omega), Bool.not_false, cond_true]
      by_cases hlt : j < i
      · have w1 : IntKind.wrap .i64 ((i : Int) - (j : Int)) = ((i - j : Nat) : Int) := by rw [w64 (by omega) (by omega)]; omega
        obtain ⟨D1, e1, e2, e3⟩ := swap_eq (p := m - i) (q := m) (c := j) (D := D) (l := l) hD (by omega) (by omega)
        simp only [decide_eq_true (show (j : Int) < (i : Int) by omega), cond_true, wmi, e1, bnoS, chk_t e2, w1]
        obtain ⟨D2, f1, f2, f3⟩ := ih (i - j) j D1 (by omega) (by omega) hj (by omega) (by omega) (by omega)
        refine ⟨D2, f1, by omega, fun k => ?_⟩
        rw [f3]; unfold rot
        simp only [e3]
        (repeat' split) <;> first | rfl | (congr 1; omega) | (exfalso; omega)
      · have w1 : IntKind.wrap .i64 ((j : Int) - (i : Int)) = ((j - i : Nat) : Int) := by rw [w64 (by omega) (by omega)]; omega
        have w2 : IntKind.wrap .i64 ((m : Int) + (j : Int)) = ((m + j : Nat) : Int) := by rw [w64 (by omega) (by omega)]; omega
        have w3 : IntKind.wrap .i64 (((m + j : Nat) : Int) - (i : Int)) = ((m + j - i : Nat) : Int) := by rw [w64 (by omega) (by omega)]; omega
        obtain ⟨D1, e1, e2, e3⟩ := swap_eq (p := m - i) (q := m + j - i) (c := i) (D := D) (l := l) hD (by omega) (by omega)
        simp only [decide_eq_false (show ¬ (j : Int) < (i : Int) by omega), cond_false, wmi, w2, w3, e1, bnoS, chk_t e2, w1]
        obtain ⟨D2, f1, f2, f3⟩ := ih i (j - i) D1 (by omega) hi (by omega) him (by omega) (by omega)
        refine ⟨D2, f1, by omega, fun k => ?_⟩
        rw [f3]; unfold rot
        simp only [e3]
        (repeat' split) <;> first | rfl | (congr 1; omega) | (exfalso; omega)
theorem rot_eq {l : List Nat} {a m b : Nat} {D : List Int} (hD : D.length ≤ 1000) (h1 : a < m) (h2 : m < b) (h3 : b ≤ D.length) :
    ∃ D', slices_rotateCmpFunc_int_h_Order_1 (a : Int) (m : Int) (b : Int) D l = some D' ∧ D'.length = D.length ∧ ∀ k, dg D' k = rot D a m b k := by
  unfold slices_rotateCmpFunc_int_h_Order_1
  have w1 : IntKind.wrap .i64 ((m : Int) - (a : Int)) = ((m - a : Nat) : Int) := by rw [w64 (by omega) (by omega)]; omega
  have w2 : IntKind.wrap .i64 ((b : Int) - (m : Int)) = ((b - m : Nat) : Int) := by rw [w64 (by omega) (by omega)]; omega
  simp only [bndD, w1, w2]
  obtain ⟨D', e1, e2, e3⟩ := rot_in (l := l) (m := m) fuel (m - a) (b - m) D (fuel_gt (by omega)) (by omega) (by omega) (by omega) (by omega) hD
  refine ⟨D', e1, e2, fun k => ?_⟩
  rw [e3, show m - (m - a) = a by omega, show m + (b - m) = b by omega]
end Go.Fn
