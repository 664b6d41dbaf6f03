/-
  A part of the proof: rules and plain facts. No condition.
-/
import Derived.Test.YtkmnhcjjaadmbaaIlP15
set_option linter.all false
set_option linter.unusedSimpArgs false
set_option linter.unusedVariables false
open Go Go.IL Go.Fl
namespace Go.Fn

/-! The order of all. -/
def iota (n : Nat) : List Int := (List.range n).map Int.ofNat
theorem iota_len (n : Nat) : (iota n).length = n := by simp [iota]
theorem iota_succ (n : Nat) : iota (n + 1) = iota n ++ [(n : Int)] := by simp [iota, List.range_succ]
theorem dg_iota {n k : Nat} (h : k < n) : dg (iota n) k = k := by
  unfold dg; rw [List.getD_eq_getElem?_getD, iota, List.getElem?_map, List.getElem?_range h]; rfl
structure Ord (l : List Nat) (D : List Int) : Prop where
  len : D.length = l.length
  rng : Rng l D
  srt : Srt l D 0 l.length
theorem sort_eq {l : List Nat} (hn : l.length ≤ 400) : ∃ D, slices_SortStableFunc_int_int_h_Order_1 (iota l.length) l = some D ∧ Ord l D := by
  unfold slices_SortStableFunc_int_int_h_Order_1 slices_stableCmpFunc_int_h_Order_1
  obtain ⟨D, e1, e2, e3, e4⟩ := ins_blocks (l := l) (n := l.length) hn fuel 0 (iota l.length) (fuel_gt (by omega)) (iota_len _) (by omega) (fun k hk => by
    rw [iota_len] at hk; rw [dg_iota hk]; omega) (fun d hd => by omega) (fun k h1 h2 => dg_iota h2)
  rw [show 20 * 0 = 0 from rfl, show 0 + 20 = 20 from rfl, show ((0 : Nat) : Int) = 0 from rfl, show ((20 : Nat) : Int) = 20 from rfl] at e1
  rw [iota_len, e1, bnoS, chk_t (by rw [e2])]
  exact ⟨D, rfl, e2, e3, e4.1⟩
theorem order_L {l : List Nat} (hn : l.length ≤ 400) : ∀ (f i : Nat), l.length - i < f → i ≤ l.length → ∃ D, gauge_Order_L0 l f (iota i) (i : Int) = some D ∧ Ord l D := by
  intro f
  induction f with
  | zero => intro i h; omega
  | succ f ih =>
    intro i hf hi
    unfold gauge_Order_L0
    by_cases h : i < l.length
    · have w : IntKind.wrap .i64 ((i : Int) + 1) = ((i + 1 : Nat) : Int) := by rw [w64 (by omega) (by omega)]; omega
      have ha : app 8 (iota i) ([(i : Int)] : List Int) = some (iota (i + 1)) := by
        rw [app_ok (by rw [iota_len]; simp; omega) (by rw [iota_len]; simp; omega), iota_succ]
      simp only [bndD, decide_eq_true (show (i : Int) < (l.length : Int) by omega), cond_true, ha, bnoS, w]
      exact ih (i + 1) (by omega) (by omega)
    · have : i = l.length := by omega
      subst this
      obtain ⟨D, e1, e2⟩ := sort_eq hn
      simp only [bndD, decide_eq_false (show ¬ (l.length : Int) < (l.length : Int) by omega), cond_false, e1, bnoS, chk_t (show D.length = (iota l.length).length by rw [iota_len, e2.len])]
      exact ⟨D, rfl, e2⟩
theorem order_ok {l : List Nat} (hn : l.length ≤ 400) : ∃ D, gauge_Order l = some D ∧ Ord l D := by
  unfold gauge_Order
  have := order_L hn fuel 0 (fuel_gt (by omega)) (by omega)
  rwa [show iota 0 = [] from rfl, show ((0 : Nat) : Int) = 0 from rfl] at this

/-! The document's. -/
theorem dg_ins {D : List Int} {k : Nat} {x : Int} (hk : k ≤ D.length) (p : Nat) : dg (D.take k ++ [x] ++ D.drop k) p = if p < k then dg D p else if p = k then x else dg D (p - 1) := by
  unfold dg
  simp only [List.getD_eq_getElem?_getD]
  have e1 : (D.take k).length = k := by rw [List.length_take]; omega
  by_cases c1 : p < k
  · rw [if_pos c1, List.append_assoc, List.getElem?_append_left (by omega), List.getElem?_take, if_pos c1]
  · rw [if_neg c1]
    by_cases c2 : p = k
    · rw [if_pos c2, List.append_assoc, List.getElem?_append_right (by omega), e1, c2, Nat.sub_self]; rfl
    · rw [if_neg c2, List.getElem?_append_right (by rw [List.length_append]; simp; omega), List.length_append, e1, List.getElem?_drop]
      congr 2
      simp; omega
structure OrdTo (l : List Nat) (D : List Int) (i : Nat) : Prop where
  len : D.length = i
  rng : ∀ k, k < i → 0 ≤ dg D k ∧ dg D k < i
  srt : Srt l D 0 i
theorem reforder_in {l : List Nat} {i : Nat} {D : List Int} {kk0 : List Int → Int → Option (List Int)} (hn : l.length ≤ 400) (hi : i < l.length) (hD : OrdTo l D i) : ∀ (f k : Nat), k < f → k ≤ i → (∀ p, k ≤ p → p < i → wk l (dg D p) < wk l (i : Int)) →
    ∃ D', sennitref27_Order_L1 l D (i : Int) kk0 f (k : Int) = kk0 D' ((i + 1 : Nat) : Int) ∧ OrdTo l D' (i + 1) := by
  intro f
  induction f with
  | zero => intro k h; omega
  | succ f ih =>
    intro k hf hk hw
    obtain ⟨h1, h2, h3⟩ := hD
    have fin : (0 < k → wk l (i : Int) ≤ wk l (dg D (k - 1))) → OrdTo l (D.take k ++ [(i : Int)] ++ D.drop k) (i + 1) := by
      intro hk0
      have low : ∀ p, p < k → wk l (i : Int) ≤ wk l (dg D p) := fun p hp => by
        have h4 := hk0 (by omega)
        have h5 := wk_mono h3 (Nat.zero_le p) (show p ≤ k - 1 by omega) (by omega)
        omega
      refine ⟨by simp [h1]; omega, fun p hp => ?_, fun p q _ hpq hq => ?_⟩
      · rw [dg_ins (by omega)]
        by_cases c1 : p < k
        · rw [if_pos c1]; have := h2 p (by omega); omega
        · rw [if_neg c1]
          by_cases c2 : p = k
          · rw [if_pos c2]; omega
          · rw [if_neg c2]; have := h2 (p - 1) (by omega); omega
      · rw [dg_ins (by omega), dg_ins (by omega)]
        by_cases c1 : q < k
        · rw [if_pos (by omega), if_pos c1]; exact h3 p q (by omega) hpq (by omega)
        · rw [if_neg (c := q < k) c1]
          by_cases c2 : q = k
          · rw [if_pos c2, if_pos (by omega)]
            have := low p (by omega)
            have := h2 p (by omega)
            unfold R; omega
          · rw [if_neg c2]
            by_cases c3 : p < k
            · rw [if_pos c3]
              by_cases c5 : p = q - 1
              · omega
              · exact h3 p (q - 1) (by omega) (by omega) (by omega)
            · rw [if_neg c3]
              by_cases c4 : p = k
              · rw [if_pos c4]; left; exact hw (q - 1) (by omega) (by omega)
              · rw [if_neg c4]; exact h3 (p - 1) (q - 1) (by omega) (by omega) (by omega)
    have wi : IntKind.wrap .i64 ((i : Int) + 1) = ((i + 1 : Nat) : Int) := by rw [w64 (by omega) (by omega)]; omega
    have tail : ∀ (o : Option (List Int)), o = (bno (cut D 0 (k : Int)) fun x114 => bno (app 8 ([] : (List Int)) x114) fun x115 => bno (app 8 x115 ([(i : Int)] : (List Int))) fun x116 => bno (cut D (k : Int) (D.length : Int)) fun x117 => bno (app 8 x116 x117) fun x118 => bnd (IntKind.wrap .i64 ((i : Int) + 1)) fun x119 => kk0 x118 x119) → o = kk0 (D.take k ++ [(i : Int)] ++ D.drop k) ((i + 1 : Nat) : Int) := by
      intro o ho
      rw [ho, cut_of (by omega) (by omega), bnoS, Int.toNat_natCast, app_ok (by simp; omega) (by simp; omega), bnoS, app_ok (by simp; omega) (by simp; omega), bnoS, cut_to (by omega) (by omega), bnoS, Int.toNat_natCast, app_ok (by simp; omega) (by simp; omega), bnoS, bndD, wi, List.nil_append]
    unfold sennitref27_Order_L1
    by_cases c : 0 < k
    · have wk1 : IntKind.wrap .i64 ((k : Int) - 1) = ((k - 1 : Nat) : Int) := by rw [w64 (by omega) (by omega)]; omega
      have hk1 : k - 1 < D.length := by omega
      have r := h2 (k - 1) (by omega)
      have g1 : gix l (i : Int) = some (l.getD i 0) := by rw [gix_nat, List.getElem?_eq_getElem hi, List.getD_eq_getElem?_getD, List.getElem?_eq_getElem hi]; rfl
      have g2 : gix l (dg D (k - 1)) = some (l.getD (dg D (k - 1)).toNat 0) := by
        rw [gix_lit l r.1, List.getD_eq_getElem?_getD, List.getElem?_eq_getElem (by omega)]; rfl
      simp only [bndD, decide_eq_true (show (0 : Int) < (k : Int) by omega), beq_self_eq_true, gdtt, g1, bnoS, wk1, gix_dg hk1, g2, refcompare_eq, Bool.true_and]
      have hd : decide (0 < cmpOf (l.getD i 0) (l.getD (dg D (k - 1)).toNat 0)) = decide (wk l (dg D (k - 1)) < wk l (i : Int)) := by
        rw [cmpOf_kk]
        unfold wk
        rw [Int.toNat_natCast]
        by_cases h : kk (l.getD i 0) < kk (l.getD (dg D (k - 1)).toNat 0)
        · rw [if_pos h]; rw [decide_eq_false (by decide), decide_eq_false (by omega)]
        · rw [if_neg h]
          by_cases h' : kk (l.getD (dg D (k - 1)).toNat 0) < kk (l.getD i 0)
          · rw [if_pos h', decide_eq_true h']; rfl
          · rw [if_neg h', decide_eq_false h']; rfl
      rw [hd]
      by_cases hw2 : wk l (dg D (k - 1)) < wk l (i : Int)
      · rw [decide_eq_true hw2, cond_true]
        refine ih (k - 1) (by omega) (by omega) (fun p hp1 hp2 => ?_)
        by_cases hpk : p = k - 1
        · rw [hpk]; exact hw2
        · exact hw p (by omega) hp2
      · rw [decide_eq_false hw2, cond_false]
        exact ⟨_, tail _ rfl, fin fun _ => by omega⟩
    · have hk0 : k = 0 := by omega
      subst hk0
      have ff : (false == true) = false := rfl
      have hz : decide ((0 : Int) < ((0 : Nat) : Int)) = false := rfl
      simp only [bndD, hz, ff, gdff, bnoS, Bool.false_and, cond_false]
      exact ⟨_, tail _ rfl, fin fun h => by omega⟩
theorem reforder_L {l : List Nat} (hn : l.length ≤ 400) : ∀ (f i : Nat) (D : List Int), l.length - i < f → i ≤ l.length → OrdTo l D i → ∃ E, sennitref27_Order_L0 l f D (i : Int) = some E ∧ Ord l E := by
  intro f
  induction f with
  | zero => intro i D h; omega
  | succ f ih =>
    intro i D hf hi hD
    unfold sennitref27_Order_L0
    by_cases h : i < l.length
    · simp only [bndD, decide_eq_true (show (i : Int) < (l.length : Int) by omega), cond_true, hD.len]
      obtain ⟨D', e1, e2⟩ := reforder_in (kk0 := sennitref27_Order_L0 l f) hn h hD fuel i (fuel_gt (by omega)) (Nat.le_refl _) (fun p h1 h2 => by omega)
      rw [e1]
      exact ih (i + 1) D' (by omega) (by omega) e2
    · have : i = l.length := by omega
      subst this
      simp only [bndD, decide_eq_false (show ¬ (l.length : Int) < (l.length : Int) by omega), cond_false]
      exact ⟨D, rfl, hD.len, fun k hk => hD.rng k (by rw [hD.len] at hk; exact hk), hD.srt⟩
theorem reforder_ok {l : List Nat} (hn : l.length ≤ 400) : ∃ D, sennitref27_Order l = some D ∧ Ord l D := by
  unfold sennitref27_Order
  exact reforder_L hn fuel 0 [] (fuel_gt (by omega)) (by omega) ⟨rfl, fun k h => by omega, fun i j h1 h2 h3 => by omega⟩

/-! There is one such order. -/
theorem nodup_len {α : Type} [DecidableEq α] : ∀ (l m : List α), l.Nodup → (∀ x ∈ l, x ∈ m) → l.length ≤ m.length
  | [], m, _, _ => Nat.zero_le _
  | x :: l, m, h, hs => by
    rw [List.nodup_cons] at h
    have h1 := nodup_len l (m.erase x) h.2 (fun y hy => (List.mem_erase_of_ne (by rintro rfl; exact h.1 hy)).2 (hs y (by simp [hy])))
    have h2 := List.length_erase_of_mem (hs x (by simp))
    have h3 : 0 < m.length := List.length_pos_of_mem (hs x (by simp))
    simp only [List.length_cons]; omega
theorem R_irr {l : List Nat} {i : Int} : ¬ R l i i := by unfold R; omega
theorem R_asym {l : List Nat} {i j : Int} (h : R l i j) : ¬ R l j i := by unfold R at *; omega
theorem mem_dg {D : List Int} {x : Int} (h : x ∈ D) : ∃ k, k < D.length ∧ dg D k = x := by
  obtain ⟨k, hk, e⟩ := List.mem_iff_getElem.1 h
  refine ⟨k, hk, ?_⟩
  unfold dg; rw [List.getD_eq_getElem?_getD, List.getElem?_eq_getElem hk, e]; rfl
theorem dg_getElem {D : List Int} {k : Nat} (h : k < D.length) : D[k] = dg D k := by
  unfold dg; rw [List.getD_eq_getElem?_getD, List.getElem?_eq_getElem h]; rfl
theorem ord_all {l : List Nat} {D : List Int} (h : Ord l D) {y : Nat} (hy : y < l.length) : ∃ k, k < l.length ∧ dg D k = y := by
  refine Decidable.byContradiction fun hn => ?_
  have hnd : D.Nodup := by
    rw [List.Nodup, List.pairwise_iff_getElem]
    intro i j hi hj hij e
    rw [dg_getElem hi, dg_getElem hj] at e
    have := h.srt i j (Nat.zero_le _) hij (by rw [← h.len]; exact hj)
    rw [e] at this; exact R_irr this
  have h1 := nodup_len D ((iota l.length).erase (y : Int)) hnd fun x hx => by
    obtain ⟨k, hk, rfl⟩ := mem_dg hx
    have hr := h.rng k hk
    refine (List.mem_erase_of_ne fun e => hn ⟨k, by rw [← h.len]; exact hk, e⟩).2 ?_
    unfold iota
    exact List.mem_map.2 ⟨(dg D k).toNat, List.mem_range.2 (by omega), Int.toNat_of_nonneg hr.1⟩
  have h2 : (y : Int) ∈ iota l.length := List.mem_map.2 ⟨y, List.mem_range.2 hy, rfl⟩
  rw [List.length_erase_of_mem h2, iota_len, h.len] at h1
  omega
theorem ord_uniq {l : List Nat} {D E : List Int} (h1 : Ord l D) (h2 : Ord l E) : D = E := by
  have key : ∀ n k, k < n → k < l.length → dg D k = dg E k := by
    intro n
    induction n with
    | zero => intro k h; omega
    | succ n ih =>
      intro k hk hkl
      by_cases c : k < n
      · exact ih k c hkl
      · have hkn : k = n := by omega
        have r1 := h1.rng k (by rw [h1.len]; exact hkl)
        have r2 := h2.rng k (by rw [h2.len]; exact hkl)
        obtain ⟨j, j1, j2⟩ := ord_all h2 (y := (dg D k).toNat) (by omega)
        obtain ⟨i, i1, i2⟩ := ord_all h1 (y := (dg E k).toNat) (by omega)
        rw [Int.toNat_of_nonneg r1.1] at j2
        rw [Int.toNat_of_nonneg r2.1] at i2
        by_cases cj : j < k
        · have := ih j (by omega) j1
          rw [j2] at this
          have h5 := h1.srt j k (Nat.zero_le _) cj hkl
          rw [this] at h5; exact absurd h5 R_irr
        · by_cases ci : i < k
          · have := ih i (by omega) i1
            rw [i2] at this
            have h5 := h2.srt i k (Nat.zero_le _) ci hkl
            rw [← this] at h5; exact absurd h5 R_irr
          · by_cases e1 : j = k
            · rw [← j2, e1]
            · by_cases e2 : i = k
              · rw [← i2, e2]
              · have g1 := h2.srt k j (Nat.zero_le _) (by omega) j1
                have g2 := h1.srt k i (Nat.zero_le _) (by omega) i1
                rw [j2] at g1; rw [i2] at g2
                exact absurd g2 (R_asym g1)
  refine List.ext_getElem (by rw [h1.len, h2.len]) fun k hk1 hk2 => ?_
  rw [dg_getElem hk1, dg_getElem hk2]
  exact key (k + 1) k (Nat.lt_succ_self _) (by rw [← h1.len]; exact hk1)
theorem order_same {l : List Nat} (hn : l.length ≤ 400) : ∃ D, gauge_Order l = some D ∧ sennitref27_Order l = some D ∧ Ord l D := by
  obtain ⟨D, e1, e2⟩ := order_ok hn
  obtain ⟨E, f1, f2⟩ := reforder_ok hn
  have := ord_uniq e2 f2
  subst this
  exact ⟨D, e1, f1, e2⟩

/-! The best. -/
def bestOf (l : List Nat) (D : List Int) : Int := if l.length = 0 then -1 else if isNan (l.getD (dg D 0).toNat 0) then -1 else dg D 0
theorem best_eq {l : List Nat} {D : List Int} (hg : gauge_Order l = some D) (hD : Ord l D) : gauge_Best l = some (bestOf l D) := by
  unfold gauge_Best bestOf
  simp only [hg, bnoS, bndD]
  by_cases h0 : l.length = 0
  · have : (D.length : Int) = 0 := by rw [hD.len, h0]; rfl
    rw [decide_eq_true this, if_pos h0]; simp [gd, bnoS]
  · have hne : ¬ (D.length : Int) = 0 := by rw [hD.len]; omega
    have h1 : 0 < D.length := by omega
    have r := hD.rng 0 h1
    have g1 : gix D 0 = some (dg D 0) := by have := gix_dg h1; rwa [show ((0 : Nat) : Int) = 0 from rfl] at this
    have g2 : gix l (dg D 0) = some (l.getD (dg D 0).toNat 0) := by rw [gix_lit l r.1, List.getD_eq_getElem?_getD, List.getElem?_eq_getElem (by omega)]; rfl
    have ff : (false == false) = true := rfl
    simp only [decide_eq_false hne, ff, gdtt, g1, bnoS, g2, isnan_eq, Bool.false_or, if_neg h0]
    cases isNan (l.getD (dg D 0).toNat 0) <;> rfl
structure BestTo (l : List Nat) (b : Int) (i : Nat) : Prop where
  no : b < 0 → b = -1 ∧ ∀ k, k < i → isNan (l.getD k 0) = true
  yes : 0 ≤ b → b < i ∧ isNan (l.getD b.toNat 0) = false ∧ ∀ k : Nat, k < i → (k : Int) ≠ b → R l b k
theorem wk_nan {l : List Nat} {k : Nat} (h : isNan (l.getD k 0) = true) : wk l (k : Int) = -18446744073709551616 := by
  unfold wk kk; rw [Int.toNat_natCast, h]; rfl
theorem wk_num {l : List Nat} {k : Nat} (h : isNan (l.getD k 0) = false) : -9223372036854775808 < wk l (k : Int) := by
  unfold wk kk; rw [Int.toNat_natCast, h]; exact K_ge _
theorem refbest_L {l : List Nat} (hn : l.length ≤ 400) : ∀ (f i : Nat) (b : Int), l.length - i < f → i ≤ l.length → BestTo l b i → ∃ c, sennitref27_Best_L0 l f b (i : Int) = some c ∧ BestTo l c l.length := by
  intro f
  induction f with
  | zero => intro i b h; omega
  | succ f ih =>
    intro i b hf hi hb
    unfold sennitref27_Best_L0
    by_cases h : i < l.length
    · have wi : IntKind.wrap .i64 ((i : Int) + 1) = ((i + 1 : Nat) : Int) := by rw [w64 (by omega) (by omega)]; omega
      have g1 : gix l (i : Int) = some (l.getD i 0) := by rw [gix_nat, List.getElem?_eq_getElem h, List.getD_eq_getElem?_getD, List.getElem?_eq_getElem h]; rfl
      simp only [bndD, decide_eq_true (show (i : Int) < (l.length : Int) by omega), cond_true, g1, bnoS, nan_eq, wi]
      cases hna : isNan (l.getD i 0) with
      | true =>
        have e : ((!true) == true) = false := rfl
        simp only [e, Bool.false_and, gdff, bnoS, Bool.not_true, cond_false]
        refine ih (i + 1) b (by omega) (by omega) ⟨fun hb0 => ⟨(hb.no hb0).1, fun k hk => ?_⟩, fun hb0 => ?_⟩
        · by_cases hki : k = i
          · rw [hki]; exact hna
          · exact (hb.no hb0).2 k (by omega)
        · obtain ⟨y1, y2, y3⟩ := hb.yes hb0
          refine ⟨by omega, y2, fun k hk hkb => ?_⟩
          by_cases hki : k = i
          · subst hki
            have h1 := wk_nan hna
            have h2 := wk_num (l := l) (k := b.toNat) y2
            rw [Int.toNat_of_nonneg hb0] at h2
            unfold R; omega
          · exact y3 k (by omega) hkb
      | false =>
        have e : ((!false) == true) = true := rfl
        simp only [e, Bool.true_and, Bool.not_false]
        by_cases hb0 : b < 0
        · have e2 : (true == false) = false := rfl
          simp only [decide_eq_true hb0, e2, gdff, bnoS, Bool.true_or, cond_true]
          refine ih (i + 1) (i : Int) (by omega) (by omega) ⟨fun h => by omega, fun _ => ⟨by omega, by rw [Int.toNat_natCast]; exact hna, fun k hk hki => ?_⟩⟩
          have hk' : k < i := by omega
          have h1 := wk_nan ((hb.no hb0).2 k hk')
          have h2 := wk_num hna
          unfold R; omega
        · obtain ⟨y1, y2, y3⟩ := hb.yes (by omega)
          have g2 : gix l b = some (l.getD b.toNat 0) := by rw [gix_lit l (by omega), List.getD_eq_getElem?_getD, List.getElem?_eq_getElem (by omega)]; rfl
          have e2 : (false == false) = true := rfl
          have e3 : (true == true) = true := rfl
          simp only [decide_eq_false hb0, e2, e3, Bool.and_true, gdtt, g1, g2, bnoS, refcompare_eq, Bool.false_or]
          have hd : decide (0 < cmpOf (l.getD i 0) (l.getD b.toNat 0)) = decide (wk l b < wk l (i : Int)) := by
            rw [cmpOf_kk]; unfold wk; rw [Int.toNat_natCast]
            by_cases h : kk (l.getD i 0) < kk (l.getD b.toNat 0)
            · rw [if_pos h, decide_eq_false (by decide), decide_eq_false (by omega)]
            · rw [if_neg h]
              by_cases h' : kk (l.getD b.toNat 0) < kk (l.getD i 0)
              · rw [if_pos h', decide_eq_true h']; rfl
              · rw [if_neg h', decide_eq_false h']; rfl
          rw [hd]
          by_cases hw : wk l b < wk l (i : Int)
          · rw [decide_eq_true hw, cond_true]
            refine ih (i + 1) (i : Int) (by omega) (by omega) ⟨fun h => by omega, fun _ => ⟨by omega, by rw [Int.toNat_natCast]; exact hna, fun k hk hki => ?_⟩⟩
            by_cases hkb : (k : Int) = b
            · rw [hkb]; left; exact hw
            · have := y3 k (by omega) hkb
              unfold R at *; omega
          · rw [decide_eq_false hw, cond_false]
            refine ih (i + 1) b (by omega) (by omega) ⟨fun h => by omega, fun _ => ⟨by omega, y2, fun k hk hkb => ?_⟩⟩
            by_cases hki : k = i
            · subst hki; unfold R; omega
            · exact y3 k (by omega) hkb
    · have : i = l.length := by omega
      subst this
      simp only [bndD, decide_eq_false (show ¬ (l.length : Int) < (l.length : Int) by omega), cond_false]
      exact ⟨b, rfl, hb⟩
theorem refbest_eq {l : List Nat} {D : List Int} (hn : l.length ≤ 400) (hD : Ord l D) : sennitref27_Best l = some (bestOf l D) := by
  unfold sennitref27_Best
  obtain ⟨c, e, hc⟩ := refbest_L hn fuel 0 (-1) (fuel_gt (by omega)) (by omega) ⟨fun _ => ⟨rfl, fun k h => by omega⟩, fun h => by omega⟩
  rw [show (0 : Int) = ((0 : Nat) : Int) from rfl, e]
  congr 1
  unfold bestOf
  by_cases h0 : l.length = 0
  · rw [if_pos h0]
    by_cases hb : c < 0
    · exact (hc.no hb).1
    · have := (hc.yes (by omega)).1; omega
  · rw [if_neg h0]
    have r := hD.rng 0 (by rw [hD.len]; omega)
    by_cases hb : c < 0
    · rw [(hc.no hb).2 _ (by omega)]; exact (hc.no hb).1
    · obtain ⟨y1, y2, y3⟩ := hc.yes (by omega)
      have hc0 : dg D 0 = c := by
        refine Decidable.byContradiction fun hne => ?_
        have h1 := y3 (dg D 0).toNat (by omega) (by omega)
        rw [Int.toNat_of_nonneg r.1] at h1
        obtain ⟨k, k1, k2⟩ := ord_all hD (y := c.toNat) (by omega)
        rw [Int.toNat_of_nonneg (by omega)] at k2
        have hk0 : k ≠ 0 := by rintro rfl; exact hne k2
        have h2 := hD.srt 0 k (Nat.zero_le _) (by omega) k1
        rw [k2] at h2
        exact R_asym h1 h2
      rw [hc0, y2]; simp
theorem sameints_L : ∀ (f i : Nat) (D : List Int), D.length ≤ 400 → D.length - i < f → i ≤ D.length → sennitref02_SameInts_L0 D D f (i : Int) = some true := by
  intro f
  induction f with
  | zero => intro i D _ h; omega
  | succ f ih =>
    intro i D hD hf hi
    unfold sennitref02_SameInts_L0
    by_cases h : i < D.length
    · have wi : IntKind.wrap .i64 ((i : Int) + 1) = ((i + 1 : Nat) : Int) := by rw [w64 (by omega) (by omega)]; omega
      simp only [bndD, decide_eq_true (show (i : Int) < (D.length : Int) by omega), cond_true, gix_dg h, bnoS, decide_true, Bool.not_true, cond_false, wi]
      exact ih (i + 1) D hD (by omega) (by omega)
    · simp only [bndD, decide_eq_false (show ¬ (i : Int) < (D.length : Int) by omega), cond_false]
theorem sameints_self {D : List Int} (hD : D.length ≤ 400) : sennitref02_SameInts D D = some true := by
  unfold sennitref02_SameInts
  simp only [bndD, decide_true, Bool.not_true, cond_false]
  exact sameints_L fuel 0 D hD (fuel_gt (by omega)) (by omega)
theorem of_L {a : List Int} (ha : a.length ≤ 400) : ∀ (f i : Nat), a.length - i < f → i ≤ a.length → sennitlaw27_of_L0 a f ((a.take i).map fun n => fcan .f64 n.toNat) (i : Int) = some (a.map fun n => fcan .f64 n.toNat) := by
  intro f
  induction f with
  | zero => intro i h; omega
  | succ f ih =>
    intro i hf hi
    unfold sennitlaw27_of_L0
    by_cases h : i < a.length
    · have wi : IntKind.wrap .i64 ((i : Int) + 1) = ((i + 1 : Nat) : Int) := by rw [w64 (by omega) (by omega)]; omega
      have e : (a.take i).map (fun n => fcan .f64 n.toNat) ++ [fcan .f64 (dg a i).toNat] = (a.take (i + 1)).map fun n => fcan .f64 n.toNat := by
        rw [List.take_add_one, dg_some h]; simp
      simp only [bndD, decide_eq_true (show (i : Int) < (a.length : Int) by omega), cond_true, gix_dg h, bnoS, of_eq, wi]
      rw [app_ok (by simp; omega) (by simp; omega), bnoS, e]
      exact ih (i + 1) (by omega) (by omega)
    · have : i = a.length := by omega
      subst this
      simp only [bndD, decide_eq_false (show ¬ (a.length : Int) < (a.length : Int) by omega), cond_false, List.take_length]
theorem lof_eq {a : List Int} (ha : a.length ≤ 400) : sennitlaw27_of a = some (a.map fun n => fcan .f64 n.toNat) := by
  unfold sennitlaw27_of
  exact of_L ha fuel 0 (fuel_gt (by omega)) (by omega)
theorem cn_smo {x y : Nat} (hx : Cn x) (hy : Cn y) : Cn (smo x y) := by
  unfold smo; (repeat' split) <;> first | assumption | exact cn_fAr _ _ _
theorem fold_L {l : List Nat} (hl : l.length ≤ 400) (hc : ∀ x ∈ l, Cn x) : ∀ (f i : Nat) (x : Nat), l.length - i < f → i ≤ l.length → Cn x → ∃ y, gauge_Fold_L0 l f x (i : Int) = some y ∧ sennitref27_Fold_L0 l f x (i : Int) = some y := by
  intro f
  induction f with
  | zero => intro i x h; omega
  | succ f ih =>
    intro i x hf hi hx
    unfold gauge_Fold_L0 sennitref27_Fold_L0
    by_cases h : i < l.length
    · have wi : IntKind.wrap .i64 ((i : Int) + 1) = ((i + 1 : Nat) : Int) := by rw [w64 (by omega) (by omega)]; omega
      have hy := hc l[i] (List.getElem_mem h)
      simp only [bndD, decide_eq_true (show (i : Int) < (l.length : Int) by omega), cond_true, gix_nat, List.getElem?_eq_getElem h, bnoS, smooth_eq hx hy, refsmooth_eq, wi]
      exact ih (i + 1) _ (by omega) (by omega) (cn_smo hx hy)
    · simp only [bndD, decide_eq_false (show ¬ (i : Int) < (l.length : Int) by omega), cond_false]
      exact ⟨x, rfl, rfl⟩
theorem gaugeOrders {a : List Int} (ha : ∀ x ∈ a, 0 ≤ x ∧ x ≤ 18446744073709551615) : sennitlaw27_GaugeOrders a = some true := by
  unfold sennitlaw27_GaugeOrders
  by_cases h : (60 : Int) < (a.length : Int)
  · simp only [bndD, decide_eq_true h, cond_true, awake27, bnoS]
  · have hl : a.length ≤ 400 := by omega
    have hx : (a.map fun n => fcan .f64 n.toNat).length ≤ 400 := by rw [List.length_map]; exact hl
    have hc : ∀ x ∈ a.map fun n => fcan .f64 n.toNat, Cn x := by
      intro x hx
      obtain ⟨n, hn, rfl⟩ := List.mem_map.1 hx
      have := ha n hn
      exact cn_fcan (by omega)
    obtain ⟨D, e1, e2, e3⟩ := order_same hx
    have hn : Cn (fcan .f64 (9221120237041090561 : Int).toNat) := cn_fcan (by decide)
    obtain ⟨y, f1, f2⟩ := fold_L hx hc fuel 0 _ (fuel_gt (by omega)) (by omega) hn
    have g1 : gauge_Fold (a.map fun n => fcan .f64 n.toNat) = some y := by
      unfold gauge_Fold math_NaN; simp only [bndD, bnoS]; exact f1
    have g2 : sennitref27_Fold (a.map fun n => fcan .f64 n.toNat) = some y := by
      unfold sennitref27_Fold; simp only [bndD]; exact f2
    simp only [bndD, decide_eq_false h, cond_false, lof_eq hl, bnoS, best_eq e1 e3, refbest_eq hx e3, decide_true, beq_self_eq_true, gdtt, e1, e2, sameints_self (show D.length ≤ 400 by rw [e3.len]; exact hx), Bool.true_and, g1, g2, refbits_eq, awake27]
end Go.Fn
