/-
  A part of the proof: rules and plain facts. No condition.
-/
import Derived.Test.YtkmnhcjjaadmbaaIlP16
set_option linter.all false
set_option linter.unusedSimpArgs false
set_option linter.unusedVariables false
open Go Go.IL Go.Fl
namespace Go.Fn

/-! GaugeOrder. -/
def bg (s : List Bool) (k : Nat) : Bool := s.getD k false
theorem bg_some {s : List Bool} {k : Nat} (h : k < s.length) : s[k]? = some (bg s k) := by
  unfold bg; rw [List.getElem?_eq_getElem h, List.getD_eq_getElem?_getD, List.getElem?_eq_getElem h]; rfl
theorem bg_set {s : List Bool} {i : Nat} (h : i < s.length) (k : Nat) (u : Bool) : bg (s.set i u) k = if k = i then u else bg s k := by
  unfold bg
  rw [List.getD_eq_getElem?_getD, List.getD_eq_getElem?_getD, List.getElem?_set]
  by_cases hk : i = k
  · subst hk; simp [h]
  · rw [if_neg hk, if_neg (fun e => hk e.symm)]
theorem cmp_R {l : List Nat} {i j : Int} (hi : 0 ≤ i) (hj : 0 ≤ j) (h : R l i j) : ¬ cmpOf (l.getD i.toNat 0) (l.getD j.toNat 0) < 0 ∧ (cmpOf (l.getD i.toNat 0) (l.getD j.toNat 0) = 0 → ¬ j < i) := by
  rw [cmpOf_kk]
  unfold R wk at h
  constructor
  · (repeat' split) <;> omega
  · intro h0
    (repeat' split at h0) <;> omega
theorem gl_some {l : List Nat} {i : Int} (hi : 0 ≤ i ∧ i < l.length) : gix l i = some (l.getD i.toNat 0) := by
  rw [gix_lit l hi.1, List.getD_eq_getElem?_getD, List.getElem?_eq_getElem (by omega)]; rfl
theorem gorder_fin {l : List Nat} {D : List Int} (hg : gauge_Order l = some D) (hD : Ord l D) (hc : ∀ k, k < l.length → l.getD k 0 < 18446744073709551616) (f : Nat) (s : List Bool) : sennitlaw27_GaugeOrder_L0 l D (f + 1) (D.length : Int) s = some true := by
  unfold sennitlaw27_GaugeOrder_L0
  simp only [bndD, decide_eq_false (show ¬ (D.length : Int) < (D.length : Int) by omega), cond_false, best_eq hg hD, bnoS]
  have tf : (true == false) = false := rfl
  have tt : (true == true) = true := rfl
  have ff : (false == false) = true := rfl
  have ft : (false == true) = false := rfl
  unfold bestOf
  by_cases h0 : l.length = 0
  · have e1 : (D.length : Int) = 0 := by rw [hD.len, h0]; rfl
    have e2 : decide ((-1 : Int) < 0) = true := rfl
    simp only [if_pos h0, e2, decide_eq_true e1, tf, tt, gdff, gdtt, bnoS, Bool.true_or, Bool.or_true, Bool.true_and, Bool.and_true, Bool.and_false, awake27]
  · have e1 : ¬ (D.length : Int) = 0 := by rw [hD.len]; omega
    have h1 : 0 < D.length := by omega
    have r := hD.rng 0 h1
    have g1 : gix D 0 = some (dg D 0) := by have := gix_dg h1; rwa [show ((0 : Nat) : Int) = 0 from rfl] at this
    cases hn : isNan (l.getD (dg D 0).toNat 0) with
    | true =>
      have e2 : decide ((-1 : Int) < 0) = true := rfl
      have e3 : decide ((0 : Int) ≤ -1) = false := rfl
      have hk : kindOf (l.getD (dg D 0).toNat 0) = 0 := by unfold kindOf; rw [hn]; rfl
      have hkq : gauge_Kind (l.getD (dg D 0).toNat 0) = some 0 := by rw [kind_eq (hc (dg D 0).toNat (by omega)), hk]
      simp only [if_neg h0, if_true, e2, e3, decide_eq_false e1, tf, tt, ff, gdff, gdtt, bnoS, Bool.true_or, Bool.or_self, Bool.or_true, Bool.false_or, Bool.true_and, Bool.and_true, g1, gl_some r, hkq, decide_true, awake27]
    | false =>
      have e2 : decide (dg D 0 < 0) = false := decide_eq_false (by omega)
      have e3 : decide (0 ≤ dg D 0) = true := decide_eq_true r.1
      simp only [if_neg h0, Bool.false_eq_true, if_false, e2, e3, decide_eq_false e1, tf, tt, ff, gdff, gdtt, bnoS, Bool.true_or, Bool.or_true, Bool.false_or, Bool.true_and, Bool.and_true, Bool.and_false, g1, decide_true, awake27]
theorem gorder_L {l : List Nat} {D : List Int} (hl : l.length ≤ 60) (hg : gauge_Order l = some D) (hD : Ord l D) (hc : ∀ k, k < l.length → l.getD k 0 < 18446744073709551616) : ∀ (f i : Nat) (s : List Bool), D.length - i < f → i ≤ D.length → s.length = 60 → (∀ y, y < 60 → bg s y = true → ∃ k, k < i ∧ dg D k = y) → sennitlaw27_GaugeOrder_L0 l D f (i : Int) s = some true := by
  intro f
  induction f with
  | zero => intro i s h; omega
  | succ f ih =>
    intro i s hf hi hs hseen
    have hDl := hD.len
    by_cases h : i < D.length
    · unfold sennitlaw27_GaugeOrder_L0
      have tf : (true == false) = false := rfl
      have tt : (true == true) = true := rfl
      have ff : (false == false) = true := rfl
      have ft : (false == true) = false := rfl
      have r := hD.rng i h
      obtain ⟨y, hy⟩ : ∃ y : Nat, dg D i = y := ⟨(dg D i).toNat, by omega⟩
      have hy1 : y < s.length := by omega
      have hns : bg s y = false := by
        cases hb : bg s y with
        | false => rfl
        | true =>
          obtain ⟨k, k1, k2⟩ := hseen y (by omega) hb
          have h5 := hD.srt k i (Nat.zero_le _) k1 (by omega)
          rw [k2, hy] at h5; exact absurd h5 R_irr
      have gs : gix s (y : Int) = some false := by rw [gix_nat, bg_some hy1, hns]
      have gs2 : s[((y : Nat) : Int).toNat]? = some false := by rw [Int.toNat_natCast, bg_some hy1, hns]
      have wi : IntKind.wrap .i64 ((i : Int) + 1) = ((i + 1 : Nat) : Int) := by rw [w64 (by omega) (by omega)]; omega
      have next : sennitlaw27_GaugeOrder_L0 l D f ((i + 1 : Nat) : Int) (s.set y true) = some true := by
        refine ih (i + 1) _ (by omega) (by omega) (by simp [hs]) fun z hz hb => ?_
        rw [bg_set hy1] at hb
        by_cases hzy : z = y
        · exact ⟨i, by omega, by rw [hy, hzy]⟩
        · rw [if_neg hzy] at hb
          obtain ⟨k, k1, k2⟩ := hseen z hz hb
          exact ⟨k, by omega, k2⟩
      simp only [bndD, decide_eq_true (show (i : Int) < (D.length : Int) by omega), cond_true, gix_dg h, bnoS, hy, decide_eq_false (show ¬ ((y : Nat) : Int) < 0 by omega), ff, gdtt, decide_eq_false (show ¬ ((l.length : Nat) : Int) ≤ (y : Int) by omega), Bool.or_self, gs, hs, implies_true, chk_t, gs2, cond_false]
      by_cases hi0 : 0 < i
      · have w1 : IntKind.wrap .i64 ((i : Int) - 1) = ((i - 1 : Nat) : Int) := by rw [w64 (by omega) (by omega)]; omega
        have hi1 : i - 1 < D.length := by omega
        have r1 := hD.rng (i - 1) hi1
        have hR := hD.srt (i - 1) i (Nat.zero_le _) (by omega) (by omega)
        obtain ⟨c1, c2⟩ := cmp_R r1.1 r.1 hR
        rw [hy, Int.toNat_natCast] at c1 c2
        have ry : 0 ≤ ((y : Nat) : Int) ∧ ((y : Nat) : Int) < l.length := by rw [← hy]; exact r
        simp only [decide_eq_true (show (0 : Int) < (i : Int) by omega), w1, tt, ff, gdtt, gix_dg hi1, bnoS, gl_some r1, gl_some ry, Int.toNat_natCast, compare_eq, decide_eq_false c1, Bool.true_and, Bool.and_true]
        by_cases hz : cmpOf (l.getD (dg D (i - 1)).toNat 0) (l.getD y 0) = 0
        · simp only [decide_eq_true hz, tt, gdtt, bnoS, decide_eq_false (c2 hz), Bool.and_false, Bool.or_self, cond_false, wi, Int.toNat_natCast]
          exact next
        · simp only [decide_eq_false hz, ft, gdff, bnoS, Bool.false_and, Bool.or_self, cond_false, wi, Int.toNat_natCast]
          exact next
      · have hi00 : i = 0 := by omega
        subst hi00
        have hz : decide ((0 : Int) < ((0 : Nat) : Int)) = false := rfl
        simp only [hz, ft, gdff, bnoS, Bool.false_and, cond_false, wi, Int.toNat_natCast]
        exact next
    · have : i = D.length := by omega
      subst this
      exact gorder_fin hg hD hc f s
theorem cmp_anti (a b : Nat) : cmpOf a b = - cmpOf b a := by
  rw [cmpOf_kk, cmpOf_kk]; (repeat' split) <;> omega
theorem cmp_small (a b : Nat) : -1 ≤ cmpOf a b ∧ cmpOf a b ≤ 1 := by
  rw [cmpOf_kk]; (repeat' split) <;> omega
theorem cmp_trans {a b c : Nat} (h1 : cmpOf a b ≤ 0) (h2 : cmpOf b c ≤ 0) : ¬ 0 < cmpOf a c := by
  rw [cmpOf_kk] at *; (repeat' split at h1) <;> (repeat' split at h2) <;> (repeat' split) <;> omega
theorem gaugeOrder {n : T_anon43} {a : List Int} (ha : ∀ x ∈ a, 0 ≤ x ∧ x ≤ 18446744073709551615) : sennitlaw27_GaugeOrder n a = some true := by
  unfold sennitlaw27_GaugeOrder
  by_cases h : (60 : Int) < (a.length : Int)
  · simp only [bndD, decide_eq_true h, cond_true, awake27, bnoS]
  · have hl : a.length ≤ 400 := by omega
    have hxl : (a.map fun n => fcan .f64 n.toNat).length = a.length := List.length_map _
    have hx : (a.map fun n => fcan .f64 n.toNat).length ≤ 400 := by rw [hxl]; exact hl
    have hc : ∀ k, k < (a.map fun n => fcan .f64 n.toNat).length → (a.map fun n => fcan .f64 n.toNat).getD k 0 < 18446744073709551616 := by
      intro k hk
      rw [List.getD_eq_getElem?_getD, List.getElem?_eq_getElem hk, Option.getD_some]
      obtain ⟨n, hn, e⟩ := List.mem_map.1 (List.getElem_mem hk)
      rw [← e]
      have := ha n hn
      exact (cn_fcan (by omega)).1
    obtain ⟨D, e1, e2, e3⟩ := order_same hx
    have s1 := cmp_small (fcan .f64 n.c1.toNat) (fcan .f64 n.c0.toNat)
    have w : IntKind.wrap .i64 (0 - cmpOf (fcan .f64 n.c1.toNat) (fcan .f64 n.c0.toNat)) = cmpOf (fcan .f64 n.c0.toNat) (fcan .f64 n.c1.toNat) := by
      rw [w64 (by omega) (by omega), cmp_anti (fcan .f64 n.c0.toNat)]; omega
    have tt : (true == true) = true := rfl
    have ff : (false == false) = true := rfl
    have ft : (false == true) = false := rfl
    have hlen : (D.length : Int) = ((a.map fun n => fcan .f64 n.toNat).length : Int) := by rw [e3.len]
    have fin := gorder_L (by rw [hxl]; omega) e1 e3 hc fuel 0 (List.replicate 60 false) (fuel_gt (by rw [e3.len]; omega)) (Nat.zero_le _) (List.length_replicate) (fun y hy hb => by
      unfold bg at hb
      rw [List.getD_eq_getElem?_getD, List.getElem?_replicate, if_pos hy] at hb; cases hb)
    rw [show ((0 : Nat) : Int) = 0 from rfl] at fin
    simp only [bndD, decide_eq_false h, cond_false, of_eq, bnoS, compare_eq, w, decide_true, Bool.not_true, ff, gdtt, Bool.true_and, Bool.false_or]
    by_cases h1 : cmpOf (fcan .f64 n.c0.toNat) (fcan .f64 n.c1.toNat) ≤ 0
    · simp only [decide_eq_true h1, tt, Bool.and_true, gdtt, bnoS, Bool.true_and]
      by_cases h2 : cmpOf (fcan .f64 n.c1.toNat) (fcan .f64 n.c2.toNat) ≤ 0
      · simp only [decide_eq_true h2, tt, gdtt, bnoS, decide_eq_false (cmp_trans h1 h2), Bool.and_false, cond_false, lof_eq hl, e1, decide_eq_true hlen, Bool.not_true]
        exact fin
      · simp only [decide_eq_false h2, ft, gdff, bnoS, Bool.false_and, cond_false, lof_eq hl, e1, decide_eq_true hlen, Bool.not_true]
        exact fin
    · simp only [decide_eq_false h1, ft, Bool.and_false, gdff, bnoS, Bool.false_and, cond_false, lof_eq hl, e1, decide_eq_true hlen, Bool.not_true]
      exact fin
end Go.Fn
