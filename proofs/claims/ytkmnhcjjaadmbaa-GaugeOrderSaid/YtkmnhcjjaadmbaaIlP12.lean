/-
  A part of the proof: rules and plain facts. No condition.
-/
import Derived.Test.YtkmnhcjjaadmbaaIlP11
set_option linter.all false
set_option linter.unusedSimpArgs false
set_option linter.unusedVariables false
open Go Go.IL Go.Fl
namespace Go.Fn

theorem rate_eq (a b : Int) : gauge_Rate a b = some (fAr .quo (floatOfInt .f64 a) (floatOfInt .f64 b)) := (Eq.refl _).trans (Eq.refl _)
theorem refrate_eq (a b : Int) : sennitref27_Rate a b = some (fAr .quo (floatOfInt .f64 a) (floatOfInt .f64 b)) := (Eq.refl _).trans (Eq.refl _)
theorem of_eq (a : Int) : sennitref27_Of a = some (fcan .f64 a.toNat) := (Eq.refl _).trans (Eq.refl _)
/-- GaugeTells. -/
theorem gaugeTells {a b : Int} (n : T_anon23) (ha : 0 ≤ a ∧ a ≤ 18446744073709551615) (hb : 0 ≤ b ∧ b ≤ 18446744073709551615) : sennitlaw27_GaugeTells a b n = some true := by
  have hx : Cn (fcan .f64 a.toNat) := cn_fcan (by omega)
  have hy : Cn (fcan .f64 b.toNat) := cn_fcan (by omega)
  unfold sennitlaw27_GaugeTells
  simp only [of_eq, bnoS, bndD, kind_eq hx.1, refkind_eq hx.1, bits_eq, refbits_eq, same_eq, compare_eq, refcompare_eq, smooth_eq hx hy, refsmooth_eq, rate_eq, refrate_eq, awake27, decide_true, beq_self_eq_true, gdtt, Bool.and_true, Bool.true_and]
/-- GaugeBetween. -/
theorem cmp8 {a b : Nat} {n m : Int} (ha : E8 a n) (hb : E8 b m) : cmpOf a b = if n < m then -1 else if m < n then 1 else 0 := by
  unfold cmpOf
  have h1 := lss8 ha hb
  have h2 := gtr8 ha hb
  rw [lss_K ha.nan hb.nan] at h1
  rw [gtr_K ha.nan hb.nan] at h2
  rw [ha.nan, hb.nan]
  simp only [Bool.false_eq_true, if_false]
  by_cases h3 : n < m
  · rw [decide_eq_true h3] at h1; rw [if_pos (of_decide_eq_true h1), if_pos h3]
  · rw [decide_eq_false h3] at h1; rw [if_neg (of_decide_eq_false h1), if_neg h3]
    by_cases h4 : m < n
    · rw [decide_eq_true h4] at h2; rw [if_pos (of_decide_eq_true h2), if_pos h4]
    · rw [decide_eq_false h4] at h2; rw [if_neg (of_decide_eq_false h2), if_neg h4]
theorem e8_cn {a : Nat} {n : Int} (h : E8 a n) : Cn a := ⟨h.lt, fun hn => by rw [h.nan] at hn; cases hn⟩
theorem smo8 {a b : Nat} {n m : Int} (ha : E8 a (8 * n)) (hb : E8 b (8 * m)) (hn : n.natAbs < 281474976710656) (hm : m.natAbs < 281474976710656) : E8 (smo a b) (7 * n + m) := by
  have hs := sub8 hb ha (by omega)
  have hs' : E8 (fAr .sub b a) (8 * (m - n)) := by rw [show 8 * (m - n) = 8 * m - 8 * n by omega]; exact hs
  have hq := quo8 hs' (by omega)
  have hr := add8 ha hq (by omega)
  unfold smo
  have f1 := ha.fin
  have f2 := hb.fin
  have f3 := hs.fin
  rw [ha.nan, hb.nan, if_neg (by decide), if_neg (by decide), if_neg (by omega), if_neg (by omega)]
  rw [show 7 * n + m = 8 * n + (m - n) by omega]; exact hr
theorem kind8 {a : Nat} {n : Int} (h : E8 a n) : ¬ kindOf a = 0 := by
  unfold kindOf
  rw [h.nan]
  simp only [Bool.false_eq_true, if_false]
  (repeat' split) <;> decide
theorem gaugeBetween {a b : Int} (ha : 0 ≤ a ∧ a ≤ 4294967295) (hb : 0 ≤ b ∧ b ≤ 4294967295) : sennitlaw27_GaugeBetween a b = some true := by
  have hx := toF8 (n := a) (by omega)
  have hy := toF8 (n := b) (by omega)
  have hz := smo8 hx hy (by omega) (by omega)
  obtain ⟨lo, e1, hlo⟩ := min8 hx hy
  obtain ⟨hi, e2, hhi⟩ := max8 hx hy
  have c1 : (0 : Int) ≤ cmpOf (smo (floatOfInt .f64 a) (floatOfInt .f64 b)) lo := by
    rw [cmp8 hz hlo]; rw [if_neg (by omega)]; split <;> decide
  have c2 : cmpOf (smo (floatOfInt .f64 a) (floatOfInt .f64 b)) hi ≤ 0 := by
    rw [cmp8 hz hhi]
    by_cases h : 7 * a + b < max (8 * a) (8 * b)
    · rw [if_pos h]; decide
    · rw [if_neg h, if_neg (by omega)]; decide
  have hd := sub8 hz hx (by omega)
  have hm := mul8 hd (by omega)
  have hd2 := sub8 hy hx (by omega)
  have c3 : fCmp .eql (fAr .mul 4620693217682128896 (fAr .sub (smo (floatOfInt .f64 a) (floatOfInt .f64 b)) (floatOfInt .f64 a))) (fAr .sub (floatOfInt .f64 b) (floatOfInt .f64 a)) = true := by
    rw [eql8 hm hd2]; apply decide_eq_true; omega
  unfold sennitlaw27_GaugeBetween
  simp only [bnoS, bndD, smooth_eq (e8_cn hx) (e8_cn hy), e1, e2, compare_eq, decide_eq_true c1, gdtt, beq_self_eq_true, decide_eq_true c2, Bool.and_true, Bool.true_and, same_eq, c3, kind_eq hz.lt, decide_eq_false (kind8 hz), Bool.not_false, awake27]
  have hk := decide_eq_false (kind8 hz)
  by_cases hab : a = b
  · have hsame : smo (floatOfInt .f64 a) (floatOfInt .f64 b) = floatOfInt .f64 a := by
      subst hab
      by_cases h0 : a = 0
      · subst h0; decide +kernel
      · have hz' : E8 (smo (floatOfInt .f64 a) (floatOfInt .f64 a)) (8 * a) := by rw [show 8 * a = 7 * a + a by omega]; exact hz
        exact hz'.inj hx (by omega)
    simp only [decide_eq_true hab, Bool.not_true, beq_self_eq_true, gdtt, same_eq, hsame, decide_true, bnoS, Bool.or_true, Bool.and_true, Bool.true_and, kind_eq hx.lt, decide_eq_false (kind8 hx), Bool.not_false, awake27, bndD]
  · have ff : (true == false) = false := rfl
    simp only [decide_eq_false hab, Bool.not_false, ff, gdff, bnoS, Bool.true_or, Bool.and_true, Bool.true_and, beq_self_eq_true, gdtt, kind_eq hz.lt, hk, awake27, bndD]
/-- GaugeRates. -/
theorem toF0 : floatOfInt .f64 0 = 0 := by decide +kernel
theorem quo00 : fAr .quo 0 0 = fnan .f64 := by decide +kernel
theorem word_rung {a : Nat} {s : Bool} (h : rung a = INF ∧ sgn a = s) : isNan a = false ∧ kindOf a = if s then 1 else 6 := by
  have hn : isNan a = false := by rw [nan_iff, h.1]; decide
  refine ⟨hn, ?_⟩
  unfold kindOf
  rw [hn, if_pos h.1, h.2]; simp
theorem kind_nan : kindOf (fnan .f64) = 0 := by decide +kernel
theorem toF_sgn {n : Int} (h : n.natAbs < 1125899906842624) (h0 : n ≠ 0) : ∃ m p, Ieee.double.read (floatOfInt .f64 n) = .number (decide (n < 0)) m p ∧ m ≠ 0 := by
  have h8 := toF8 h
  obtain ⟨m, p, e, _, h1, _, hv⟩ := h8.read
  have hs : sgn (floatOfInt .f64 n) = decide (n < 0) := by
    have := h8.sg
    unfold sg at this
    by_cases hn : n < 0
    · rw [decide_eq_true hn]
      cases hc : sgn (floatOfInt .f64 n) with
      | true => rfl
      | false => rw [hc] at this; simp at this; omega
    · rw [decide_eq_false hn]
      cases hc : sgn (floatOfInt .f64 n) with
      | false => rfl
      | true => rw [hc] at this; simp at this; omega
  refine ⟨m, p, by rw [e, hs], ?_⟩
  rintro rfl
  rw [Nat.zero_mul] at h1
  exact Nat.mul_ne_zero (show (8 * n).natAbs ≠ 0 by omega) (Nat.ne_of_gt (Nat.two_pow_pos _)) h1.symm
theorem by0 {n : Int} (h : n.natAbs < 1125899906842624) (h0 : n ≠ 0) : kindOf (fAr .quo (floatOfInt .f64 n) (floatOfInt .f64 0)) = if n < 0 then 1 else 6 := by
  obtain ⟨m, p, e, hm⟩ := toF_sgn h h0
  rw [toF0]
  have h1 : fAr .quo (floatOfInt .f64 n) 0 = Ieee.double.word (decide (n < 0)) 9218868437227405312 := fAr_some (by
    unfold floatBits Ieee.Format.div
    rw [show FloatKind.format .f64 = Ieee.double from rfl, read0, e]
    simp only [Ieee.Datum.quotient]
    rw [if_pos trivial, if_neg hm]
    show some (Ieee.double.word (decide (n < 0) ^^ false) Ieee.double.infRung) = _
    rw [ir]; cases decide (n < 0) <;> rfl)
  rw [h1]
  refine ((word_rung (a := Ieee.double.word (decide (n < 0)) 9218868437227405312) ⟨rung_word _ (by decide), sgn_word _ (by decide)⟩).2).trans ?_
  by_cases hn : n < 0 <;> simp [hn]
theorem quo_x0 {y : Nat} (hy : y ≠ 0) (h : y < 1125899906842624) : fAr .quo (floatOfInt .f64 0) (floatOfInt .f64 (y : Int)) = 0 := by
  obtain ⟨m, p, e, h1, hm1, _⟩ := toN hy h
  rw [toF0]; exact quo_zero e (by omega)
theorem V_K {a b : Nat} (ha : rung a < INF) (hb : rung b < INF) (h : V a < V b) : K a < K b := by
  have h1 := ord_fin ha hb
  rw [ord_K (Nat.le_of_lt ha) (Nat.le_of_lt hb)] at h1
  have h2 : compare (V a) (V b) = .lt := Int.compare_eq_lt.2 h
  have h3 : compare (K a) (K b) = .lt := (Option.some.inj h1).trans h2
  exact Int.compare_eq_lt.1 h3
theorem ar7 {R S x y c W : Nat} (hW : 0 < W) (hc : 2 * x + 2 ≤ c) (hy : 0 < y) (h1 : S * y * c ≤ x * (c + 1) * W) (h2 : (x + 1) * (c - 1) * W ≤ R * y * c) : S < R := by
  obtain ⟨c', rfl⟩ : ∃ c', c = c' + 1 := ⟨c - 1, by omega⟩
  rw [Nat.add_sub_cancel] at h2
  have h3 : x * (c' + 1 + 1) < (x + 1) * c' := by rw [Nat.mul_add, Nat.mul_add, Nat.add_mul]; omega
  have h4 : x * (c' + 1 + 1) * W < (x + 1) * c' * W := Nat.mul_lt_mul_of_pos_right h3 hW
  have h5 : S * y * (c' + 1) < R * y * (c' + 1) := by omega
  have h6 := Nat.lt_of_mul_lt_mul_right h5
  exact Nat.lt_of_mul_lt_mul_right h6
theorem rate_less {x y : Nat} (hx : x < 65536) (hy : y < 65536) : cmpOf (fAr .quo (floatOfInt .f64 ((x + 1 : Nat) : Int)) (floatOfInt .f64 ((y + 1 : Nat) : Int))) (fAr .quo (floatOfInt .f64 (x : Int)) (floatOfInt .f64 ((y + 1 : Nat) : Int))) = 1 := by
  obtain ⟨R, hR, r1, r2⟩ := quo_near (x := x + 1) (y := y + 1) (by omega) (by omega) (by omega) (by omega)
  have key : ∃ S, Wr (fAr .quo (floatOfInt .f64 (x : Int)) (floatOfInt .f64 ((y + 1 : Nat) : Int))) false S ∧ S < R := by
    by_cases h0 : x = 0
    · subst h0
      refine ⟨0, ?_, ?_⟩
      · rw [show ((0 : Nat) : Int) = 0 from rfl, quo_x0 (y := y + 1) (by omega) (by omega)]
        exact ⟨by decide, by decide, by decide, by decide⟩
      · refine Nat.pos_of_ne_zero fun h => ?_
        rw [h, Nat.zero_mul, Nat.zero_mul] at r2
        have : 0 < (0 + 1) * (2 ^ 51 - 1) * 2 ^ e74 := Nat.mul_pos (by decide) (Nat.two_pow_pos _)
        omega
    · obtain ⟨S, hS, s1, s2⟩ := quo_near (x := x) (y := y + 1) h0 (by omega) (by omega) (by omega)
      exact ⟨S, hS, ar7 (Nat.two_pow_pos e74) (c := 2 ^ 51) (by have : (2 : Nat) ^ 51 = 2251799813685248 := rfl; omega) (by omega) s1 r2⟩
  obtain ⟨S, hS, hlt⟩ := key
  have hn1 : isNan (fAr .quo (floatOfInt .f64 ((x + 1 : Nat) : Int)) (floatOfInt .f64 ((y + 1 : Nat) : Int))) = false := by rw [nan_iff]; have := hR.fin; exact decide_eq_false (by omega)
  have hn2 : isNan (fAr .quo (floatOfInt .f64 (x : Int)) (floatOfInt .f64 ((y + 1 : Nat) : Int))) = false := by rw [nan_iff]; have := hS.fin; exact decide_eq_false (by omega)
  have hk := V_K hS.fin hR.fin (by rw [hS.V, hR.V]; unfold sg; simp; omega)
  unfold cmpOf
  rw [hn1, hn2]
  simp only [Bool.false_eq_true, if_false]
  rw [if_neg (by omega), if_pos hk]
theorem gaugeRates {a b : Int} (ha : 0 ≤ a ∧ a ≤ 65535) (hb : 0 ≤ b ∧ b ≤ 65535) : sennitlaw27_GaugeRates a b = some true := by
  obtain ⟨x, rfl⟩ := Int.eq_ofNat_of_zero_le ha.1
  obtain ⟨y, rfl⟩ := Int.eq_ofNat_of_zero_le hb.1
  have hx : x < 65536 := by omega
  have hy : y < 65536 := by omega
  have hxy : x * y < 65536 * 65536 := Nat.mul_lt_mul'' hx hy
  have hlt : ∀ (n m : Int), fAr .quo n.toNat m.toNat < 18446744073709551616 := fun n m => (cn_fAr _ _ _).1
  have c0 : (decide ((0 : Int) < y) && fCmp .neq (fAr .quo (floatOfInt .f64 ((x : Int) * y)) (floatOfInt .f64 (y : Int))) (floatOfInt .f64 (x : Int))) = false := by
    by_cases h0 : y = 0
    · subst h0; rfl
    · rw [decide_eq_true (by omega), Bool.true_and]
      by_cases hx0 : x = 0
      · subst hx0
        rw [show (((0 : Nat) : Int) * (y : Int)) = 0 by simp, show ((0 : Nat) : Int) = 0 from rfl, quo_x0 h0 (by omega), toF0]; decide +kernel
      · have h1 := quo_exact hx0 h0 hx hy
        have h2 := toF8 (n := (x : Int)) (by omega)
        rw [show ((x : Int) * (y : Int)) = ((x * y : Nat) : Int) by simp, neq_K h1.nan h2.nan]
        have h3 := eql8 h1 h2
        rw [eql_K h1.nan h2.nan, decide_eq_true rfl] at h3
        rw [h3]; rfl
  have c1 : kindOf (fAr .quo (floatOfInt .f64 (x : Int)) (floatOfInt .f64 0)) = if x = 0 then 0 else 6 := by
    by_cases h0 : x = 0
    · subst h0; rw [show ((0 : Nat) : Int) = 0 from rfl, toF0, quo00, kind_nan]; rfl
    · rw [by0 (by omega) (by omega), if_neg h0, if_neg (by omega)]
  have c2 : kindOf (fAr .quo (floatOfInt .f64 (-(x : Int))) (floatOfInt .f64 0)) = if x = 0 then 0 else 1 := by
    by_cases h0 : x = 0
    · subst h0; rw [show (-((0 : Nat) : Int)) = 0 from rfl, toF0, quo00, kind_nan]; rfl
    · rw [by0 (by omega) (by omega), if_neg h0, if_pos (by omega)]
  have c3 : bitsOf (fAr .quo (floatOfInt .f64 (2 * (x : Int))) (floatOfInt .f64 (2 * (y : Int)))) = bitsOf (fAr .quo (floatOfInt .f64 (x : Int)) (floatOfInt .f64 (y : Int))) := by
    by_cases hx0 : x = 0
    · subst hx0
      rw [show (2 * ((0 : Nat) : Int)) = 0 from rfl, show ((0 : Nat) : Int) = 0 from rfl]
      by_cases hy0 : y = 0
      · subst hy0; rfl
      · rw [quo_x0 hy0 (by omega), show (2 * (y : Int)) = ((2 * y : Nat) : Int) by omega, quo_x0 (by omega) (by omega)]
    · by_cases hy0 : y = 0
      · subst hy0
        rw [show (2 * ((0 : Nat) : Int)) = 0 from rfl, show ((0 : Nat) : Int) = 0 from rfl]
        obtain ⟨m, p, e, hm⟩ := toF_sgn (n := (x : Int)) (by omega) (by omega)
        obtain ⟨m', p', e', hm'⟩ := toF_sgn (n := 2 * (x : Int)) (by omega) (by omega)
        have q : ∀ {a m : Nat} {p : Int} (s : Bool), Ieee.double.read a = .number s m p → m ≠ 0 → fAr .quo a 0 = Ieee.double.word s 9218868437227405312 := by
          intro a m p s e hm
          refine fAr_some ?_
          unfold floatBits Ieee.Format.div
          rw [show FloatKind.format .f64 = Ieee.double from rfl, read0, e]
          simp only [Ieee.Datum.quotient]
          rw [if_pos trivial, if_neg hm]
          show some (Ieee.double.word (s ^^ false) Ieee.double.infRung) = _
          rw [ir]; cases s <;> rfl
        rw [toF0, q _ e hm, q _ e' hm', decide_eq_false (by omega), decide_eq_false (by omega)]
      · rw [show (2 * (x : Int)) = ((2 * x : Nat) : Int) by omega, show (2 * (y : Int)) = ((2 * y : Nat) : Int) by omega, quo_double hx0 hy0 hx hy]
  have c4 := rate_less hx hy
  unfold sennitlaw27_GaugeRates
  have w1 : IntKind.wrap .i64 (x : Int) = x := w64 (by omega) (by omega)
  have w2 : IntKind.wrap .i64 (y : Int) = y := w64 (by omega) (by omega)
  have hxy' : (x : Int) * (y : Int) < 4294967296 := by
    have : ((x * y : Nat) : Int) = (x : Int) * (y : Int) := by simp
    omega
  have hxy0 : 0 ≤ (x : Int) * (y : Int) := Int.mul_nonneg (by omega) (by omega)
  have w3 : IntKind.wrap .i64 ((x : Int) * (y : Int)) = (x : Int) * (y : Int) := w64 (by omega) (by omega)
  have w4 : IntKind.wrap .i64 (0 - (x : Int)) = -(x : Int) := by rw [w64 (by omega) (by omega)]; omega
  have w5 : IntKind.wrap .i64 (2 * (x : Int)) = 2 * (x : Int) := w64 (by omega) (by omega)
  have w6 : IntKind.wrap .i64 (2 * (y : Int)) = 2 * (y : Int) := w64 (by omega) (by omega)
  have w7 : IntKind.wrap .i64 ((x : Int) + 1) = ((x + 1 : Nat) : Int) := by rw [w64 (by omega) (by omega)]; omega
  have w8 : IntKind.wrap .i64 ((y : Int) + 1) = ((y + 1 : Nat) : Int) := by rw [w64 (by omega) (by omega)]; omega
  simp only [bndD, w1, w2, w3, w4, w5, w6, w7, w8, rate_eq, bnoS]
  have hx5 : ∃ v, gd (decide ((0 : Int) < y) == true) (some (fAr .quo (floatOfInt .f64 ((x : Int) * y)) (floatOfInt .f64 (y : Int)))) default = some v ∧ (decide ((0 : Int) < y) && fCmp .neq v (floatOfInt .f64 (x : Int))) = false := by
    by_cases h0 : (0 : Int) < y
    · rw [decide_eq_true h0]
      rw [decide_eq_true h0] at c0
      exact ⟨_, rfl, c0⟩
    · rw [decide_eq_false h0]; exact ⟨_, rfl, rfl⟩
  obtain ⟨v, hv, hc⟩ := hx5
  rw [hv]
  simp only [bnoS, hc, bif_ff, kind_eq (cn_fAr _ _ _).1, c1, c2, same_eq, c3, compare_eq, c4, decide_true]
  have z06 : decide ((0 : Int) = 6) = false := rfl
  have z01 : decide ((0 : Int) = 1) = false := rfl
  have z60 : decide ((6 : Int) = 0) = false := rfl
  by_cases h0 : x = 0
  · have e1 : decide ((x : Int) = 0) = true := decide_eq_true (by omega)
    have e2 : decide (0 < (x : Int)) = false := decide_eq_false (by omega)
    simp only [if_pos h0, e1, e2, decide_true, z06, z01, beq_self_eq_true, Bool.and_true, Bool.true_and, gdtt, bnoS, bndD, same_eq, c3, compare_eq, c4, awake27]
  · have e1 : decide ((x : Int) = 0) = false := decide_eq_false (by omega)
    have e2 : decide (0 < (x : Int)) = true := decide_eq_true (by omega)
    simp only [if_neg h0, e1, e2, decide_true, z60, beq_self_eq_true, Bool.and_true, Bool.true_and, gdtt, bnoS, bndD, same_eq, c3, compare_eq, c4, awake27]
end Go.Fn
