/-
  A part of the proof: rules and plain facts. No condition.
-/
import Derived.Test.YtkmnhcjjaadmbaaIlQ3
set_option linter.all false
set_option linter.unusedSimpArgs false
set_option linter.unusedVariables false
open Go Go.IL
namespace Go.Fl

theorem read8 : Ieee.double.read 4620693217682128896 = .number false 4503599627370496 (-49) := by decide +kernel
theorem sg_false_xor (s : Bool) (n : Nat) : sg (false ^^ s) n = sg s n := by cases s <;> rfl
theorem sg_xor_false (s : Bool) (n : Nat) : sg (s ^^ false) n = sg s n := by cases s <;> rfl
theorem E8.sg {a : Nat} {n : Int} (h : E8 a n) : sg (sgn a) n.natAbs = n := by
  have hv := h.V
  unfold Fl.V at hv
  have h1 := congrArg Int.natAbs hv
  rw [sg_abs, Int.natAbs_mul] at h1
  have hpos : (0 : Int) < (2 : Int) ^ e71 := Int.pow_pos (by decide)
  unfold Fl.sg at hv ⊢
  cases hs : sgn a with
  | false =>
    rw [hs] at hv
    simp only [Bool.false_eq_true, if_false] at hv ⊢
    have : 0 ≤ n := by
      refine Decidable.byContradiction fun hn => ?_
      have := Int.mul_neg_of_neg_of_pos (show n < 0 by omega) hpos
      omega
    omega
  | true =>
    rw [hs] at hv
    simp only [if_true] at hv ⊢
    have : n ≤ 0 := by
      refine Decidable.byContradiction fun hn => ?_
      have := Int.mul_pos (show 0 < n by omega) hpos
      omega
    omega
theorem mul8 {a : Nat} {n : Int} (ha : E8 a n) (h : (8 * n).natAbs < 9007199254740992) : E8 (fAr .mul 4620693217682128896 a) (8 * n) := by
  obtain ⟨m, p, e, hp, h1, h2, _⟩ := ha.read
  have : fAr .mul 4620693217682128896 a = Ieee.double.nearest (false ^^ sgn a) (4503599627370496 * m) (-49 + p) := fAr_some (by
    unfold floatBits Ieee.Format.mul
    rw [show FloatKind.format .f64 = Ieee.double from rfl, read8, e]; rfl)
  rw [this]
  have hm0 : n = 0 → m = 0 := fun h => by
    rw [h] at h1
    simp only [Int.natAbs_zero, Nat.zero_mul] at h1
    rcases Nat.mul_eq_zero.1 h1 with h | h
    · exact h
    · exact absurd h (Nat.ne_of_gt (Nat.two_pow_pos _))
  have hpl : n ≠ 0 → -100 ≤ p := fun h => E8.place (by omega) h2 h1
  have hw := wr_to8 (wr_e8 (false ^^ sgn a) (mag := 4503599627370496 * m) (place := -49 + p) (n := 8 * n.natAbs) (by omega) (fun hz => by
      have : n ≠ 0 := fun h => hz (by rw [hm0 h])
      have := hpl this
      omega) (fun hz => by
      have := hpl (by omega)
      have e52 : 4503599627370496 = 2 ^ 52 := by decide
      rw [e52, Nat.mul_comm (2 ^ 52) m, Nat.mul_assoc, ← Nat.pow_add, show 52 + (-49 + p + 1074).toNat = (p + 1074).toNat + 3 by omega, Nat.pow_add, ← Nat.mul_assoc, h1, Nat.mul_assoc, Nat.mul_comm (2 ^ e71), ← Nat.mul_assoc, Nat.mul_comm 8]) (fun hz => by rw [hm0 (by omega)]))
  have e2 : Fl.sg (false ^^ sgn a) (8 * n.natAbs) = 8 * n := by
    rw [sg_false_xor, Nat.mul_comm, ← sg_mul, ha.sg, Int.mul_comm]; rfl
  rw [e2] at hw
  exact hw
theorem log2_lt53 {m : Nat} (h : m < 9007199254740992) : m.log2 ≤ 52 := by
  by_cases h0 : m = 0
  · subst h0; decide
  · have := (Nat.log2_lt h0 (k := 53)).2 h; omega
theorem quo8 {a : Nat} {n : Int} (ha : E8 a (8 * n)) (hn53 : n.natAbs < 9007199254740992) : E8 (fAr .quo a 4620693217682128896) n := by
  obtain ⟨m, p, e, hp, h1, h2, _⟩ := ha.read
  have hl := log2_lt53 h2
  have hmore : 54 + Nat.log2 4503599627370496 - m.log2 = 106 - m.log2 := by rw [show Nat.log2 4503599627370496 = 52 by decide +kernel]
  have hdiv : m <<< (106 - m.log2) = 4503599627370496 * (m * 2 ^ (54 - m.log2)) := by
    rw [Nat.shiftLeft_eq, show 106 - m.log2 = 52 + (54 - m.log2) by omega, Nat.pow_add, show 4503599627370496 = 2 ^ 52 by decide, ← Nat.mul_assoc, Nat.mul_comm m, Nat.mul_assoc]
  have : fAr .quo a 4620693217682128896 = Ieee.double.nearest (sgn a ^^ false) (2 * (m * 2 ^ (54 - m.log2))) (p - -49 - ((106 - m.log2 : Nat) : Int) - 1) := fAr_some (by
    unfold floatBits Ieee.Format.div
    rw [show FloatKind.format .f64 = Ieee.double from rfl, read8, e, fb]
    simp only [Ieee.Datum.quotient]
    rw [if_neg (by decide), show 52 + 2 = 54 from rfl, hmore, hdiv, Nat.mul_mod_right, Nat.mul_div_cancel_left _ (by decide)]
    rfl)
  rw [this]
  have hm0 : n = 0 → m = 0 := fun h => by
    rw [h] at h1
    simp only [Int.mul_zero, Int.natAbs_zero, Nat.zero_mul] at h1
    rcases Nat.mul_eq_zero.1 h1 with h | h
    · exact h
    · exact absurd h (Nat.ne_of_gt (Nat.two_pow_pos _))
  have hnn : (8 * n).natAbs = 8 * n.natAbs := by omega
  have hpl : n ≠ 0 → -100 ≤ p := fun h => E8.place (by omega) h2 h1
  have hw := wr_to8 (wr_e8 (sgn a ^^ false) (mag := 2 * (m * 2 ^ (54 - m.log2))) (place := p - -49 - ((106 - m.log2 : Nat) : Int) - 1) (n := n.natAbs) hn53 (fun hz => by
      have : n ≠ 0 := fun h => hz (by rw [hm0 h, Nat.zero_mul])
      have := hpl this
      omega) (fun hz => by
      have := hpl (by omega)
      rw [hnn] at h1
      apply pow_cancel (k := 3)
      rw [show n.natAbs * 2 ^ (e71 + 3) = 8 * n.natAbs * 2 ^ e71 by rw [Nat.pow_add, Nat.mul_comm (2 ^ e71), ← Nat.mul_assoc, Nat.mul_comm n.natAbs], ← h1, Nat.mul_comm 2, Nat.mul_assoc, Nat.mul_assoc, show (2 : Nat) * 2 ^ ((p - -49 - ((106 - m.log2 : Nat) : Int) - 1 + 1074).toNat + 3) = 2 ^ ((p - -49 - ((106 - m.log2 : Nat) : Int) - 1 + 1074).toNat + 3 + 1) by rw [Nat.pow_succ _ (_ + 3), Nat.mul_comm], ← Nat.pow_add]
      congr 2; omega) (fun hz => by rw [hm0 (by omega), Nat.zero_mul]))
  have e2 : Fl.sg (sgn a ^^ false) n.natAbs = n := by
    rw [sg_xor_false]
    have := ha.sg
    rw [hnn, Nat.mul_comm, ← sg_mul] at this
    omega
  rw [e2] at hw
  exact hw

theorem E8.nan {a : Nat} {n : Int} (h : E8 a n) : isNan a = false := by rw [nan_iff]; have := h.fin; exact decide_eq_false (by omega)
theorem ord8 {a b : Nat} {n m : Int} (ha : E8 a n) (hb : E8 b m) : fOrd a b = some (compare n m) := by
  rw [ord_fin ha.fin hb.fin]
  show some (compare (V a) (V b)) = _
  rw [ha.V, hb.V]
  have := cmp_scale n m e71
  rw [Int.natCast_pow] at this
  exact congrArg some this
theorem lss8 {a b : Nat} {n m : Int} (ha : E8 a n) (hb : E8 b m) : fCmp .lss a b = decide (n < m) := by
  simp only [fCmp, ord8 ha hb, cmp_ite]
  rcases Int.lt_trichotomy n m with h | h | h
  · rw [if_pos h]; simp [h]
  · rw [if_neg (by omega), if_pos h]; simp [h]
  · rw [if_neg (by omega), if_neg (by omega)]; simp [Int.le_of_lt h]
theorem gtr8 {a b : Nat} {n m : Int} (ha : E8 a n) (hb : E8 b m) : fCmp .gtr a b = decide (m < n) := by
  simp only [fCmp, ord8 ha hb, cmp_ite]
  rcases Int.lt_trichotomy n m with h | h | h
  · rw [if_pos h]; simp [Int.le_of_lt h]
  · rw [if_neg (by omega), if_pos h]; simp [h]
  · rw [if_neg (by omega), if_neg (by omega)]; simp [h]
theorem eql8 {a b : Nat} {n m : Int} (ha : E8 a n) (hb : E8 b m) : fCmp .eql a b = decide (n = m) := by
  simp only [fCmp, ord8 ha hb, cmp_ite]
  rcases Int.lt_trichotomy n m with h | h | h
  · rw [if_pos h]; simp [Int.ne_of_lt h]
  · rw [if_neg (by omega), if_pos h]; simp [h]
  · rw [if_neg (by omega), if_neg (by omega)]; simp [Int.ne_of_gt h]
theorem min8 {a b : Nat} {n m : Int} (ha : E8 a n) (hb : E8 b m) : ∃ c, fMin a b = some c ∧ E8 c (min n m) := by
  unfold fMin
  rw [ord8 ha hb, cmp_ite]
  rcases Int.lt_trichotomy n m with h | h | h
  · rw [if_pos h]; exact ⟨a, rfl, by rw [Int.min_eq_left (by omega)]; exact ha⟩
  · rw [if_neg (by omega), if_pos h]
    subst h
    refine ⟨_, rfl, ?_⟩
    rw [Int.min_self]; split <;> assumption
  · rw [if_neg (by omega), if_neg (by omega)]; exact ⟨b, rfl, by rw [Int.min_eq_right (by omega)]; exact hb⟩
theorem max8 {a b : Nat} {n m : Int} (ha : E8 a n) (hb : E8 b m) : ∃ c, fMax a b = some c ∧ E8 c (max n m) := by
  unfold fMax
  rw [ord8 ha hb, cmp_ite]
  rcases Int.lt_trichotomy n m with h | h | h
  · rw [if_pos h]; exact ⟨b, rfl, by rw [Int.max_eq_right (by omega)]; exact hb⟩
  · rw [if_neg (by omega), if_pos h]
    subst h
    refine ⟨_, rfl, ?_⟩
    rw [Int.max_self]; split <;> assumption
  · rw [if_neg (by omega), if_neg (by omega)]; exact ⟨a, rfl, by rw [Int.max_eq_left (by omega)]; exact ha⟩
theorem E8.inj {a b : Nat} {n : Int} (ha : E8 a n) (hb : E8 b n) (hn : n ≠ 0) : a = b := by
  have h1 : Fl.V a = Fl.V b := by rw [ha.V, hb.V]
  have h2 : mg (rung a) = mg (rung b) := by have := congrArg Int.natAbs h1; unfold Fl.V at this; rwa [sg_abs, sg_abs] at this
  refine word_inj ha.lt hb.lt ?_ (mg_inj h2)
  have h3 : Fl.V a ≠ 0 := by
    rw [ha.V]
    have hpos : (0 : Int) < (2 : Int) ^ e71 := Int.pow_pos (by decide)
    intro h
    rcases Int.mul_eq_zero.1 h with h | h <;> omega
  unfold Fl.V at h1 h3
  rw [← h2] at h1
  unfold Fl.sg at h1 h3
  cases e1 : sgn a <;> cases e2 : sgn b <;> rw [e1] at h1 h3 <;> rw [e2] at h1 <;> simp at h1 h3 ⊢ <;> omega
end Go.Fl
