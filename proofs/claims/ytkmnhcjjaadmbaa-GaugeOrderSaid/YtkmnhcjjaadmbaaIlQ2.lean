/-
  A part of the proof: rules and plain facts. No condition.
-/
import Derived.Test.YtkmnhcjjaadmbaaIlQ1
set_option linter.all false
set_option linter.unusedSimpArgs false
set_option linter.unusedVariables false
open Go Go.IL
namespace Go.Fl

/-! Rounding: the nearest word, and where it is the number itself. -/
theorem mg_join {q k : Nat} (h : (q = 0 ∧ k ≤ 9007199254740992) ∨ (4503599627370496 ≤ k ∧ k ≤ 9007199254740992)) : mg (q * 4503599627370496 + k) = k * 2 ^ q := by
  unfold mg
  by_cases hc : k = 9007199254740992
  · subst hc
    rw [if_neg (by omega)]
    have e1 : (q * 4503599627370496 + 9007199254740992) % 4503599627370496 = 0 := by omega
    have e2 : (q * 4503599627370496 + 9007199254740992) / 4503599627370496 - 1 = q + 1 := by omega
    rw [e1, e2, Nat.pow_succ, Nat.mul_comm (2 ^ q) 2, ← Nat.mul_assoc]
  · rcases h with ⟨rfl, h⟩ | ⟨h1, h2⟩
    · by_cases hk : k < 4503599627370496
      · rw [if_pos (by omega)]; simp
      · rw [if_neg (by omega), show (0 * 4503599627370496 + k) % 4503599627370496 = k - 4503599627370496 by omega, show (0 * 4503599627370496 + k) / 4503599627370496 - 1 = 0 by omega, Nat.pow_zero, Nat.mul_one, Nat.mul_one]
        omega
    · rw [if_neg (by omega), show (q * 4503599627370496 + k) % 4503599627370496 = k - 4503599627370496 by omega, show (q * 4503599627370496 + k) / 4503599627370496 - 1 = q by omega, show 4503599627370496 + (k - 4503599627370496) = k by omega]
theorem rung_word (s : Bool) {r : Nat} (h : r < 9223372036854775808) : rung (Ieee.double.word s r) = r := by
  unfold rung Ieee.Format.word; rw [sw]; cases s <;> simp <;> omega
theorem sgn_word (s : Bool) {r : Nat} (h : r < 9223372036854775808) : sgn (Ieee.double.word s r) = s := by
  unfold sgn Ieee.Format.word; rw [sw]
  cases s
  · simp only [Bool.false_eq_true, if_false]; rw [Nat.div_eq_of_lt h]; rfl
  · simp only [if_true]; rw [show (9223372036854775808 + r) / 9223372036854775808 = 1 by omega]; rfl
theorem word_lt (s : Bool) {r : Nat} (h : r < 9223372036854775808) : Ieee.double.word s r < 18446744073709551616 := by
  unfold Ieee.Format.word; rw [sw]; cases s <;> simp <;> omega
theorem word_eq {a : Nat} (h : a < 18446744073709551616) : Ieee.double.word (sgn a) (rung a) = a := by
  unfold Ieee.Format.word sgn rung; rw [sw]
  by_cases h1 : a < 9223372036854775808
  · rw [Nat.div_eq_of_lt h1]; simp; omega
  · rw [show a / 9223372036854775808 = 1 by omega]; simp; omega
theorem word_inj {a b : Nat} (ha : a < 18446744073709551616) (hb : b < 18446744073709551616) (h1 : sgn a = sgn b) (h2 : rung a = rung b) : a = b := by
  rw [← word_eq ha, ← word_eq hb, h1, h2]

theorem cut_near (s : Bool) (n d : Nat) (hd : d ≤ n.log2 + 2) : 2 * n ≤ 2 * (Ieee.Toward.even.cut s n d * 2 ^ d) + 2 ^ d ∧ 2 * (Ieee.Toward.even.cut s n d * 2 ^ d) ≤ 2 * n + 2 ^ d := by
  unfold Ieee.Toward.cut
  rw [Nat.min_eq_left hd]
  simp only [Nat.shiftLeft_eq, Nat.one_mul]
  have hp : 0 < 2 ^ d := Nat.two_pow_pos _
  generalize 2 ^ d = g at *
  have h1 := Nat.div_add_mod n g
  have h2 := Nat.mod_lt n hp
  generalize n / g = l at *
  generalize n % g = r at *
  have e0 : (l + 0) * g = g * l := by rw [Nat.add_zero, Nat.mul_comm]
  have e1 : (l + 1) * g = g * l + g := by rw [Nat.add_mul, Nat.one_mul, Nat.mul_comm]
  cases hm : (decide (g < 2 * r) || g == 2 * r && l % 2 == 1) with
  | true =>
    rw [Bool.toNat_true, e1]
    have : g ≤ 2 * r := by
      simp only [Bool.or_eq_true, decide_eq_true_eq, Bool.and_eq_true, beq_iff_eq] at hm
      omega
    omega
  | false =>
    rw [Bool.toNat_false, e0]
    have : ¬ g < 2 * r := by
      simp only [Bool.or_eq_false_iff, decide_eq_false_iff_not] at hm
      exact hm.1
    omega
theorem cut_exact (s : Bool) {n d c : Nat} (hd : d ≤ n.log2 + 2) (h : n = c * 2 ^ d) : Ieee.Toward.even.cut s n d = c := by
  unfold Ieee.Toward.cut
  rw [Nat.min_eq_left hd]
  simp only [Nat.shiftLeft_eq, Nat.one_mul]
  have hp : 0 < 2 ^ d := Nat.two_pow_pos _
  rw [h, Nat.mul_mod_left, Nat.mul_div_cancel _ hp]
  simp
theorem log2_mul_pow {m k : Nat} (hm : m ≠ 0) : (m * 2 ^ k).log2 = m.log2 + k := by
  induction k with
  | zero => simp
  | succ k ih =>
    have h0 : m * 2 ^ k ≠ 0 := Nat.mul_ne_zero hm (Nat.ne_of_gt (Nat.two_pow_pos _))
    rw [Nat.pow_succ, ← Nat.mul_assoc, Nat.mul_comm _ 2, Nat.log2_two_mul h0, ih]; omega
theorem log2_lt' {m k : Nat} (hm : m ≠ 0) : m.log2 < k ↔ m < 2 ^ k := Nat.log2_lt hm
theorem log2_ge {m k : Nat} (hm : m ≠ 0) : k ≤ m.log2 ↔ 2 ^ k ≤ m := Nat.le_log2 hm

/-- A number of not more than 53 digits is written as it is. -/
theorem nearest_exact (s : Bool) {mag m k : Nat} {place : Int} (h0 : m ≠ 0) (hm : m < 9007199254740992) (he : mag = m * 2 ^ k) (hp : -1074 ≤ place) (ht : place + k ≤ 900) :
    rung (Ieee.double.nearest s mag place) < INF ∧ sgn (Ieee.double.nearest s mag place) = s ∧ mg (rung (Ieee.double.nearest s mag place)) = mag * 2 ^ (place + 1074).toNat := by
  have hmag : mag ≠ 0 := by rw [he]; exact Nat.mul_ne_zero h0 (Nat.ne_of_gt (Nat.two_pow_pos _))
  have hL : mag.log2 = m.log2 + k := by rw [he, log2_mul_pow h0]
  have hml : m.log2 < 53 := (log2_lt' h0).2 hm
  unfold Ieee.Format.nearest
  rw [if_neg hmag, fb, lp, bn, ir]
  simp only
  -- the last place, and what is kept
  have key : ∃ (last : Int) (kept : Nat), max (place + ((mag.log2 : Nat) : Int) - (52 : Nat)) (-1074) = last ∧ -1074 ≤ last ∧ last ≤ 900 ∧ ((last = -1074 ∧ kept ≤ 9007199254740992) ∨ (4503599627370496 ≤ kept ∧ kept ≤ 9007199254740992)) ∧
      Ieee.Toward.even.cut s (mag <<< (place - last).toNat) (last - place).toNat = kept ∧ kept * 2 ^ (last + 1074).toNat = mag * 2 ^ (place + 1074).toNat := by
    simp only [Nat.shiftLeft_eq, hL]
    by_cases h1 : place + ((m.log2 + k : Nat) : Int) - (52 : Nat) ≤ -1074
    · refine ⟨-1074, mag * 2 ^ (place + 1074).toNat, by omega, by omega, by omega, .inl ⟨rfl, ?_⟩, ?_, by simp⟩
      · have h2 : mag * 2 ^ (place + 1074).toNat = m * 2 ^ (k + (place + 1074).toNat) := by rw [he, Nat.mul_assoc, ← Nat.pow_add]
        have h3 : (m * 2 ^ (k + (place + 1074).toNat)).log2 < 53 := by rw [log2_mul_pow h0]; omega
        rw [h2]
        have := (log2_lt' (Nat.mul_ne_zero h0 (Nat.ne_of_gt (Nat.two_pow_pos _)))).1 h3
        omega
      · rw [show (place - -1074).toNat = (place + 1074).toNat by omega, show ((-1074 : Int) - place).toNat = 0 by omega]
        exact cut_exact s (by omega) (by simp)
    · by_cases h2 : (m.log2 + k : Nat) ≤ 52
      · -- the number is made longer
        refine ⟨place + ((m.log2 + k : Nat) : Int) - (52 : Nat), mag * 2 ^ (52 - (m.log2 + k)), by omega, by omega, by omega, .inr ?_, ?_, ?_⟩
        · have h3 : (mag * 2 ^ (52 - (m.log2 + k))).log2 = 52 := by rw [log2_mul_pow hmag, hL]; omega
          have hne : mag * 2 ^ (52 - (m.log2 + k)) ≠ 0 := Nat.mul_ne_zero hmag (Nat.ne_of_gt (Nat.two_pow_pos _))
          have h4 := (log2_ge hne (k := 52)).1 (by omega)
          have h5 := (log2_lt' hne (k := 53)).1 (by omega)
          omega
        · rw [show (place - (place + ((m.log2 + k : Nat) : Int) - (52 : Nat))).toNat = 52 - (m.log2 + k) by omega, show (place + ((m.log2 + k : Nat) : Int) - (52 : Nat) - place).toNat = 0 by omega]
          exact cut_exact s (by omega) (by simp)
        · rw [Nat.mul_assoc, ← Nat.pow_add]; congr 2; omega
      · -- noughts are struck
        have hd : m.log2 + k - 52 ≤ k := by omega
        refine ⟨place + ((m.log2 + k : Nat) : Int) - (52 : Nat), m * 2 ^ (k - (m.log2 + k - 52)), by omega, by omega, by omega, .inr ?_, ?_, ?_⟩
        · have h3 : (m * 2 ^ (k - (m.log2 + k - 52))).log2 = 52 := by rw [log2_mul_pow h0]; omega
          have hne : m * 2 ^ (k - (m.log2 + k - 52)) ≠ 0 := Nat.mul_ne_zero h0 (Nat.ne_of_gt (Nat.two_pow_pos _))
          have h4 := (log2_ge hne (k := 52)).1 (by omega)
          have h5 := (log2_lt' hne (k := 53)).1 (by omega)
          omega
        · rw [show (place - (place + ((m.log2 + k : Nat) : Int) - (52 : Nat))).toNat = 0 by omega, show (place + ((m.log2 + k : Nat) : Int) - (52 : Nat) - place).toNat = m.log2 + k - 52 by omega, Nat.pow_zero, Nat.mul_one]
          refine cut_exact s (by rw [hL]; omega) ?_
          rw [he, Nat.mul_assoc, ← Nat.pow_add]; congr 2; omega
        · rw [he, Nat.mul_assoc, Nat.mul_assoc, ← Nat.pow_add, ← Nat.pow_add]; congr 2; omega
  obtain ⟨last, kept, e1, e2, e3, e4, e5, e6⟩ := key
  rw [e1, e5]
  have hq : (last + 1074).toNat ≤ 1974 := by omega
  have hk : kept ≤ 9007199254740992 := by rcases e4 with ⟨_, h⟩ | ⟨_, h⟩ <;> exact h
  have hlt : (last + 1074).toNat * 4503599627370496 + kept < 9218868437227405312 :=
    Nat.lt_of_le_of_lt (Nat.add_le_add (Nat.mul_le_mul_right 4503599627370496 hq) hk) (by decide)
  have hr : min ((last - -1074).toNat * 4503599627370496 + kept) 9218868437227405312 = (last + 1074).toNat * 4503599627370496 + kept := by
    rw [show (last - -1074).toNat = (last + 1074).toNat by omega]
    exact Nat.min_eq_left (Nat.le_of_lt hlt)
  rw [hr, rung_word s (Nat.lt_trans hlt (by decide)), sgn_word s (Nat.lt_trans hlt (by decide))]
  have hj : ((last + 1074).toNat = 0 ∧ kept ≤ 9007199254740992) ∨ (4503599627370496 ≤ kept ∧ kept ≤ 9007199254740992) := by
    rcases e4 with ⟨h, h'⟩ | h
    · exact .inl ⟨by rw [h]; rfl, h'⟩
    · exact .inr h
  have hm2 := @mg_join (last + 1074).toNat kept hj
  rw [e6] at hm2
  exact ⟨hlt, rfl, hm2⟩
end Go.Fl
