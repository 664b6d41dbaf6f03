/-
  A part of the proof: rules and plain facts. No condition.
-/
import Derived.Test.YtkmnhcjjaadmbaaIlFl
import Derived.Test.YtkmnhcjjaadmbaaIlU2
set_option linter.all false
set_option linter.unusedSimpArgs false
set_option linter.unusedVariables false
open Go Go.IL
namespace Go.Fl

/-! How doubles stand to each other: by their rungs. -/
theorem sw : Ieee.double.signWeight = 9223372036854775808 := by decide +kernel
theorem ir : Ieee.double.infRung = 9218868437227405312 := by decide +kernel
theorem bn : Ieee.double.binade = 4503599627370496 := by decide +kernel
theorem lp : Ieee.double.leastPlace = -1074 := by decide +kernel
theorem fb : Ieee.double.fractionBits = 52 := by decide +kernel

/-- Great exponents, by names. -/
def e71 : Nat := 1071
def e74 : Nat := 1074
theorem e71_eq : e71 = 1071 := rfl
theorem e74_eq : e74 = 1074 := rfl

def rung (a : Nat) : Nat := a % 9223372036854775808
def sgn (a : Nat) : Bool := a / 9223372036854775808 % 2 == 1
def K (a : Nat) : Int := if sgn a then -(rung a : Int) else rung a
def INF : Nat := 9218868437227405312

/-- The magnitude of a rung, in the least unit. -/
def mg (r : Nat) : Nat := if r < 4503599627370496 then r else (4503599627370496 + r % 4503599627370496) * 2 ^ (r / 4503599627370496 - 1)

theorem mg_lt {r s : Nat} (h : r < s) : mg r < mg s := by
  unfold mg
  by_cases h1 : r < 4503599627370496
  · rw [if_pos h1]
    by_cases h2 : s < 4503599627370496
    · rw [if_pos h2]; exact h
    · rw [if_neg h2]
      have : 1 ≤ 2 ^ (s / 4503599627370496 - 1) := Nat.one_le_two_pow
      calc r < 4503599627370496 + s % 4503599627370496 := by omega
        _ = (4503599627370496 + s % 4503599627370496) * 1 := by omega
        _ ≤ _ := Nat.mul_le_mul_left _ this
  · have h2 : ¬ s < 4503599627370496 := by omega
    rw [if_neg h1, if_neg h2]
    have hq : r / 4503599627370496 ≤ s / 4503599627370496 := Nat.div_le_div_right (by omega)
    by_cases he : r / 4503599627370496 = s / 4503599627370496
    · rw [he]
      have : r % 4503599627370496 < s % 4503599627370496 := by omega
      exact Nat.mul_lt_mul_of_pos_right (by omega) (Nat.two_pow_pos _)
    · have h3 : 1 ≤ r / 4503599627370496 := by omega
      obtain ⟨k, hk⟩ : ∃ k, s / 4503599627370496 - 1 = (r / 4503599627370496 - 1) + 1 + k := ⟨s / 4503599627370496 - 1 - (r / 4503599627370496 - 1) - 1, by omega⟩
      rw [hk, Nat.pow_add, Nat.pow_succ]
      have hp : 0 < 2 ^ (r / 4503599627370496 - 1) := Nat.two_pow_pos _
      have h4 : 1 ≤ 2 ^ k := Nat.one_le_two_pow
      generalize 2 ^ (r / 4503599627370496 - 1) = p at *
      generalize 2 ^ k = q at *
      have h5 : r % 4503599627370496 < 4503599627370496 := Nat.mod_lt _ (by decide)
      calc (4503599627370496 + r % 4503599627370496) * p < (2 * 4503599627370496) * p := Nat.mul_lt_mul_of_pos_right (by omega) hp
        _ = 4503599627370496 * (p * 2 * 1) := by rw [Nat.mul_one, Nat.mul_comm p 2, ← Nat.mul_assoc, Nat.mul_comm 4503599627370496 2]
        _ ≤ 4503599627370496 * (p * 2 * q) := Nat.mul_le_mul_left _ (Nat.mul_le_mul_left _ h4)
        _ ≤ (4503599627370496 + s % 4503599627370496) * (p * 2 * q) := Nat.mul_le_mul_right _ (by omega)
theorem mg_inj {r s : Nat} (h : mg r = mg s) : r = s := by
  rcases Nat.lt_trichotomy r s with h1 | h1 | h1
  · exact absurd h (Nat.ne_of_lt (mg_lt h1))
  · exact h1
  · exact absurd h.symm (Nat.ne_of_lt (mg_lt h1))
theorem mg_cmp (r s : Nat) : compare (mg r) (mg s) = compare r s := by
  rcases Nat.lt_trichotomy r s with h | h | h
  · rw [Nat.compare_eq_lt.2 h, Nat.compare_eq_lt.2 (mg_lt h)]
  · rw [h, Nat.compare_eq_eq.2 rfl, Nat.compare_eq_eq.2 rfl]
  · rw [Nat.compare_eq_gt.2 h, Nat.compare_eq_gt.2 (mg_lt h)]
theorem mg_zero : mg 0 = 0 := by decide
theorem mg_pos {r : Nat} (h : 0 < r) : 0 < mg r := by have := mg_lt h; rwa [mg_zero] at this

/-- What a word reads as: finite numbers in the least unit. -/
theorem read_fin {a : Nat} (h : rung a < INF) : ∃ m p, Ieee.double.read a = .number (sgn a) m p ∧ -1074 ≤ p ∧ m * 2 ^ (p + 1074).toNat = mg (rung a) := by
  unfold Ieee.Format.read
  rw [sw, bn, ir, lp]
  show ∃ m p, (if rung a < 4503599627370496 then Ieee.Datum.number (sgn a) (rung a) (-1074) else if rung a < INF then _ else _) = _ ∧ _
  unfold mg
  by_cases h1 : rung a < 4503599627370496
  · rw [if_pos h1, if_pos h1]; exact ⟨rung a, -1074, rfl, by decide, by simp⟩
  · rw [if_neg h1, if_neg h1, if_pos h]
    refine ⟨_, _, rfl, by omega, ?_⟩
    show _ * 2 ^ ((-1074 : Int) + ((rung a / 4503599627370496 - 1 : Nat) : Int) + 1074).toNat = _
    rw [show ((-1074 : Int) + ((rung a / 4503599627370496 - 1 : Nat) : Int) + 1074).toNat = rung a / 4503599627370496 - 1 by omega]
    rfl
theorem read_inf {a : Nat} (h : rung a = INF) : Ieee.double.read a = .infinity (sgn a) := by
  unfold Ieee.Format.read
  rw [sw, bn, ir, lp]
  show (if rung a < 4503599627370496 then _ else if rung a < INF then _ else if rung a = INF then Ieee.Datum.infinity (sgn a) else _) = _
  rw [if_neg (by rw [h]; decide), if_neg (by omega), if_pos h]
theorem read_nan' {a : Nat} (h : INF < rung a) : ∃ f, Ieee.double.read a = .nan (sgn a) f := by
  unfold Ieee.Format.read
  rw [sw, bn, ir, lp]
  show ∃ f, (if rung a < 4503599627370496 then _ else if rung a < INF then _ else if rung a = INF then _ else Ieee.Datum.nan (sgn a) (rung a - INF)) = _
  exact ⟨_, by rw [if_neg (by unfold INF at h; omega), if_neg (by omega), if_neg (by omega)]⟩
theorem nan_iff (a : Nat) : isNan a = decide (INF < rung a) := by
  unfold isNan
  rcases Nat.lt_trichotomy (rung a) INF with h | h | h
  · obtain ⟨m, p, e, _⟩ := read_fin h; rw [e, decide_eq_false (by omega)]; rfl
  · rw [read_inf h, decide_eq_false (by omega)]; rfl
  · obtain ⟨f, e⟩ := read_nan' h; rw [e, decide_eq_true h]; rfl

theorem signed_eq (s : Bool) (m u : Nat) : Ieee.signed s m u = (if s then -((m * 2 ^ u : Nat) : Int) else ((m * 2 ^ u : Nat) : Int)) := by
  unfold Ieee.signed; rw [Nat.shiftLeft_eq]
theorem cmp_scale (x y : Int) (k : Nat) : compare (x * (2 ^ k : Nat)) (y * (2 ^ k : Nat)) = compare x y := by
  have hk : (0 : Int) < ((2 ^ k : Nat) : Int) := by exact_mod_cast Nat.two_pow_pos k
  rcases Int.lt_trichotomy x y with h | h | h
  · rw [Int.compare_eq_lt.2 h, Int.compare_eq_lt.2 (Int.mul_lt_mul_of_pos_right h hk)]
  · rw [h, Int.compare_eq_eq.2 rfl, Int.compare_eq_eq.2 rfl]
  · rw [Int.compare_eq_gt.2 h, Int.compare_eq_gt.2 (Int.mul_lt_mul_of_pos_right h hk)]
def sg (s : Bool) (n : Nat) : Int := if s then -(n : Int) else n
theorem sg_mul (s : Bool) (n k : Nat) : sg s n * (k : Int) = sg s (n * k) := by
  unfold sg; cases s <;> simp [Int.neg_mul]
theorem sg_cmp (s t : Bool) (a b c d : Nat) (h : compare a b = compare c d) (h0 : a = 0 ↔ c = 0) (h1 : b = 0 ↔ d = 0) : compare (sg s a) (sg t b) = compare (sg s c) (sg t d) := by
  have e : ∀ x y : Int, compare x y = if x < y then .lt else if x = y then .eq else .gt := by
    intro x y; rcases Int.lt_trichotomy x y with h | h | h
    · rw [Int.compare_eq_lt.2 h, if_pos h]
    · rw [if_neg (by omega), if_pos h]; exact Int.compare_eq_eq.2 h
    · rw [if_neg (by omega), if_neg (by omega)]; exact Int.compare_eq_gt.2 h
  have e' : ∀ x y : Nat, compare x y = if x < y then .lt else if x = y then .eq else .gt := by
    intro x y; rcases Nat.lt_trichotomy x y with h | h | h
    · rw [Nat.compare_eq_lt.2 h, if_pos h]
    · rw [if_neg (by omega), if_pos h]; exact Nat.compare_eq_eq.2 h
    · rw [if_neg (by omega), if_neg (by omega)]; exact Nat.compare_eq_gt.2 h
  rw [e', e'] at h
  rw [e, e]; unfold sg
  (repeat' split at h) <;> first | (cases h; done) | (cases s <;> cases t <;> simp <;> (repeat' split) <;> first | rfl | omega)
theorem ord_fin {a b : Nat} (ha : rung a < INF) (hb : rung b < INF) : fOrd a b = some (compare (sg (sgn a) (mg (rung a))) (sg (sgn b) (mg (rung b)))) := by
  obtain ⟨m, p, e, hp, h1⟩ := read_fin ha
  obtain ⟨n, q, f, hq, h2⟩ := read_fin hb
  unfold fOrd Ieee.Format.order
  rw [e, f]
  simp only [Ieee.Datum.order]
  rw [← h1, ← h2, signed_eq, signed_eq]
  have key : ∀ (i : Int) (m : Nat), min p q ≤ i → m * 2 ^ (i + 1074).toNat = (m * 2 ^ (i - min p q).toNat) * 2 ^ (min p q + 1074).toNat := by
    intro i m hi
    rw [Nat.mul_assoc, ← Nat.pow_add]; congr 2; omega
  rw [key p m (by omega), key q n (by omega), ← sg_mul _ (m * 2 ^ (p - min p q).toNat), ← sg_mul _ (n * 2 ^ (q - min p q).toNat), cmp_scale]
  rfl
theorem K_sg (a : Nat) : K a = sg (sgn a) (rung a) := rfl
theorem ord_K {a b : Nat} (ha : rung a ≤ INF) (hb : rung b ≤ INF) : fOrd a b = some (compare (K a) (K b)) := by
  by_cases h1 : rung a < INF
  · by_cases h2 : rung b < INF
    · rw [ord_fin h1 h2, K_sg, K_sg]
      congr 1
      refine sg_cmp _ _ _ _ _ _ (mg_cmp _ _) ?_ ?_ <;>
      · constructor
        · intro h
          apply mg_inj; rw [h, mg_zero]
        · intro h; rw [h, mg_zero]
    · have h2 : rung b = INF := by omega
      obtain ⟨m, p, e, hp, _⟩ := read_fin h1
      unfold fOrd Ieee.Format.order
      rw [e, read_inf h2]
      simp only [Ieee.Datum.order, K, h2]
      cases sgn b
      · simp only [Bool.false_eq_true, if_false]; congr 1; symm; apply Int.compare_eq_lt.2; split <;> omega
      · simp only [if_true]; congr 1; symm; apply Int.compare_eq_gt.2; split <;> omega
  · have h1 : rung a = INF := by omega
    by_cases h2 : rung b < INF
    · obtain ⟨m, p, e, hp, _⟩ := read_fin h2
      unfold fOrd Ieee.Format.order
      rw [e, read_inf h1]
      simp only [Ieee.Datum.order, K, h1]
      cases sgn a
      · simp only [Bool.false_eq_true, if_false]; congr 1; symm; apply Int.compare_eq_gt.2; split <;> omega
      · simp only [if_true]; congr 1; symm; apply Int.compare_eq_lt.2; split <;> omega
    · have h2 : rung b = INF := by omega
      unfold fOrd Ieee.Format.order
      rw [read_inf h1, read_inf h2]
      simp only [Ieee.Datum.order, K, h1, h2]
      cases sgn a <;> cases sgn b <;> rfl
theorem not_nan {a : Nat} (h : isNan a = false) : rung a ≤ INF := by
  rw [nan_iff] at h; simpa using h
theorem is_nan {a : Nat} (h : isNan a = true) : INF < rung a := by
  rw [nan_iff] at h; simpa using h
theorem cmp_nan1 {op : BinOp} {a b : Nat} (h : isNan a = true) : fCmp op a b = (match op with | .neq => true | _ => false) := by
  cases op <;> simp [fCmp, ord_nan1 h]
theorem cmp_nan2 {op : BinOp} {a b : Nat} (h : isNan b = true) : fCmp op a b = (match op with | .neq => true | _ => false) := by
  cases op <;> simp [fCmp, ord_nan2 h]
theorem cmp_ite (x y : Int) : compare x y = if x < y then .lt else if x = y then .eq else .gt := by
  rcases Int.lt_trichotomy x y with h | h | h
  · rw [Int.compare_eq_lt.2 h, if_pos h]
  · rw [if_neg (by omega), if_pos h]; exact Int.compare_eq_eq.2 h
  · rw [if_neg (by omega), if_neg (by omega)]; exact Int.compare_eq_gt.2 h
theorem lss_K {a b : Nat} (ha : isNan a = false) (hb : isNan b = false) : fCmp .lss a b = (decide (K a < K b)) := by
  simp only [fCmp, ord_K (not_nan ha) (not_nan hb), cmp_ite]
  rcases Int.lt_trichotomy (K a) (K b) with h | h | h
  · rw [if_pos h]; simp [h, Int.ne_of_lt h, Int.not_lt.2 (Int.le_of_lt h)]
  · rw [if_neg (by omega), if_pos h]; simp [h]
  · rw [if_neg (by omega), if_neg (by omega)]; simp [h, Int.not_lt.2 (Int.le_of_lt h), Int.ne_of_gt h]
theorem gtr_K {a b : Nat} (ha : isNan a = false) (hb : isNan b = false) : fCmp .gtr a b = (decide (K b < K a)) := by
  simp only [fCmp, ord_K (not_nan ha) (not_nan hb), cmp_ite]
  rcases Int.lt_trichotomy (K a) (K b) with h | h | h
  · rw [if_pos h]; simp [h, Int.ne_of_lt h, Int.not_lt.2 (Int.le_of_lt h)]
  · rw [if_neg (by omega), if_pos h]; simp [h]
  · rw [if_neg (by omega), if_neg (by omega)]; simp [h, Int.not_lt.2 (Int.le_of_lt h), Int.ne_of_gt h]
theorem eql_K {a b : Nat} (ha : isNan a = false) (hb : isNan b = false) : fCmp .eql a b = (decide (K a = K b)) := by
  simp only [fCmp, ord_K (not_nan ha) (not_nan hb), cmp_ite]
  rcases Int.lt_trichotomy (K a) (K b) with h | h | h
  · rw [if_pos h]; simp [h, Int.ne_of_lt h, Int.not_lt.2 (Int.le_of_lt h)]
  · rw [if_neg (by omega), if_pos h]; simp [h]
  · rw [if_neg (by omega), if_neg (by omega)]; simp [h, Int.not_lt.2 (Int.le_of_lt h), Int.ne_of_gt h]
theorem neq_K {a b : Nat} (ha : isNan a = false) (hb : isNan b = false) : fCmp .neq a b = (!decide (K a = K b)) := by
  simp only [fCmp, ord_K (not_nan ha) (not_nan hb), cmp_ite]
  rcases Int.lt_trichotomy (K a) (K b) with h | h | h
  · rw [if_pos h]; simp [h, Int.ne_of_lt h, Int.not_lt.2 (Int.le_of_lt h)]
  · rw [if_neg (by omega), if_pos h]; simp [h]
  · rw [if_neg (by omega), if_neg (by omega)]; simp [h, Int.not_lt.2 (Int.le_of_lt h), Int.ne_of_gt h]
theorem neq_self (a : Nat) : fCmp .neq a a = isNan a := by
  cases h : isNan a with
  | true => rw [cmp_nan1 h]
  | false => rw [neq_K h h]; simp
end Go.Fl
