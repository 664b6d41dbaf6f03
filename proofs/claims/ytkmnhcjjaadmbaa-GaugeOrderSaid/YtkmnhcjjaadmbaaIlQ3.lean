/-
  A part of the proof: rules and plain facts. No condition.
-/
import Derived.Test.YtkmnhcjjaadmbaaIlQ2
set_option linter.all false
set_option linter.unusedSimpArgs false
set_option linter.unusedVariables false
open Go Go.IL
namespace Go.Fl

/-! Exact arithmetic: finite numbers in the least unit. -/
def V (a : Nat) : Int := sg (sgn a) (mg (rung a))
theorem read_fin' {a : Nat} (h : rung a < INF) : ∃ m p, Ieee.double.read a = .number (sgn a) m p ∧ -1074 ≤ p ∧ m * 2 ^ (p + 1074).toNat = mg (rung a) ∧ m < 9007199254740992 ∧ (m < 4503599627370496 → p = -1074) := by
  unfold Ieee.Format.read
  rw [sw, bn, ir, lp]
  show ∃ m p, (if rung a < 4503599627370496 then Ieee.Datum.number (sgn a) (rung a) (-1074) else if rung a < INF then _ else _) = _ ∧ _
  unfold mg
  by_cases h1 : rung a < 4503599627370496
  · rw [if_pos h1, if_pos h1]; exact ⟨rung a, -1074, rfl, by decide, by simp, by omega, fun _ => rfl⟩
  · rw [if_neg h1, if_neg h1, if_pos h]
    refine ⟨_, _, rfl, by omega, ?_, ?_, fun h => ?_⟩
    · show _ * 2 ^ ((-1074 : Int) + ((rung a / 4503599627370496 - 1 : Nat) : Int) + 1074).toNat = _
      rw [show ((-1074 : Int) + ((rung a / 4503599627370496 - 1 : Nat) : Int) + 1074).toNat = rung a / 4503599627370496 - 1 by omega]
      rfl
    · show 4503599627370496 + rung a % 4503599627370496 < _
      have := Nat.mod_lt (rung a) (show 0 < 4503599627370496 by decide)
      omega
    · have h : 4503599627370496 + rung a % 4503599627370496 < 4503599627370496 := h
      omega
theorem sg_abs (s : Bool) (n : Nat) : (sg s n).natAbs = n := by unfold sg; cases s <;> simp
theorem sg_zero (s : Bool) : sg s 0 = 0 := by cases s <;> rfl

/-- A word that was written. -/
structure Wr (a : Nat) (s : Bool) (r : Nat) : Prop where
  fin : rung a < INF
  sgn : sgn a = s
  mg : mg (rung a) = r
  lt : a < 18446744073709551616
theorem nearest_lt64 (s : Bool) (mag : Nat) (place : Int) : Ieee.double.nearest s mag place < 18446744073709551616 :=
  Nat.lt_of_lt_of_le (Ieee.Format.nearest_lt Ieee.double s mag place) (by decide +kernel)
theorem wr_exact (s : Bool) {mag m k : Nat} {place : Int} (h0 : m ≠ 0) (hm : m < 9007199254740992) (hp : -1074 ≤ place) (he : mag * 2 ^ (place + 1074).toNat = m * 2 ^ k) (hk : k ≤ 1900) : Wr (Ieee.double.nearest s mag place) s (m * 2 ^ k) := by
  by_cases hb : (place + 1074).toNat ≤ k
  · obtain ⟨h1, h2, h3⟩ := nearest_exact s (mag := mag) (m := m) (k := k - (place + 1074).toNat) (place := place) h0 hm (by
      have : m * 2 ^ k = m * 2 ^ (k - (place + 1074).toNat) * 2 ^ (place + 1074).toNat := by rw [Nat.mul_assoc, ← Nat.pow_add]; congr 2; omega
      rw [this] at he
      exact Nat.eq_of_mul_eq_mul_right (Nat.two_pow_pos _) he) hp (by omega)
    exact ⟨h1, h2, h3.trans he, nearest_lt64 _ _ _⟩
  · have hle : k ≤ (place + 1074).toNat := by omega
    have h4 : m = mag * 2 ^ ((place + 1074).toNat - k) := by
      have : mag * 2 ^ (place + 1074).toNat = mag * 2 ^ ((place + 1074).toNat - k) * 2 ^ k := by rw [Nat.mul_assoc, ← Nat.pow_add]; congr 2; omega
      rw [this] at he
      exact (Nat.eq_of_mul_eq_mul_right (Nat.two_pow_pos _) he).symm
    have hmag0 : mag ≠ 0 := by rintro rfl; rw [Nat.zero_mul] at h4; exact h0 h4
    have hmle : mag ≤ m := by rw [h4]; exact Nat.le_mul_of_pos_right _ (Nat.two_pow_pos _)
    have hpl : place ≤ 900 := by
      -- mag * 2 ^ (place + 1074) = m * 2 ^ k < 2 ^ 53 * 2 ^ 1900
      refine Decidable.byContradiction fun hn => ?_
      have h5 : (place + 1074).toNat - k < 53 := by
        have h6 : 2 ^ ((place + 1074).toNat - k) ≤ m := by rw [h4]; exact Nat.le_mul_of_pos_left _ (Nat.pos_of_ne_zero hmag0)
        refine Decidable.byContradiction fun h7 => ?_
        have h8 : 2 ^ 53 ≤ 2 ^ ((place + 1074).toNat - k) := Nat.pow_le_pow_right (by decide) (by omega)
        omega
      omega
    obtain ⟨h1, h2, h3⟩ := nearest_exact s (mag := mag) (m := mag) (k := 0) (place := place) hmag0 (by omega) (by simp) hp (by omega)
    exact ⟨h1, h2, h3.trans he, nearest_lt64 _ _ _⟩
theorem wr_zero (s : Bool) (place : Int) : Wr (Ieee.double.nearest s 0 place) s 0 := by
  have e : Ieee.double.nearest s 0 place = Ieee.double.word s 0 := by unfold Ieee.Format.nearest; rw [if_pos rfl]
  rw [e]
  exact ⟨by rw [rung_word s (by decide)]; decide, sgn_word s (by decide), by rw [rung_word s (by decide)]; rfl, word_lt s (by decide)⟩
theorem Wr.V {a : Nat} {s : Bool} {r : Nat} (h : Wr a s r) : V a = sg s r := by unfold Fl.V; rw [h.sgn, h.mg]

/-- Whole numbers of eighths. -/
structure E8 (a : Nat) (n : Int) : Prop where
  fin : rung a < INF
  V : V a = n * 2 ^ e71
  lt : a < 18446744073709551616
theorem sg_mul' (s : Bool) (n k : Nat) : sg s (n * k) = sg s n * (k : Int) := (sg_mul s n k).symm
theorem wr_e8 (s : Bool) {mag : Nat} {place : Int} {n : Nat} (hn : n < 9007199254740992) (hp : mag ≠ 0 → -1074 ≤ place) (he : n ≠ 0 → mag * 2 ^ (place + 1074).toNat = n * 2 ^ e71) (hz : n = 0 → mag = 0) : Wr (Ieee.double.nearest s mag place) s (n * 2 ^ e71) := by
  by_cases h0 : n = 0
  · rw [hz h0, h0, Nat.zero_mul]; exact wr_zero s place
  · have h1 := he h0
    have hmag : mag ≠ 0 := by
      rintro rfl
      rw [Nat.zero_mul] at h1
      exact Nat.mul_ne_zero h0 (Nat.ne_of_gt (Nat.two_pow_pos _)) h1.symm
    exact wr_exact s h0 hn (hp hmag) h1 (by decide)
theorem wr_to8 {a : Nat} {s : Bool} {n : Nat} (h : Wr a s (n * 2 ^ e71)) : E8 a (sg s n) := ⟨h.fin, by rw [h.V, sg_mul', Int.natCast_pow]; rfl, h.lt⟩
theorem pow_cancel {m n i j k : Nat} (h : m * 2 ^ (i + k) = n * 2 ^ (j + k)) : m * 2 ^ i = n * 2 ^ j := by
  rw [Nat.pow_add, Nat.pow_add, ← Nat.mul_assoc, ← Nat.mul_assoc] at h
  exact Nat.eq_of_mul_eq_mul_right (Nat.two_pow_pos _) h
theorem toF8 {n : Int} (h : n.natAbs < 1125899906842624) : E8 (floatOfInt .f64 n) (8 * n) := by
  have h1 : Wr (Ieee.double.nearest (decide (n < 0)) n.natAbs 0) (decide (n < 0)) (8 * n.natAbs * 2 ^ e71) := by
    refine wr_e8 _ (by omega) (fun _ => by decide) (fun _ => ?_) (fun h => by omega)
    rw [show ((0 : Int) + 1074).toNat = 3 + e71 by decide, Nat.pow_add, ← Nat.mul_assoc]
    congr 1; omega
  have h2 := wr_to8 h1
  have e : sg (decide (n < 0)) (8 * n.natAbs) = 8 * n := by
    unfold sg
    by_cases hn : n < 0
    · rw [decide_eq_true hn]; simp; omega
    · rw [decide_eq_false hn]; simp; omega
  rw [e] at h2
  exact h2
/-- The mantissa and the place of eighths. -/
theorem E8.read {a : Nat} {n : Int} (h : E8 a n) : ∃ m p, Ieee.double.read a = .number (sgn a) m p ∧ -1074 ≤ p ∧ m * 2 ^ (p + 1074).toNat = n.natAbs * 2 ^ e71 ∧ m < 9007199254740992 ∧ sg (sgn a) (m * 2 ^ (p + 1074).toNat) = n * 2 ^ e71 := by
  obtain ⟨m, p, e, hp, h1, h2, _⟩ := read_fin' h.fin
  have hv := h.V
  unfold Fl.V at hv
  rw [← h1] at hv
  refine ⟨m, p, e, hp, ?_, h2, hv⟩
  have := congrArg Int.natAbs hv
  rw [sg_abs, Int.natAbs_mul, Int.natAbs_pow, show (2 : Int).natAbs = 2 from rfl] at this
  rw [this]
theorem E8.place {m : Nat} {p : Int} {n : Nat} (hn : n ≠ 0) (hm : m < 9007199254740992) (he : m * 2 ^ (p + 1074).toNat = n * 2 ^ e71) : -100 ≤ p := by
  refine Decidable.byContradiction fun h => ?_
  have e71' := e71_eq
  have h1 : (p + 1074).toNat ≤ e71 - 53 := by omega
  have h2 : m * 2 ^ (p + 1074).toNat < 2 ^ 53 * 2 ^ (e71 - 53) := by
    calc m * 2 ^ (p + 1074).toNat ≤ m * 2 ^ (e71 - 53) := Nat.mul_le_mul_left _ (Nat.pow_le_pow_right (by decide) h1)
      _ < 2 ^ 53 * 2 ^ (e71 - 53) := Nat.mul_lt_mul_of_pos_right (by exact hm) (Nat.two_pow_pos _)
  have h3 : 2 ^ e71 ≤ n * 2 ^ e71 := Nat.le_mul_of_pos_left _ (Nat.pos_of_ne_zero hn)
  rw [he, ← Nat.pow_add, show 53 + (e71 - 53) = e71 by omega] at h2
  omega
theorem fAr_some {op : BinOp} {x y r : Nat} (h : floatBits op .f64 x y = some r) : fAr op x y = r := by unfold fAr; rw [h]; rfl
theorem opp_number (s : Bool) (m : Nat) (p : Int) : (Ieee.Datum.number s m p).opposite = .number (!s) m p := rfl
theorem signed_sg (s : Bool) (m u : Nat) : Ieee.signed s m u = sg s (m * 2 ^ u) := by rw [signed_eq]; rfl
theorem sum8 {s t : Bool} {m q : Nat} {i j : Int} {u v : Int} (hi : -1074 ≤ i) (hj : -1074 ≤ j) (h1 : sg s (m * 2 ^ (i + 1074).toNat) = u * 2 ^ e71) (h2 : sg t (q * 2 ^ (j + 1074).toNat) = v * 2 ^ e71) (hb : (u + v).natAbs < 9007199254740992) :
    ∃ d, (Ieee.Datum.number s m i).sum (.number t q j) = some d ∧ E8 (Ieee.double.write d) (u + v) := by
  simp only [Ieee.Datum.sum]
  refine ⟨_, rfl, ?_⟩
  rw [signed_sg, signed_sg]
  have hx : sg s (m * 2 ^ (i - min i j).toNat) * (2 ^ (min i j + 1074).toNat : Nat) = u * 2 ^ e71 := by
    rw [sg_mul, Nat.mul_assoc, ← Nat.pow_add, show (i - min i j).toNat + (min i j + 1074).toNat = (i + 1074).toNat by omega]; exact h1
  have hy : sg t (q * 2 ^ (j - min i j).toNat) * (2 ^ (min i j + 1074).toNat : Nat) = v * 2 ^ e71 := by
    rw [sg_mul, Nat.mul_assoc, ← Nat.pow_add, show (j - min i j).toNat + (min i j + 1074).toNat = (j + 1074).toNat by omega]; exact h2
  generalize hA : sg s (m * 2 ^ (i - min i j).toNat) = A at *
  generalize hB : sg t (q * 2 ^ (j - min i j).toNat) = B at *
  have hT : (A + B) * (2 ^ (min i j + 1074).toNat : Nat) = (u + v) * 2 ^ e71 := by rw [Int.add_mul, hx, hy, Int.add_mul]
  have hpos : (0 : Int) < ((2 ^ (min i j + 1074).toNat : Nat) : Int) := Int.natCast_pos.2 (Nat.two_pow_pos _)
  have hpos' : (0 : Int) < (2 : Int) ^ e71 := Int.pow_pos (by decide)
  have hzero : A + B = 0 ↔ u + v = 0 := by
    constructor
    · intro h; rw [h, Int.zero_mul] at hT
      rcases Int.mul_eq_zero.1 hT.symm with h | h
      · exact h
      · omega
    · intro h; rw [h, Int.zero_mul] at hT
      rcases Int.mul_eq_zero.1 hT with h | h
      · exact h
      · omega
  have habs : (A + B).natAbs * 2 ^ (min i j + 1074).toNat = (u + v).natAbs * 2 ^ e71 := by
    have := congrArg Int.natAbs hT
    rw [Int.natAbs_mul, Int.natAbs_mul, Int.natAbs_natCast, Int.natAbs_pow, show (2 : Int).natAbs = 2 from rfl] at this
    rw [this]
  have hsign : A + B < 0 ↔ u + v < 0 := by
    constructor
    · intro h
      have h3 := Int.mul_neg_of_neg_of_pos h hpos
      rw [hT] at h3
      refine Decidable.byContradiction fun hn => ?_
      have := Int.mul_nonneg (show 0 ≤ u + v by omega) (Int.le_of_lt hpos')
      omega
    · intro h
      have h3 := Int.mul_neg_of_neg_of_pos h hpos'
      rw [← hT] at h3
      refine Decidable.byContradiction fun hn => ?_
      have := Int.mul_nonneg (show 0 ≤ A + B by omega) (Int.le_of_lt hpos)
      omega
  have hw := wr_to8 (wr_e8 (if A + B = 0 then s && t else decide (A + B < 0)) (mag := (A + B).natAbs) (place := min i j) (n := (u + v).natAbs) hb (fun _ => by omega) (fun _ => habs) (fun h => by have := hzero.2 (by omega); omega))
  have e : sg (if A + B = 0 then s && t else decide (A + B < 0)) (u + v).natAbs = u + v := by
    by_cases h0 : A + B = 0
    · have := hzero.1 h0
      rw [this]; simp [sg_zero]
    · rw [if_neg h0]
      by_cases hn : A + B < 0
      · have := hsign.1 hn
        rw [decide_eq_true hn]; unfold sg; simp; omega
      · have : ¬ u + v < 0 := fun h => hn (hsign.2 h)
        rw [decide_eq_false hn]; unfold sg; simp; omega
  rw [e] at hw
  exact hw
theorem sg_not (s : Bool) (n : Nat) : sg (!s) n = - sg s n := by unfold sg; cases s <;> simp
theorem add8 {a b : Nat} {n m : Int} (ha : E8 a n) (hb : E8 b m) (h : (n + m).natAbs < 9007199254740992) : E8 (fAr .add a b) (n + m) := by
  obtain ⟨x, i, e1, hi, _, _, h1⟩ := ha.read
  obtain ⟨y, j, e2, hj, _, _, h2⟩ := hb.read
  obtain ⟨d, hd, hr⟩ := sum8 hi hj h1 h2 h
  have : fAr .add a b = Ieee.double.write d := fAr_some (by
    unfold floatBits Ieee.Format.add
    rw [show FloatKind.format .f64 = Ieee.double from rfl, e1, e2, hd]; rfl)
  rw [this]; exact hr
theorem sub8 {a b : Nat} {n m : Int} (ha : E8 a n) (hb : E8 b m) (h : (n - m).natAbs < 9007199254740992) : E8 (fAr .sub a b) (n - m) := by
  obtain ⟨x, i, e1, hi, _, _, h1⟩ := ha.read
  obtain ⟨y, j, e2, hj, _, _, h2⟩ := hb.read
  obtain ⟨d, hd, hr⟩ := sum8 (t := !sgn b) (v := -m) hi hj h1 (by rw [sg_not, h2, Int.neg_mul]) (by rw [← Int.sub_eq_add_neg]; exact h)
  have : fAr .sub a b = Ieee.double.write d := fAr_some (by
    unfold floatBits Ieee.Format.sub
    rw [show FloatKind.format .f64 = Ieee.double from rfl, e1, e2, opp_number, hd]; rfl)
  rw [this, Int.sub_eq_add_neg]; exact hr
end Go.Fl
