/-
  A part of the proof: rules and plain facts. No condition.
-/
import Derived.Test.YtkmnhcjjaadmbaaIlQ4
set_option linter.all false
set_option linter.unusedSimpArgs false
set_option linter.unusedVariables false
open Go Go.IL
namespace Go.Fl

/-! Quotients of whole numbers. -/
/-- A whole number above nothing, as a double: its mantissa has 53 digits. -/
theorem toN {n : Nat} (h0 : n ≠ 0) (h : n < 1125899906842624) : ∃ m p, Ieee.double.read (floatOfInt .f64 (n : Int)) = .number false m p ∧ m * 2 ^ (p + 1074).toNat = n * 2 ^ e74 ∧ 4503599627370496 ≤ m ∧ m < 9007199254740992 ∧ -52 ≤ p ∧ p ≤ 0 := by
  have h8 := toF8 (n := (n : Int)) (by omega)
  obtain ⟨m, p, e, hp, h1, h2, hn⟩ := read_fin' h8.fin
  have hs : sgn (floatOfInt .f64 (n : Int)) = false := by
    have := h8.sg
    cases hs : sgn (floatOfInt .f64 (n : Int)) with
    | false => rfl
    | true => rw [hs] at this; unfold sg at this; simp only [if_true] at this; omega
  have hv := h8.V
  unfold V at hv
  rw [hs] at hv
  have h3 : m * 2 ^ (p + 1074).toNat = n * 2 ^ e74 := by
    rw [h1]
    have := congrArg Int.natAbs hv
    rw [sg_abs, Int.natAbs_mul] at this
    rw [this, show (8 * (n : Int)).natAbs = n * 2 ^ 3 by omega, Int.natAbs_pow, show (2 : Int).natAbs = 2 from rfl, Nat.mul_assoc, ← Nat.pow_add, show 3 + e71 = e74 by decide]
  have hlow : 4503599627370496 ≤ m := by
    refine Decidable.byContradiction fun hlt => ?_
    have hp' := hn (by omega)
    rw [hp', show ((-1074 : Int) + 1074).toNat = 0 by decide, Nat.pow_zero, Nat.mul_one] at h3
    have h5 : 2 ^ e74 ≤ n * 2 ^ e74 := Nat.le_mul_of_pos_left _ (Nat.pos_of_ne_zero h0)
    have h6 : 2 ^ 53 ≤ 2 ^ e74 := Nat.pow_le_pow_right (by decide) (by decide)
    omega
  have hp1 : -52 ≤ p := by
    refine Decidable.byContradiction fun hlt => ?_
    have e74' := e74_eq
    have h5 : m * 2 ^ (p + 1074).toNat < 2 ^ 53 * 2 ^ (e74 - 53) := by
      calc m * 2 ^ (p + 1074).toNat ≤ m * 2 ^ (e74 - 53) := Nat.mul_le_mul_left _ (Nat.pow_le_pow_right (by decide) (by omega))
        _ < 2 ^ 53 * 2 ^ (e74 - 53) := Nat.mul_lt_mul_of_pos_right (by omega) (Nat.two_pow_pos _)
    have h6 : 2 ^ e74 ≤ n * 2 ^ e74 := Nat.le_mul_of_pos_left _ (Nat.pos_of_ne_zero h0)
    rw [h3, ← Nat.pow_add, show 53 + (e74 - 53) = e74 by omega] at h5
    omega
  have hp2 : p ≤ 0 := by
    refine Decidable.byContradiction fun hlt => ?_
    have e74' := e74_eq
    have h5 : 2 ^ 52 * 2 ^ (e74 + 1) ≤ m * 2 ^ (p + 1074).toNat := Nat.mul_le_mul (by omega) (Nat.pow_le_pow_right (by decide) (by omega))
    have h6 : n * 2 ^ e74 < 2 ^ 50 * 2 ^ e74 := Nat.mul_lt_mul_of_pos_right (by omega) (Nat.two_pow_pos _)
    rw [h3, ← Nat.pow_add] at h5
    rw [← Nat.pow_add] at h6
    have h7 : 2 ^ (50 + e74) ≤ 2 ^ (52 + (e74 + 1)) := Nat.pow_le_pow_right (by decide) (by omega)
    omega
  exact ⟨m, p, by rw [e, hs], h3, hlow, h2, hp1, hp2⟩
theorem log2_52 {m : Nat} (h1 : 4503599627370496 ≤ m) (h2 : m < 9007199254740992) : m.log2 = 52 := by
  have h0 : m ≠ 0 := by omega
  have a := (Nat.log2_lt h0 (k := 53)).2 h2
  have b := (Nat.le_log2 h0 (k := 52)).2 h1
  omega
theorem quo_eq {a b m n : Nat} {p q : Int} (ha : Ieee.double.read a = .number false m p) (hb : Ieee.double.read b = .number false n q) (hm1 : 4503599627370496 ≤ m) (hm2 : m < 9007199254740992) (hn1 : 4503599627370496 ≤ n) (hn2 : n < 9007199254740992) :
    fAr .quo a b = Ieee.double.nearest false (2 * (m * 2 ^ 54 / n) + (m * 2 ^ 54 % n != 0).toNat) (p - q - 54 - 1) := fAr_some (by
  unfold floatBits Ieee.Format.div
  rw [show FloatKind.format .f64 = Ieee.double from rfl, ha, hb, fb]
  simp only [Ieee.Datum.quotient]
  rw [if_neg (by omega), log2_52 hm1 hm2, log2_52 hn1 hn2, show 52 + 2 + 52 - 52 = 54 from rfl, Nat.shiftLeft_eq]
  rfl)
/-- Nothing, by something. -/
theorem read0 : Ieee.double.read 0 = .number false 0 (-1074) := by decide +kernel
theorem quo_zero {b n : Nat} {q : Int} (hb : Ieee.double.read b = .number false n q) (hn : n ≠ 0) : fAr .quo 0 b = 0 := fAr_some (by
  unfold floatBits Ieee.Format.div
  rw [show FloatKind.format .f64 = Ieee.double from rfl, read0, hb]
  simp only [Ieee.Datum.quotient]
  rw [if_neg hn]
  simp only [Nat.zero_shiftLeft, Nat.zero_div, Nat.zero_mod]
  show some (Ieee.double.nearest _ 0 _) = _
  unfold Ieee.Format.nearest
  rw [if_pos rfl]; rfl)
/-- A product, by one of both. -/
theorem quo_exact {x y : Nat} (hx : x ≠ 0) (hy : y ≠ 0) (hx' : x < 65536) (hy' : y < 65536) : E8 (fAr .quo (floatOfInt .f64 ((x * y : Nat) : Int)) (floatOfInt .f64 (y : Int))) (8 * x) := by
  have hxy : x * y < 65536 * 65536 := Nat.mul_lt_mul'' hx' hy'
  obtain ⟨m, p, e, h1, hm1, hm2, hp1, hp2⟩ := toN (n := x * y) (Nat.mul_ne_zero hx hy) (by omega)
  obtain ⟨n, q, f, h2, hn1, hn2, hq1, hq2⟩ := toN (n := y) hy (by omega)
  have hp3 : p ≤ -20 := by
    refine Decidable.byContradiction fun hlt => ?_
    have e74' := e74_eq
    have h5 : 2 ^ 52 * 2 ^ (e74 - 19) ≤ m * 2 ^ (p + 1074).toNat := Nat.mul_le_mul (by omega) (Nat.pow_le_pow_right (by decide) (by omega))
    have h6 : x * y * 2 ^ e74 < 2 ^ 32 * 2 ^ e74 := Nat.mul_lt_mul_of_pos_right (by omega) (Nat.two_pow_pos _)
    rw [h1, ← Nat.pow_add] at h5
    rw [← Nat.pow_add] at h6
    have h7 : 2 ^ (32 + e74) ≤ 2 ^ (52 + (e74 - 19)) := Nat.pow_le_pow_right (by decide) (by omega)
    omega
  have hD : m * 2 ^ 54 = n * (x * 2 ^ (54 + q - p).toNat) := by
    apply Nat.eq_of_mul_eq_mul_right (Nat.two_pow_pos (p + 1074).toNat)
    calc m * 2 ^ 54 * 2 ^ (p + 1074).toNat = m * 2 ^ (p + 1074).toNat * 2 ^ 54 := by rw [Nat.mul_assoc, Nat.mul_assoc, Nat.mul_comm (2 ^ 54)]
      _ = x * (y * 2 ^ e74) * 2 ^ 54 := by rw [h1, ← Nat.mul_assoc x]
      _ = x * (n * 2 ^ (q + 1074).toNat) * 2 ^ 54 := by rw [h2]
      _ = n * x * (2 ^ (q + 1074).toNat * 2 ^ 54) := by rw [← Nat.mul_assoc x n, Nat.mul_comm x n, Nat.mul_assoc]
      _ = n * x * (2 ^ (54 + q - p).toNat * 2 ^ (p + 1074).toNat) := by rw [← Nat.pow_add, ← Nat.pow_add]; congr 2; omega
      _ = _ := by rw [Nat.mul_assoc n x, Nat.mul_assoc n, Nat.mul_assoc x]
  rw [quo_eq e f hm1 hm2 hn1 hn2, hD, Nat.mul_mod_right, Nat.mul_div_cancel_left _ (by omega)]
  have hw := wr_to8 (wr_e8 false (mag := 2 * (x * 2 ^ (54 + q - p).toNat) + (0 != 0).toNat) (place := p - q - 54 - 1) (n := 8 * x) (by omega) (fun _ => by omega) (fun _ => by
    rw [show (0 != 0 : Bool).toNat = 0 from rfl, Nat.add_zero, Nat.mul_assoc, Nat.mul_assoc, ← Nat.pow_add]
    rw [show (54 + q - p).toNat + (p - q - 54 - 1 + 1074).toNat = 2 + e71 by have := e71_eq; omega, Nat.pow_add, ← Nat.mul_assoc x, ← Nat.mul_assoc 2, show 2 * (x * 2 ^ 2) = 8 * x by omega]) (fun h => by omega))
  have e2 : sg false (8 * x) = 8 * (x : Int) := by unfold sg; simp
  rw [e2] at hw
  exact hw
/-- Twice as much, in twice the time. -/
theorem toN_double {n m m' : Nat} {p p' : Int} (h1 : m * 2 ^ (p + 1074).toNat = n * 2 ^ e74) (h2 : m' * 2 ^ (p' + 1074).toNat = 2 * n * 2 ^ e74) (hm1 : 4503599627370496 ≤ m) (hm2 : m < 9007199254740992) (hm1' : 4503599627370496 ≤ m') (hm2' : m' < 9007199254740992) (hp : -52 ≤ p) (hp' : -52 ≤ p') : p' = p + 1 ∧ m' = m := by
  have h3 : m' * 2 ^ (p' + 1074).toNat = m * 2 ^ (p + 1 + 1074).toNat := by
    rw [h2, show (p + 1 + 1074).toNat = (p + 1074).toNat + 1 by omega, Nat.pow_succ _ (p + 1074).toNat, ← Nat.mul_assoc, h1, Nat.mul_assoc 2, Nat.mul_comm 2]
  have h4 : (m' * 2 ^ (p' + 1074).toNat).log2 = (m * 2 ^ (p + 1 + 1074).toNat).log2 := by rw [h3]
  rw [log2_mul_pow (by omega), log2_mul_pow (by omega), log2_52 hm1 hm2, log2_52 hm1' hm2'] at h4
  have h5 : p' = p + 1 := by omega
  rw [h5] at h3
  exact ⟨h5, Nat.eq_of_mul_eq_mul_right (Nat.two_pow_pos _) h3⟩
theorem quo_double {x y : Nat} (hx : x ≠ 0) (hy : y ≠ 0) (hx' : x < 65536) (hy' : y < 65536) : fAr .quo (floatOfInt .f64 ((2 * x : Nat) : Int)) (floatOfInt .f64 ((2 * y : Nat) : Int)) = fAr .quo (floatOfInt .f64 (x : Int)) (floatOfInt .f64 (y : Int)) := by
  obtain ⟨m, p, e, h1, hm1, hm2, hp1, _⟩ := toN (n := x) hx (by omega)
  obtain ⟨n, q, f, h2, hn1, hn2, hq1, _⟩ := toN (n := y) hy (by omega)
  obtain ⟨m', p', e', h1', hm1', hm2', hp1', _⟩ := toN (n := 2 * x) (by omega) (by omega)
  obtain ⟨n', q', f', h2', hn1', hn2', hq1', _⟩ := toN (n := 2 * y) (by omega) (by omega)
  obtain ⟨rfl, rfl⟩ := toN_double h1 h1' hm1 hm2 hm1' hm2' hp1 hp1'
  obtain ⟨rfl, rfl⟩ := toN_double h2 h2' hn1 hn2 hn1' hn2' hq1 hq1'
  rw [quo_eq e f hm1 hm2 hn1 hn2, quo_eq e' f' hm1 hm2 hn1 hn2]
  congr 1; omega
/-- By nothing. -/
theorem quo_by0 {a m : Nat} {s : Bool} {p : Int} (ha : Ieee.double.read a = .number s m p) (hm : m ≠ 0) : Wr (fAr .quo a 0) s 0 ∨ (rung (fAr .quo a 0) = INF ∧ sgn (fAr .quo a 0) = s) := by
  have h1 : fAr .quo a 0 = Ieee.double.word s 9218868437227405312 := fAr_some (by
    unfold floatBits Ieee.Format.div
    rw [show FloatKind.format .f64 = Ieee.double from rfl, read0, ha]
    simp only [Ieee.Datum.quotient]
    rw [if_pos trivial, if_neg hm]
    show some (Ieee.double.word (s ^^ false) Ieee.double.infRung) = _
    rw [ir]; cases s <;> rfl)
  right
  rw [h1]
  exact ⟨rung_word s (by decide), sgn_word s (by decide)⟩
/-- The nearest word of a great whole number with a bit for the rest. -/
theorem nearest_near {mag : Nat} {place : Int} (h1 : 2 ^ 54 ≤ mag) (h2 : mag < 2 ^ 57) (hp : -1000 ≤ place) (hp' : place ≤ 800) :
    ∃ G : Nat, rung (Ieee.double.nearest false mag place) < INF ∧ sgn (Ieee.double.nearest false mag place) = false ∧ mg (rung (Ieee.double.nearest false mag place)) = G * 2 ^ (place + 1074).toNat ∧ G * 2 ^ 53 ≤ mag * (2 ^ 53 + 1) ∧ mag * (2 ^ 53 - 1) ≤ G * 2 ^ 53 ∧ Ieee.double.nearest false mag place < 18446744073709551616 := by
  have h0 : mag ≠ 0 := by intro h; rw [h] at h1; exact absurd h1 (by decide)
  have hL1 : 54 ≤ mag.log2 := (Nat.le_log2 h0).2 h1
  have hL2 : mag.log2 < 57 := (Nat.log2_lt h0).2 h2
  have hLe : 2 ^ mag.log2 ≤ mag := (Nat.le_log2 h0).1 (Nat.le_refl _)
  have hLl : mag < 2 ^ (mag.log2 + 1) := (Nat.log2_lt h0).1 (Nat.lt_succ_self _)
  obtain ⟨d, hd⟩ : ∃ d, mag.log2 = 52 + d := ⟨mag.log2 - 52, by omega⟩
  have hcut := cut_near false mag d (by omega)
  have hlt := nearest_lt64 false mag place
  generalize hk : Ieee.Toward.even.cut false mag d = k at hcut
  have e1 : Ieee.double.nearest false mag place = Ieee.double.word false (min ((place + d - -1074).toNat * 4503599627370496 + k) 9218868437227405312) := by
    unfold Ieee.Format.nearest
    rw [if_neg h0, fb, lp, bn, ir]
    simp only
    rw [show max (place + ((mag.log2 : Nat) : Int) - (52 : Nat)) (-1074) = place + d by omega, show (place - (place + (d : Int))).toNat = 0 by omega, show (place + (d : Int) - place).toNat = d by omega, Nat.shiftLeft_zero, hk]
  rw [hd, Nat.pow_add] at hLe
  rw [hd, show 52 + d + 1 = 53 + d by omega, Nat.pow_add] at hLl
  have hpos : 0 < 2 ^ d := Nat.two_pow_pos d
  have hk1 : 4503599627370496 ≤ k := by
    -- 2 mag ≤ 2 k g + g, 2 ^ 52 g ≤ mag
    refine Decidable.byContradiction fun hn => ?_
    have : (k + 1) * 2 ^ d ≤ 2 ^ 52 * 2 ^ d := Nat.mul_le_mul_right _ (by omega)
    rw [Nat.add_mul, Nat.one_mul] at this
    omega
  have hk2 : k ≤ 9007199254740992 := by
    refine Decidable.byContradiction fun hn => ?_
    have : (2 ^ 53 + 1) * 2 ^ d ≤ k * 2 ^ d := Nat.mul_le_mul_right _ (by omega)
    rw [Nat.add_mul, Nat.one_mul] at this
    omega
  have hq : (place + d - -1074).toNat ≤ 1974 := by omega
  have hfin : (place + d - -1074).toNat * 4503599627370496 + k < 9218868437227405312 :=
    Nat.lt_of_le_of_lt (Nat.add_le_add (Nat.mul_le_mul_right 4503599627370496 hq) hk2) (by decide)
  have hj := @mg_join (place + d - -1074).toNat k (.inr ⟨hk1, hk2⟩)
  rw [Nat.min_eq_left (Nat.le_of_lt hfin)] at e1
  refine ⟨k * 2 ^ d, ?_, ?_, ?_, ?_, ?_, hlt⟩
  · rw [e1, rung_word _ (Nat.lt_trans hfin (by decide))]; exact hfin
  · rw [e1, sgn_word _ (Nat.lt_trans hfin (by decide))]
  · rw [e1, rung_word _ (Nat.lt_trans hfin (by decide)), hj, Nat.mul_assoc, ← Nat.pow_add]
    congr 2; clear hfin hj e1; omega
  · clear hfin hj e1 hk hlt
    generalize k * 2 ^ d = G at *
    generalize 2 ^ d = g at *
    omega
  · clear hfin hj e1 hk hlt
    generalize k * 2 ^ d = G at *
    generalize 2 ^ d = g at *
    omega
theorem ar1' {D n x c : Nat} (hc : 1 ≤ c) (h : n * (4 * c) ≤ D) (k : x * (4 * c) ≤ (2 * D + n) * (4 * c + 1)) : x * c ≤ 2 * D * (c + 1) := by
  rw [Nat.mul_left_comm] at h k
  rw [Nat.mul_add, Nat.add_mul, Nat.mul_left_comm (2 * D), Nat.mul_left_comm n, Nat.mul_one, Nat.mul_assoc 2 D] at k
  rw [Nat.mul_add, Nat.mul_one, Nat.mul_assoc 2 D c]
  have : n * 1 ≤ n * c := Nat.mul_le_mul_left _ hc
  omega
theorem ar2' {D n x c : Nat} (hc : 1 ≤ c) (h : n * (4 * c) ≤ D) (k : (2 * D - n) * (4 * c - 1) ≤ x * (4 * c)) : 2 * D * (c - 1) ≤ x * c := by
  obtain ⟨c', rfl⟩ : ∃ c', c = c' + 1 := ⟨c - 1, by omega⟩
  have hn : n ≤ D := Nat.le_trans (Nat.le_mul_of_pos_right n (by omega)) h
  obtain ⟨E, hE⟩ : ∃ E, 2 * D = E + n := ⟨2 * D - n, by omega⟩
  rw [hE, Nat.add_sub_cancel, show 4 * (c' + 1) - 1 = 4 * c' + 3 by omega] at k
  rw [hE, Nat.add_sub_cancel]
  rw [Nat.mul_left_comm] at h
  rw [Nat.mul_left_comm x, Nat.mul_add E, Nat.mul_left_comm E, Nat.mul_add x, Nat.mul_one] at k
  rw [Nat.mul_add x, Nat.mul_one, Nat.add_mul]
  rw [Nat.mul_add n, Nat.mul_one] at h
  omega
theorem ar1 {D n x : Nat} (h : n * 2 ^ 53 ≤ D) (k : x * 2 ^ 53 ≤ (2 * D + n) * (2 ^ 53 + 1)) : x * 2 ^ 51 ≤ 2 * D * (2 ^ 51 + 1) := ar1' (by decide) h k
theorem ar2 {D n x : Nat} (h : n * 2 ^ 53 ≤ D) (k : (2 * D - n) * (2 ^ 53 - 1) ≤ x * 2 ^ 53) : 2 * D * (2 ^ 51 - 1) ≤ x * 2 ^ 51 := ar2' (by decide) h k
theorem ar3 {m a b B C W : Nat} (hb : b = 2 * a) (hW : W = b * C) : 2 * (m * a) * (B * C) = m * B * W := by subst hb hW; ac_rfl
theorem ar5 {R y c d G n U W D x : Nat} (hu : 0 < W) (hG : R * y * W = G * n * U) (hX : 2 * D * U = x * W * W) (k : G * n * c ≤ 2 * D * d) : R * y * c ≤ x * d * W := by
  apply Nat.le_of_mul_le_mul_right _ hu
  calc R * y * c * W = R * y * W * c := by ac_rfl
    _ = G * n * c * U := by rw [hG]; ac_rfl
    _ ≤ 2 * D * d * U := Nat.mul_le_mul_right _ k
    _ = 2 * D * U * d := by ac_rfl
    _ = x * W * W * d := by rw [hX]
    _ = x * d * W * W := by ac_rfl
theorem ar6 {R y c d G n U W D x : Nat} (hu : 0 < W) (hG : R * y * W = G * n * U) (hX : 2 * D * U = x * W * W) (k : 2 * D * d ≤ G * n * c) : x * d * W ≤ R * y * c := by
  apply Nat.le_of_mul_le_mul_right _ hu
  calc x * d * W * W = x * W * W * d := by ac_rfl
    _ = 2 * D * U * d := by rw [hX]
    _ = 2 * D * d * U := by ac_rfl
    _ ≤ G * n * c * U := Nat.mul_le_mul_right _ k
    _ = G * n * U * c := by ac_rfl
    _ = R * y * W * c := by rw [hG]
    _ = R * y * c * W := by ac_rfl
theorem ar4 {D n r Q st : Nat} (hD : n * Q + r = D) (hr : r < n) (hst : st = 0 ∧ r = 0 ∨ st = 1 ∧ r ≠ 0) : (2 * Q + st) * n ≤ 2 * D + n ∧ 2 * D ≤ (2 * Q + st) * n + n := by
  rw [Nat.add_mul, Nat.mul_assoc, Nat.mul_comm Q n]
  rcases hst with ⟨h, h'⟩ | ⟨h, h'⟩
  · rw [h, Nat.zero_mul]; omega
  · rw [h, Nat.one_mul]; omega
/-- A quotient is near: to one part in 2 ^ 51. -/
theorem quo_near {x y : Nat} (hx : x ≠ 0) (hy : y ≠ 0) (hx' : x < 4294967296) (hy' : y < 4294967296) : ∃ R : Nat, Wr (fAr .quo (floatOfInt .f64 (x : Int)) (floatOfInt .f64 (y : Int))) false R ∧ R * y * 2 ^ 51 ≤ x * (2 ^ 51 + 1) * 2 ^ e74 ∧ x * (2 ^ 51 - 1) * 2 ^ e74 ≤ R * y * 2 ^ 51 := by
  obtain ⟨m, p, e, h1, hm1, hm2, hp1, hp2⟩ := toN (n := x) hx (by omega)
  obtain ⟨n, q, f, h2, hn1, hn2, hq1, hq2⟩ := toN (n := y) hy (by omega)
  rw [quo_eq e f hm1 hm2 hn1 hn2]
  have hn0 : 0 < n := by omega
  obtain ⟨D, hDD⟩ : ∃ D, m * 2 ^ 54 = D := ⟨_, rfl⟩
  rw [hDD]
  have hD := Nat.div_add_mod D n
  have hr := Nat.mod_lt D hn0
  have hQ1 : 2 ^ 53 ≤ D / n := (Nat.le_div_iff_mul_le hn0).2 (by omega)
  have hQ2 : D / n < 2 ^ 55 := (Nat.div_lt_iff_lt_mul hn0).2 (by omega)
  have hst : (D % n != 0).toNat = 0 ∧ D % n = 0 ∨ (D % n != 0).toNat = 1 ∧ D % n ≠ 0 := by
    by_cases h : D % n = 0
    · exact .inl ⟨by rw [h]; rfl, h⟩
    · exact .inr ⟨by rw [bne_iff_ne.2 h]; rfl, h⟩
  obtain ⟨st, hst'⟩ : ∃ st, (D % n != 0).toNat = st := ⟨_, rfl⟩
  obtain ⟨Q, hQQ⟩ : ∃ Q, D / n = Q := ⟨_, rfl⟩
  obtain ⟨r, hRR⟩ : ∃ r, D % n = r := ⟨_, rfl⟩
  rw [hst'] at hst ⊢
  rw [hQQ] at hQ1 hQ2 hD ⊢
  rw [hRR] at hst hr hD
  have hs1 : st ≤ 1 := by rcases hst with h | h <;> omega
  obtain ⟨G, g1, g2, g3, g4, g5, g6⟩ := nearest_near (mag := 2 * Q + st) (place := p - q - 54 - 1) (by omega) (by omega) (by omega) (by omega)
  refine ⟨_, ⟨g1, g2, rfl, g6⟩, ?_⟩
  rw [g3]
  -- the whole number times n is near to twice D
  have hmn := ar4 hD hr hst
  have hnD : n * 2 ^ 53 ≤ D := by
    have : n * 2 ^ 53 ≤ n * Q := Nat.mul_le_mul_left _ hQ1
    exact Nat.le_trans this (by rw [← hD]; exact Nat.le_add_right _ _)
  have k1 : G * n * 2 ^ 53 ≤ (2 * D + n) * (2 ^ 53 + 1) := by
    calc G * n * 2 ^ 53 = G * 2 ^ 53 * n := by rw [Nat.mul_assoc, Nat.mul_comm n, ← Nat.mul_assoc]
      _ ≤ (2 * Q + st) * (2 ^ 53 + 1) * n := Nat.mul_le_mul_right _ g4
      _ = (2 * Q + st) * n * (2 ^ 53 + 1) := by rw [Nat.mul_assoc, Nat.mul_comm _ n, ← Nat.mul_assoc]
      _ ≤ _ := Nat.mul_le_mul_right _ hmn.1
  have k2 : (2 * D - n) * (2 ^ 53 - 1) ≤ G * n * 2 ^ 53 := by
    calc (2 * D - n) * (2 ^ 53 - 1) ≤ (2 * Q + st) * n * (2 ^ 53 - 1) := Nat.mul_le_mul_right _ (by omega)
      _ = (2 * Q + st) * (2 ^ 53 - 1) * n := by rw [Nat.mul_assoc, Nat.mul_comm n, ← Nat.mul_assoc]
      _ ≤ G * 2 ^ 53 * n := Nat.mul_le_mul_right _ g5
      _ = _ := by rw [Nat.mul_assoc, Nat.mul_comm _ n, ← Nat.mul_assoc]
  have hGR : ∀ R : Nat, R = G * 2 ^ (p - q - 54 - 1 + 1074).toNat → R * y * 2 ^ e74 = G * n * 2 ^ ((p + 1074).toNat + (e74 - 55)) := by
    intro R hR
    calc R * y * 2 ^ e74 = G * 2 ^ (p - q - 54 - 1 + 1074).toNat * (n * 2 ^ (q + 1074).toNat) := by rw [Nat.mul_assoc, h2, hR]
      _ = G * n * (2 ^ (p - q - 54 - 1 + 1074).toNat * 2 ^ (q + 1074).toNat) := Nat.mul_mul_mul_comm _ _ _ _
      _ = _ := by rw [← Nat.pow_add]; congr 2; have := e74_eq; omega
  have k3 := ar1 hnD k1
  have k4 := ar2 hnD k2
  -- into the unit
  have hG := hGR _ rfl
  have hX : 2 * D * 2 ^ ((p + 1074).toNat + (e74 - 55)) = x * 2 ^ e74 * 2 ^ e74 := by
    rw [← hDD, ← h1, Nat.pow_add]
    exact ar3 (b := 2 ^ 55) (by decide) (by rw [← Nat.pow_add, show 55 + (e74 - 55) = e74 by decide])
  exact ⟨ar5 (Nat.two_pow_pos e74) hG hX k3, ar6 (Nat.two_pow_pos e74) hG hX k4⟩
end Go.Fl
