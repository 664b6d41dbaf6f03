/-
  A part of the proof: rules and plain facts. No condition.
-/
import Derived.Test.YtkmnhcjjaadmbaaIlQ5
import Derived.Test.YtkmnhcjjaadmbaaIlA27D
import Derived.KernelRfl
set_option linter.all false
set_option linter.unusedSimpArgs false
set_option linter.unusedVariables false
open Go Go.IL Go.Fl
namespace Go.Fn

/-! The gauge, plainly. -/
theorem awake27 : sennitlaw27_awake = some true := by kernel_rfl

theorem isnan_eq (a : Nat) : math_IsNaN a = some (isNan a) := by unfold math_IsNaN; simp only [bnd_d, neq_self]
theorem nan_eq (a : Nat) : sennitref27_nan a = some (isNan a) := by unfold sennitref27_nan; simp only [bnd_d, neq_self]
theorem rung_lt (a : Nat) : rung a < 9223372036854775808 := Nat.mod_lt _ (by decide)
theorem rung_rung (a : Nat) : rung (rung a) = rung a := Nat.mod_mod _ _
theorem sgn_rung (a : Nat) : sgn (rung a) = false := by
  unfold sgn; rw [Nat.div_eq_of_lt (rung_lt a)]; rfl
theorem K_rung (a : Nat) : K (rung a) = rung a := by unfold K; rw [sgn_rung, rung_rung]; simp
theorem nan_rung (a : Nat) : isNan (rung a) = isNan a := by rw [nan_iff, nan_iff, rung_rung]
theorem fbits_ok {a : Nat} (h : isNan a = false) : fbits a = some (a : Int) := by unfold fbits; rw [h]; rfl
theorem K_great : K 9218868437227405311 = 9218868437227405311 := by decide +kernel
theorem K_less : K 18442240474082181119 = -9218868437227405311 := by decide +kernel
theorem K_zero : K 0 = 0 := by decide +kernel
theorem nn_great : isNan 9218868437227405311 = false := by decide +kernel
theorem nn_less : isNan 18442240474082181119 = false := by decide +kernel
theorem nn_zero : isNan 0 = false := by decide +kernel
theorem anot63 (a : Nat) : anotI .u64 (a : Int) 9223372036854775808 = (rung a : Int) := by
  unfold anotI
  have h1 : ∀ x : BitVec 64, (x &&& ~~~(BitVec.ofInt 64 9223372036854775808)).toNat = x.toNat % 9223372036854775808 := by
    intro x
    have : ~~~(BitVec.ofInt 64 9223372036854775808) = BitVec.ofNat 64 (2 ^ 63 - 1) := by decide
    rw [this, BitVec.toNat_and, BitVec.toNat_ofNat, Nat.mod_eq_of_lt (by decide), Nat.and_two_pow_sub_one_eq_mod]
  show IntKind.wrap .u64 ((BitVec.ofInt 64 (a : Int)) &&& ~~~(BitVec.ofInt 64 9223372036854775808)).toNat = _
  rw [h1, BitVec.toNat_ofInt]
  have h2 : ((a : Int) % ((2 ^ 64 : Nat) : Int)).toNat % 9223372036854775808 = rung a := by
    unfold rung; omega
  rw [h2, wU64 (by omega) (by have := rung_lt a; omega)]
theorem abs_eq {a : Nat} (h : isNan a = false) : math_Abs a = some (rung a) := by
  unfold math_Abs
  simp only [fbits_ok h, bno_s, bnd_d, anot63, Int.toNat_natCast]
  rw [fcan_of (by rw [nan_rung]; exact h)]
theorem isinf_eq {a : Nat} (h : isNan a = false) : math_IsInf a 0 = some (decide (rung a = INF)) := by
  unfold math_IsInf
  have hr := not_nan h
  simp only [bnd_d, decide_true, cond_true, abs_eq h, bno_s]
  rw [gtr_K (by rw [nan_rung]; exact h) nn_great, K_rung, K_great]
  congr 1; unfold INF at *
  by_cases he : rung a = 9218868437227405312
  · rw [decide_eq_true he, he]; rfl
  · rw [decide_eq_false he]; apply decide_eq_false; omega
theorem wrap_neg {n : Int} (h0 : 9223372036854775808 ≤ n) (h1 : n < 18446744073709551616) : IntKind.wrap .i64 n = n - 18446744073709551616 := by
  rw [IntKind.wrap_i64]; omega
theorem signbit_eq {a : Nat} (h : isNan a = false) (hl : a < 18446744073709551616) : math_Signbit a = some (sgn a) := by
  unfold math_Signbit
  simp only [fbits_ok h, bno_s, bnd_d]
  congr 1; unfold sgn
  by_cases h1 : a < 9223372036854775808
  · rw [w64 (by omega) (by omega), Nat.div_eq_of_lt h1]; apply decide_eq_false; omega
  · rw [wrap_neg (by omega) (by omega), show a / 9223372036854775808 = 1 by omega]; apply decide_eq_true; omega
def kindOf (a : Nat) : Int := if isNan a then 0 else if rung a = INF then (if sgn a then 1 else 6) else if rung a = 0 then (if sgn a then 3 else 4) else (if sgn a then 2 else 5)
theorem K_eq0 {a : Nat} : K a = 0 ↔ rung a = 0 := by unfold K; split <;> omega
theorem kind_eq {a : Nat} (hl : a < 18446744073709551616) : gauge_Kind a = some (kindOf a) := by
  unfold gauge_Kind kindOf
  simp only [isnan_eq, bno_s]
  cases h : isNan a with
  | true => rfl
  | false =>
    have hj : ∀ v, gauge_Kind_J0 a v = some (if sgn a then IntKind.wrap .i64 (7 - v) else v) := by
      intro v
      unfold gauge_Kind_J0
      simp only [signbit_eq h hl, bno_s, bnd_d]
      cases sgn a <;> rfl
    simp only [isinf_eq h, bno_s, cond_false, bnd_d, neq_K h nn_zero, K_zero]
    by_cases h1 : rung a = INF
    · rw [decide_eq_true h1, cond_true, hj, if_pos h1]; cases sgn a <;> rfl
    · rw [decide_eq_false h1, cond_false, if_neg h1]
      by_cases h2 : rung a = 0
      · rw [decide_eq_true (K_eq0.2 h2), Bool.not_true, cond_false, hj, if_pos h2]; cases sgn a <;> rfl
      · rw [decide_eq_false (fun e => h2 (K_eq0.1 e)), Bool.not_false, cond_true, hj, if_neg h2]; cases sgn a <;> rfl
theorem refkind_eq {a : Nat} (hl : a < 18446744073709551616) : sennitref27_Kind a = some (kindOf a) := by
  unfold sennitref27_Kind kindOf
  simp only [nan_eq, bno_s]
  cases h : isNan a with
  | true => rfl
  | false =>
    have hr := not_nan h
    simp only [cond_false, bnd_d, lss_K h nn_less, lss_K h nn_zero, gtr_K h nn_great, gtr_K h nn_zero, K_zero, K_less, K_great, fbits_ok h, bno_s]
    simp only [Bool.false_eq_true, if_false]
    unfold K
    cases hs : sgn a with
    | true =>
      simp only [if_true]
      by_cases h1 : rung a = INF
      · rw [if_pos h1, decide_eq_true (by unfold INF at h1; omega), cond_true]
      · rw [if_neg h1, decide_eq_false (by unfold INF at h1 hr; omega), cond_false]
        by_cases h2 : rung a = 0
        · rw [if_pos h2, decide_eq_false (by omega), cond_false, decide_eq_false (by omega), cond_false, decide_eq_false (by omega), cond_false, decide_eq_false (by
            intro e
            have e0 : a = 0 := by omega
            rw [e0] at hs; exact absurd hs (by decide)), Bool.not_false, cond_true]
        · rw [if_neg h2, decide_eq_true (by omega), cond_true]
    | false =>
      simp only [Bool.false_eq_true, if_false]
      rw [decide_eq_false (by omega), cond_false, decide_eq_false (by omega), cond_false]
      by_cases h1 : rung a = INF
      · rw [if_pos h1, decide_eq_true (by unfold INF at h1; omega), cond_true]
      · rw [if_neg h1, decide_eq_false (by unfold INF at h1 hr; omega), cond_false]
        by_cases h2 : rung a = 0
        · have e0 : a = 0 := by
            have hs' := hs
            unfold sgn at hs'; unfold rung at h2
            have : ¬ a / 9223372036854775808 % 2 = 1 := by simpa using hs'
            omega
          rw [if_pos h2, decide_eq_false (by omega), cond_false, decide_eq_true (by omega)]; rfl
        · rw [if_neg h2, decide_eq_true (by omega), cond_true]
def bitsOf (a : Nat) : Int := if isNan a then 9221120237041090561 else a
theorem bits_eq (a : Nat) : gauge_Bits a = some (bitsOf a) := by
  unfold gauge_Bits bitsOf
  simp only [isnan_eq, bno_s]
  cases h : isNan a with
  | true => rfl
  | false => simp [fbits_ok h, bno_s]
theorem refbits_eq (a : Nat) : sennitref27_Bits a = some (bitsOf a) := by
  unfold sennitref27_Bits bitsOf
  simp only [nan_eq, bno_s]
  cases h : isNan a with
  | true => rfl
  | false => simp [fbits_ok h, bno_s]
theorem same_eq (a b : Nat) : gauge_Same a b = some (decide (bitsOf a = bitsOf b)) := by
  unfold gauge_Same; simp only [bits_eq, bno_s, bnd_d]
def cmpOf (a b : Nat) : Int := if isNan a then (if isNan b then 0 else -1) else if isNan b then 1 else if K a < K b then -1 else if K b < K a then 1 else 0
theorem compare_eq (a b : Nat) : gauge_Compare a b = some (cmpOf a b) := by
  unfold gauge_Compare gauge_Compare_J0 cmpOf
  simp only [isnan_eq, bnd_d, bno_s, gd]
  cases ha : isNan a with
  | true =>
    rw [cmp_nan1 ha]
    simp only [cmp_nan1 ha]
    cases hb : isNan b <;> simp [bno_s]
  | false =>
    cases hb : isNan b with
    | true => simp [bno_s, bnd_d, gd, cmp_nan2 hb]
    | false =>
      rw [lss_K ha hb, gtr_K ha hb]
      by_cases h1 : K a < K b
      · simp [bno_s, bnd_d, gd, h1]
      · by_cases h2 : K b < K a <;> simp [bno_s, bnd_d, gd, h1, h2]
theorem refcompare_eq (a b : Nat) : sennitref27_Compare a b = some (cmpOf a b) := by
  unfold sennitref27_Compare cmpOf
  simp only [nan_eq, bnd_d, bno_s, gd]
  cases ha : isNan a with
  | true => cases hb : isNan b <;> simp [bno_s]
  | false =>
    cases hb : isNan b with
    | true => simp [bno_s, bnd_d, gd, cmp_nan2 hb]
    | false =>
      rw [lss_K ha hb, gtr_K ha hb]
      by_cases h1 : K a < K b
      · simp [bno_s, bnd_d, gd, h1]
      · by_cases h2 : K b < K a <;> simp [bno_s, bnd_d, gd, h1, h2]
/-- A word as the functions see it. -/
def Cn (a : Nat) : Prop := a < 18446744073709551616 ∧ (isNan a = true → a = fnan .f64)
theorem cn_fcan {n : Nat} (h : n < 18446744073709551616) : Cn (fcan .f64 n) := by
  cases hn : isNan n with
  | true => rw [fcan_nan hn]; exact ⟨by decide, fun _ => rfl⟩
  | false => rw [fcan_of hn]; exact ⟨h, fun h => by rw [hn] at h; cases h⟩
theorem floatBits_lt {op : BinOp} {x y r : Nat} (h : floatBits op .f64 x y = some r) : r < 18446744073709551616 := by
  have hw : (2 : Nat) ^ Ieee.double.width = 18446744073709551616 := by decide +kernel
  unfold floatBits at h
  rw [← hw]
  split at h
  · exact Ieee.Format.add_lt _ h
  · exact Ieee.Format.sub_lt _ h
  · exact Ieee.Format.mul_lt _ h
  · exact Ieee.Format.div_lt _ h
  · cases h
theorem cn_fAr (op : BinOp) (x y : Nat) : Cn (fAr op x y) := by
  unfold fAr
  cases h : floatBits op .f64 x y with
  | none => exact ⟨by decide, fun _ => rfl⟩
  | some r => exact ⟨floatBits_lt h, fun hn => by have := bits_ok h; simp only [Option.getD_some] at hn; rw [this] at hn; cases hn⟩
theorem infinite_eq (a : Nat) : sennitref27_infinite a = some (decide (rung a = INF)) := by
  unfold sennitref27_infinite
  simp only [bnd_d]
  cases h : isNan a with
  | true =>
    rw [cmp_nan1 h, cmp_nan1 h, decide_eq_false (by have := is_nan h; omega)]; rfl
  | false =>
    have hr := not_nan h
    rw [gtr_K h nn_great, lss_K h nn_less, K_great, K_less]
    congr 1; unfold K INF at *
    by_cases h1 : rung a = 9218868437227405312
    · rw [decide_eq_true h1, h1]; cases sgn a <;> rfl
    · rw [decide_eq_false h1]
      split
      · rw [decide_eq_false (by omega), decide_eq_false (by omega)]; rfl
      · rw [decide_eq_false (by omega), decide_eq_false (by omega)]; rfl
theorem ar_nan1 {op : BinOp} {x y : Nat} (h : isNan x = true) : fAr op x y = fnan .f64 := by unfold fAr; rw [bits_nan1 h]; rfl
theorem ar_nan2 {op : BinOp} {x y : Nat} (h : isNan y = true) : fAr op x y = fnan .f64 := by unfold fAr; rw [bits_nan2 h]; rfl
theorem sub_fin {x y : Nat} (hx : rung x < INF) (hy : rung y < INF) : isNan (fAr .sub x y) = false := by
  obtain ⟨m, p, e, _⟩ := read_fin hx
  obtain ⟨n, q, f, _⟩ := read_fin hy
  have : ∃ r, floatBits .sub .f64 x y = some r := by
    unfold floatBits Ieee.Format.sub
    rw [show FloatKind.format .f64 = Ieee.double from rfl, e, f, opp_number]
    exact ⟨_, rfl⟩
  obtain ⟨r, hr⟩ := this
  rw [fAr_some hr]; exact bits_ok hr
theorem sub_inf {x y : Nat} (hx : rung x = INF) (hy : rung y < INF) : rung (fAr .sub x y) = INF := by
  obtain ⟨n, q, f, _⟩ := read_fin hy
  have : floatBits .sub .f64 x y = some (Ieee.double.word (sgn x) 9218868437227405312) := by
    unfold floatBits Ieee.Format.sub
    rw [show FloatKind.format .f64 = Ieee.double from rfl, read_inf hx, f, opp_number]
    show some (Ieee.double.word (sgn x) Ieee.double.infRung) = _
    rw [ir]
  rw [fAr_some this]; exact rung_word _ (by decide)
def smo (x y : Nat) : Nat := if isNan x then y else if isNan y then x else if rung x = INF ∨ rung y = INF then y else if rung (fAr .sub y x) = INF then y else fAr .add x (fAr .quo (fAr .sub y x) 4620693217682128896)
theorem refsmooth_eq (x y : Nat) : sennitref27_Smooth x y = some (smo x y) := by
  unfold sennitref27_Smooth smo
  simp only [nan_eq, bno_s, infinite_eq, bnd_d, gd]
  cases h1 : isNan x with
  | true => rfl
  | false =>
    cases h2 : isNan y with
    | true => rfl
    | false =>
      by_cases h3 : rung x = INF
      · simp [bno_s, bnd_d, gd, h3]
      · by_cases h4 : rung y = INF
        · simp [bno_s, bnd_d, gd, h3, h4]
        · by_cases h5 : rung (fAr .sub y x) = INF <;> simp [bno_s, bnd_d, gd, h3, h4, h5]
theorem smooth_eq {x y : Nat} (hx : Cn x) (hy : Cn y) : gauge_Smooth x y = some (smo x y) := by
  unfold gauge_Smooth smo
  simp only [isnan_eq, bno_s, bnd_d]
  cases h2 : isNan y with
  | true =>
    cases h1 : isNan x with
    | true => simp [bno_s, bnd_d, gd, hx.2 h1, hy.2 h2]
    | false => rfl
  | false =>
    cases h1 : isNan x with
    | true =>
      rw [ar_nan2 h1]
      simp [bno_s, bnd_d, gd, nan_fnan, gd]
    | false =>
      have hx' := not_nan h1
      have hy' := not_nan h2
      simp only [cond_false, Bool.false_eq_true, if_false]
      cases h3 : isNan (fAr .sub y x) with
      | true =>
        -- only where x is infinite
        have : ¬ rung x < INF := fun hf => by
          by_cases hy2 : rung y < INF
          · rw [sub_fin hy2 hf] at h3; cases h3
          · have := sub_inf (x := y) (by omega) hf
            rw [nan_iff, this] at h3; exact absurd h3 (by decide)
        have hxi : rung x = INF := by omega
        simp [bno_s, bnd_d, gd, gd, hxi]
      | false =>
        simp only [isinf_eq h3, isinf_eq h1, gd_ff, gd_tt, show ((false == false) = true) from rfl, bno_s, Bool.false_or]
        by_cases h4 : rung (fAr .sub y x) = INF
        · simp [bno_s, bnd_d, gd, h4, gd]
        · rw [decide_eq_false h4]
          simp only [show ((false == false) = true) from rfl, gd_tt, bno_s, Bool.false_or]
          by_cases h5 : rung x = INF
          · simp [bno_s, bnd_d, gd, h5]
          · have h6 : ¬ rung y = INF := fun h => h4 (sub_inf h (by omega))
            simp [bno_s, bnd_d, gd, h4, h5, h6]
end Go.Fn
