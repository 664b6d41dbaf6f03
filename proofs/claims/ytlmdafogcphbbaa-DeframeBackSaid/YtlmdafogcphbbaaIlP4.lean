/-
  A part of the proof: rules and plain facts. No condition.
-/
import Derived.Test.YtlmdafogcphbbaaIlP3
set_option linter.all false
set_option linter.unusedSimpArgs false
set_option linter.unusedVariables false
open Go Go.IL
namespace Go.Fn
def flK (k : Int) : List UInt8 := if knownK k = true then (offsK k).map chrOf else [45]
theorem fields_is {k : Int} (hk : 0 ≤ k) : sennitref15_fields k = some (flK k) := by
  unfold sennitref15_fields flK sennitref15_fields_J0 sennitref15_fields_J1 knownK offsK
  simp only [bnd_d]
  by_cases h0 : k = 0
  · simp [h0, chrOf]
  by_cases h9 : k = 9
  · simp [h9, chrOf]
  by_cases h1 : k = 1
  · simp [h1, chrOf]
  by_cases h2 : k = 2
  · simp [h2, chrOf]
  by_cases h3 : k = 3
  · simp [h3, chrOf]
  by_cases h7 : k = 7
  · simp [h7, chrOf]
  by_cases h4 : k = 4
  · simp [h4, chrOf]
  by_cases h6 : k = 6
  · simp [h6, chrOf]
  by_cases h8 : k = 8
  · simp [h8, chrOf]
  by_cases h10 : k = 10
  · simp [h10, chrOf]
  have : ¬ (k ≤ 10 ∧ ¬ k = 5) := by omega
  simp [h0, h9, h1, h2, h3, h7, h4, h6, h8, h10]
  intro a; exact Decidable.byContradiction fun b => this ⟨a, b⟩
theorem flK_no {k : Int} (hk : 0 ≤ k) : decide (flK k = [45]) = !knownK k := by
  unfold flK
  cases h : knownK k with
  | false => simp
  | true =>
    simp only [if_true, Bool.not_true, decide_eq_false_iff_not]
    unfold offsK
    (repeat' split) <;> decide
theorem flK_len (k : Int) : (flK k).length ≤ 3 := by
  unfold flK
  split
  · rw [List.length_map]; exact (offs_bounds k).1
  · decide
theorem has_loop {l : List UInt8} {c : UInt8} (hl : l.length ≤ 1000) : ∀ (k i : Nat), l.length - i < k → i ≤ l.length → sennitref15_has_L0 l (c.toNat : Int) k (i : Int) = some ((l.drop i).contains c) := by
  intro k
  induction k with
  | zero => intro i h; omega
  | succ k ih =>
    intro i h hi
    unfold sennitref15_has_L0
    simp only [bnd_d]
    by_cases hc : i < l.length
    · rw [decide_eq_true (by omega), cond_true, gix_nat, List.getElem?_eq_getElem hc, bno_s, step64 hc (by omega), ih (i + 1) (by omega) (by omega), List.drop_eq_getElem_cons hc, List.contains_cons]
      by_cases hx : l[i] = c
      · simp [hx]
      · have : ¬ ((l[i]).toNat : Int) = (c.toNat : Int) := fun h => hx (UInt8.toNat_inj.1 (by omega))
        rw [decide_eq_false this, cond_false, show (c == l[i]) = false by simp; exact fun h => hx h.symm, Bool.false_or]
    · rw [decide_eq_false (by omega), cond_false, List.drop_of_length_le (by omega)]; rfl
theorem has_is {l : List UInt8} (c : UInt8) (hl : l.length ≤ 1000) : sennitref15_has l (c.toNat : Int) = some (l.contains c) := by
  have := has_loop (c := c) hl fuel 0 (fuel_gt (by omega)) (Nat.zero_le _)
  simpa [sennitref15_has] using this
theorem value_is (f : T_frame_Frame) {o : Nat} (h : 2 ≤ o) (h2 : o ≤ 7) : sennitref15_value f ((chrOf o).toNat : Int) = some (nv f o) := by
  obtain rfl | rfl | rfl | rfl | rfl | rfl : o = 2 ∨ o = 3 ∨ o = 4 ∨ o = 5 ∨ o = 6 ∨ o = 7 := by omega
  all_goals rfl
theorem fl_has {k : Int} (h : knownK k = true) {o : Nat} (h1 : 2 ≤ o) (h2 : o ≤ 7) : (flK k).contains (chrOf o) = (offsK k).contains o := by
  unfold flK
  rw [if_pos h]
  obtain rfl | rfl | rfl | rfl | rfl | rfl : o = 2 ∨ o = 3 ∨ o = 4 ∨ o = 5 ∨ o = 6 ∨ o = 7 := by omega
  all_goals (unfold offsK; (repeat' split) <;> decide)
theorem spare_step {f : T_frame_Frame} (hk0 : 0 ≤ f.Kind) (h : knownK f.Kind = true) (k i : Nat) (hi : i < 6) : sennitref15_spare_L0 f (k + 1) (i : Int) = if zr f (i + 2) then sennitref15_spare_L0 f k ((i + 1 : Nat) : Int) else some true := by
  have e : ([115, 111, 100, 119, 110, 99] : List UInt8)[i]? = some (chrOf (i + 2)) := by
    obtain rfl | rfl | rfl | rfl | rfl | rfl : i = 0 ∨ i = 1 ∨ i = 2 ∨ i = 3 ∨ i = 4 ∨ i = 5 := by omega
    all_goals rfl
  rw [sennitref15_spare_L0]
  simp only [bnd_d, fields_is hk0, bno_s, gix_nat, e, has_is _ (Nat.le_trans (flK_len _) (by decide)), fl_has h (show 2 ≤ i + 2 by omega) (show i + 2 ≤ 7 by omega)]
  rw [decide_eq_true (by show (i : Int) < 6; omega), cond_true, step64 hi (by omega)]
  unfold zr
  cases hc : (offsK f.Kind).contains (i + 2) with
  | true => simp [gd, bno_s]
  | false =>
    simp only [Bool.not_false, beq_self_eq_true, gd, cond_true, bno_s, value_is f (show 2 ≤ i + 2 by omega) (show i + 2 ≤ 7 by omega), Bool.true_and, Bool.false_or]
    by_cases hz : nv f (i + 2) = 0 <;> simp [hz]
theorem spare_end {f : T_frame_Frame} (hk0 : 0 ≤ f.Kind) (k : Nat) : sennitref15_spare_L0 f (k + 1) ((6 : Nat) : Int) = some ((!decide (f.Kind = 0) && !decide (f.Data = [])) || (!decide (f.Kind = 4) && !decide (f.Pairs = [])) || (f.Flag && (!flgK f.Kind || !decide (f.Pairs = [])))) := by
  rw [sennitref15_spare_L0]
  have e : decide (0 < (f.Pairs.length : Int)) = !decide (f.Pairs = []) := by
    rw [Bool.eq_iff_iff]; simp [List.length_pos_iff]
  simp only [bnd_d, rflagged_is hk0, e]
  rw [decide_eq_false (by decide), cond_false]
  generalize (!decide (f.Kind = 0) && !decide (f.Data = [])) = x
  generalize (!decide (f.Kind = 4) && !decide (f.Pairs = [])) = y
  cases x <;> cases y <;> cases f.Flag <;> simp [gd, bno_s]
theorem spare_is {f : T_frame_Frame} (hk0 : 0 ≤ f.Kind) (h : knownK f.Kind = true) : sennitref15_spare f = some (spr f) := by
  unfold sennitref15_spare spr
  obtain ⟨m, hm⟩ := fuel_is 7 (by decide)
  rw [hm]
  have s0 := spare_step hk0 h (m + 6) 0 (by decide)
  have s1 := spare_step hk0 h (m + 5) 1 (by decide)
  have s2 := spare_step hk0 h (m + 4) 2 (by decide)
  have s3 := spare_step hk0 h (m + 3) 3 (by decide)
  have s4 := spare_step hk0 h (m + 2) 4 (by decide)
  have s5 := spare_step hk0 h (m + 1) 5 (by decide)
  have s6 := spare_end hk0 m
  simp only [Nat.zero_add, Nat.reduceAdd] at s0 s1 s2 s3 s4 s5
  rw [show (0 : Int) = ((0 : Nat) : Int) from rfl, s0, s1, s2, s3, s4, s5, s6]
  cases zr f 2 <;> cases zr f 3 <;> cases zr f 4 <;> cases zr f 5 <;> cases zr f 6 <;> cases zr f 7 <;> simp
theorem rcheck_is {f : T_frame_Frame} (hk0 : 0 ≤ f.Kind) (hl : f.Pairs.length ≤ 1000000) : sennitref15_Check f = some (chkF f) := by
  unfold sennitref15_Check chkF
  simp only [fields_is hk0, bno_s, bnd_d, rranges_is hl, flK_no hk0]
  cases hk : knownK f.Kind with
  | false => rfl
  | true =>
    simp only [Bool.not_true, cond_false, spare_is hk0 hk, bno_s]
    cases hr : rng f with
    | false => rfl
    | true =>
      simp only [Bool.not_true, cond_false]
      by_cases h1 : 32 < f.Data.length
      · have : (32 : Int) < f.Data.length := by omega
        simp [h1, this]
      · have : ¬ (32 : Int) < f.Data.length := by omega
        by_cases h2 : 4 < f.Pairs.length
        · have h3 : (4 : Int) < f.Pairs.length := by omega
          simp [h1, this, h2, h3]
        · have h3 : ¬ (4 : Int) < f.Pairs.length := by omega
          cases spr f <;> simp [h1, this, h2, h3]
end Go.Fn
