/-
  A part of the proof: rules and plain facts. No condition.
-/
import Derived.Test.YtalalambgppmpaaIlA22D
import Derived.KernelRfl
set_option linter.all false
set_option linter.unusedSimpArgs false
set_option linter.unusedVariables false
open Go Go.IL
namespace Go.Fn
/-! Chapter 22: streams' numbers, in plain words. -/
theorem awake22 : sennitlaw22_awake = some true := by kernel_rfl
theorem gix_at {α : Type} {l p r : List α} {x : α} (h : l = p ++ x :: r) : gix l (p.length : Int) = some x := by
  subst h; rw [gix_nat, List.getElem?_append_right (Nat.le_refl _)]; simp
theorem lt_at {α : Type} {l p r : List α} {x : α} (h : l = p ++ x :: r) : decide ((p.length : Int) < (l.length : Int)) = true := by
  subst h; simp; omega
theorem lt_end {α : Type} {l p : List α} (h : l = p ++ []) : decide ((p.length : Int) < (l.length : Int)) = false := by
  subst h; simp
theorem w_at {α : Type} {l p r : List α} {x : α} (h : l = p ++ x :: r) (hl : l.length ≤ 1000000) : IntKind.wrap .i64 ((p.length : Int) + 1) = ((p ++ [x]).length : Int) := by
  subst h; simp only [List.length_append, List.length_cons, List.length_nil] at hl ⊢; rw [w64 (by omega) (by omega)]; omega
theorem next_at {α : Type} {l p r : List α} {x : α} (h : l = p ++ x :: r) : l = (p ++ [x]) ++ r := by rw [h]; simp
theorem andI_one (a : Int) : andI .i64 a 1 = a % 2 := by
  unfold andI
  have h1 : (BitVec.ofInt IntKind.i64.bits a &&& BitVec.ofInt IntKind.i64.bits 1).toNat = (a % 2).toNat := by
    have : (BitVec.ofInt IntKind.i64.bits 1).toNat = 1 := rfl
    rw [BitVec.toNat_and, this, Nat.and_one_is_mod, BitVec.toNat_ofInt]
    show (a % (2 ^ 64 : Nat)).toNat % 2 = _
    omega
  rw [h1, w64 (by omega) (by omega)]; omega
abbrev StT := T_stid_State
def own (s : StT) (id : Int) : Bool := decide (0 < id) && (decide (id % 2 = 1) == s.Odd)
theorem own_eq (s : StT) (id : Int) : stid_Own s id = some (own s id) := by
  unfold stid_Own own; simp only [bndD, andI_one]
theorem refown_eq (s : StT) (id : Int) : sennitref22_Own s id = some (own s id) := by
  unfold sennitref22_Own own
  by_cases h : 0 < id
  · simp only [bndD, decide_eq_true h, beq_self_eq_true, gdtt, rem_ok (show 0 ≤ id by omega) (show (0 : Int) < 2 by decide), bnoS, Bool.true_and]
  · simp only [bndD, decide_eq_false h, show (false == true) = false from rfl, gdff, bnoS, Bool.false_and]
theorem in_eq (a b c : Int) : stid_in a b c = some (decide (b ≤ a) && decide (a ≤ c)) := rfl
theorem refin_eq (a b c : Int) : sennitref22_in a b c = some (decide (b ≤ a) && decide (a ≤ c)) := rfl
def began (s : StT) (id : Int) : Bool := if own s id then decide (id < s.Next) else decide (1 ≤ id) && decide (id ≤ s.Last)
theorem began_eq (s : StT) (id : Int) : stid_State_began s id = some (began s id) := by
  unfold stid_State_began began
  rw [own_eq]; simp only [bnoS, bndD, in_eq]
  cases own s id <;> rfl
theorem refbegan_eq (s : StT) (id : Int) : sennitref22_began s id = some (began s id) := by
  unfold sennitref22_began began
  rw [refown_eq]; simp only [bnoS, bndD]
  cases own s id
  · simp only [cond_false, Bool.false_eq_true, if_false]; congr 2
  · rfl
theorem index_L {l : List Int} {x : Int} (hl : l.length ≤ 1000000) : ∀ (r p : List Int) (f : Nat), l = p ++ r → r.length < f → ∃ k : Int, slices_Index_int_int_L0 l x f (p.length : Int) = some k ∧ decide (0 ≤ k) = decide (x ∈ r)
  | [], p, f + 1, h, _ => by
    refine ⟨-1, ?_, by simp⟩
    unfold slices_Index_int_int_L0
    simp only [bndD, lt_end h, cond_false]
  | y :: r, p, f + 1, h, hf => by
    unfold slices_Index_int_int_L0
    simp only [bndD, lt_at h, cond_true, gix_at h, bnoS]
    by_cases hx : x = y
    · subst hx
      exact ⟨p.length, by simp only [decide_true, cond_true], by simp⟩
    · simp only [decide_eq_false hx, cond_false, w_at h hl]
      obtain ⟨k, h1, h2⟩ := index_L hl r (p ++ [y]) f (next_at h) (by simpa using hf)
      exact ⟨k, h1, by rw [h2]; simp [hx]⟩
theorem contains_eq {l : List Int} (x : Int) (hl : l.length ≤ 1000000) : slices_Contains_int_int l x = some (decide (x ∈ l)) := by
  obtain ⟨k, h1, h2⟩ := index_L (x := x) hl l [] fuel rfl (fuel_gt (by omega))
  unfold slices_Contains_int_int slices_Index_int_int
  rw [show (0 : Int) = (([] : List Int).length : Int) from rfl, h1]
  simp only [bnoS, bndD]
  rw [← h2]; rfl
theorem is_L {l : List Int} {x : Int} (hl : l.length ≤ 1000000) : ∀ (r p : List Int) (f : Nat), l = p ++ r → r.length < f → sennitref22_Is_L0 l x f (p.length : Int) = some (decide (x ∈ r))
  | [], p, f + 1, h, _ => by
    unfold sennitref22_Is_L0
    simp only [bndD, lt_end h, cond_false]; rfl
  | y :: r, p, f + 1, h, hf => by
    unfold sennitref22_Is_L0
    simp only [bndD, lt_at h, cond_true, gix_at h, bnoS]
    by_cases hx : y = x
    · subst hx; simp
    · simp only [decide_eq_false hx, cond_false, w_at h hl]
      rw [is_L hl r (p ++ [y]) f (next_at h) (by simpa using hf)]
      simp [Ne.symm hx]
theorem is_eq {l : List Int} (x : Int) (hl : l.length ≤ 1000000) : sennitref22_Is l x = some (decide (x ∈ l)) :=
  is_L hl l [] fuel rfl (fuel_gt (by omega))
theorem equal_L {l : List Int} (hl : l.length ≤ 1000000) : ∀ (r p : List Int) (f : Nat), l = p ++ r → r.length < f → sennitref02_SameInts_L0 l l f (p.length : Int) = some true
  | [], p, f + 1, h, _ => by
    unfold sennitref02_SameInts_L0
    simp only [bndD, lt_end h, cond_false]
  | y :: r, p, f + 1, h, hf => by
    unfold sennitref02_SameInts_L0
    simp only [bndD, lt_at h, cond_true, gix_at h, bnoS, decide_true, Bool.not_true, cond_false, w_at h hl]
    exact equal_L hl r (p ++ [y]) f (next_at h) (by simpa using hf)
theorem sameints22 {l : List Int} (hl : l.length ≤ 1000000) : sennitref02_SameInts l l = some true := by
  unfold sennitref02_SameInts
  simp only [bndD, decide_true, Bool.not_true, cond_false]
  exact equal_L hl l [] fuel rfl (fuel_gt (by omega))
theorem equalS_L {l : List Int} (hl : l.length ≤ 1000000) : ∀ (r p : List Int) (f : Nat), l = p ++ r → r.length < f → slices_Equal_int_int_L0 l l f (p.length : Int) = some true
  | [], p, f + 1, h, _ => by
    unfold slices_Equal_int_int_L0
    simp only [bndD, lt_end h, cond_false]
  | y :: r, p, f + 1, h, hf => by
    unfold slices_Equal_int_int_L0
    simp only [bndD, lt_at h, cond_true, gix_at h, bnoS, decide_true, Bool.not_true, cond_false, w_at h hl]
    exact equalS_L hl r (p ++ [y]) f (next_at h) (by simpa using hf)
theorem equal22 {l : List Int} (hl : l.length ≤ 1000000) : slices_Equal_int_int l l = some true := by
  unfold slices_Equal_int_int
  simp only [bndD, decide_true, Bool.not_true, cond_false]
  exact equalS_L hl l [] fuel rfl (fuel_gt (by omega))
theorem refsame_self {s : StT} (h1 : s.Live.length ≤ 1000000) (h2 : s.Cut.length ≤ 1000000) : sennitref22_Same s s = some true := by
  unfold sennitref22_Same
  simp only [bndD, decide_true, beq_self_eq_true, Bool.and_self, gdtt, sameints22 h1, sameints22 h2, bnoS]
theorem same_self {s : StT} (h1 : s.Live.length ≤ 1000000) (h2 : s.Cut.length ≤ 1000000) : stid_Same s s = some true := by
  unfold stid_Same
  simp only [equal22 h1, bnoS, Bool.not_true, beq_self_eq_true, gdtt, equal22 h2, bndD, Bool.or_self, cond_false, decide_true, Bool.and_self]
/-! Count -/
def mine (s : StT) (l : List Int) : Nat := (l.filter (own s)).length
theorem count_L {s : StT} (hl : s.Live.length ≤ 1000000) : ∀ (r p : List Int) (f : Nat), s.Live = p ++ r → r.length < f → stid_Count_L0 s f (mine s p : Int) (p.length : Int) = some ((mine s s.Live : Int), (s.Live.length : Int) - mine s s.Live)
  | [], p, f + 1, h, _ => by
    unfold stid_Count_L0
    have hm : mine s p ≤ p.length := List.length_filter_le _ _
    have he : s.Live = p := by simpa using h
    have hpl : p.length ≤ 1000000 := by rw [← he]; exact hl
    simp only [bndD, lt_end h, cond_false]
    rw [he, w64 (by omega) (by omega)]
  | y :: r, p, f + 1, h, hf => by
    unfold stid_Count_L0
    have hm : mine s p ≤ p.length := List.length_filter_le _ _
    have hpl : p.length ≤ 1000000 := by rw [h] at hl; simp at hl; omega
    simp only [bndD, lt_at h, cond_true, gix_at h, bnoS, own_eq, w_at h hl]
    have := count_L hl r (p ++ [y]) f (next_at h) (by simpa using hf)
    cases ho : own s y
    · simp only [cond_false]
      rw [← this]; congr 2
      unfold mine; rw [List.filter_append]; simp [ho]
    · simp only [cond_true]
      rw [← this]; congr 1
      rw [w64 (by omega) (by omega)]
      unfold mine; rw [List.filter_append]; simp [ho]
theorem count_eq {s : StT} (hl : s.Live.length ≤ 1000000) : stid_Count s = some ((mine s s.Live : Int), (s.Live.length : Int) - mine s s.Live) :=
  count_L hl s.Live [] fuel rfl (fuel_gt (by omega))
theorem refcount_L {s : StT} (hl : s.Live.length ≤ 1000000) : ∀ (r p : List Int) (f : Nat), s.Live = p ++ r → r.length < f → sennitref22_Count_L0 s f (mine s p : Int) (p.length : Int) = some ((mine s s.Live : Int), (s.Live.length : Int) - mine s s.Live)
  | [], p, f + 1, h, _ => by
    unfold sennitref22_Count_L0
    have hm : mine s p ≤ p.length := List.length_filter_le _ _
    have he : s.Live = p := by simpa using h
    have hpl : p.length ≤ 1000000 := by rw [← he]; exact hl
    simp only [bndD, lt_end h, cond_false]
    rw [he, w64 (by omega) (by omega)]
  | y :: r, p, f + 1, h, hf => by
    unfold sennitref22_Count_L0
    have hm : mine s p ≤ p.length := List.length_filter_le _ _
    have hpl : p.length ≤ 1000000 := by rw [h] at hl; simp at hl; omega
    simp only [bndD, lt_at h, cond_true, gix_at h, bnoS, refown_eq, w_at h hl]
    have := refcount_L hl r (p ++ [y]) f (next_at h) (by simpa using hf)
    cases ho : own s y
    · simp only [cond_false]
      rw [← this]; congr 2
      unfold mine; rw [List.filter_append]; simp [ho]
    · simp only [cond_true]
      rw [← this]; congr 1
      rw [w64 (by omega) (by omega)]
      unfold mine; rw [List.filter_append]; simp [ho]
theorem refcount_eq {s : StT} (hl : s.Live.length ≤ 1000000) : sennitref22_Count s = some ((mine s s.Live : Int), (s.Live.length : Int) - mine s s.Live) :=
  refcount_L hl s.Live [] fuel rfl (fuel_gt (by omega))
/-! Check -/
def rise (s : StT) (last : Int) : List Int → Bool
  | [] => true
  | x :: r => decide (last < x) && began s x && rise s x r
theorem rises_L {s : StT} (hl : s.Live.length ≤ 1000000) : ∀ (r p : List Int) (last : Int) (f : Nat), s.Live = p ++ r → r.length < f → stid_State_rises_L0 s f last (p.length : Int) = some (rise s last r)
  | [], p, last, f + 1, h, _ => by
    unfold stid_State_rises_L0
    simp only [bndD, lt_end h, cond_false]; rfl
  | y :: r, p, last, f + 1, h, hf => by
    unfold stid_State_rises_L0
    simp only [bndD, lt_at h, cond_true, gix_at h, bnoS, w_at h hl, rise]
    by_cases hy : y ≤ last
    · simp only [decide_eq_true hy, show (true == false) = false from rfl, gdff, bnoS, Bool.true_or, cond_true, decide_eq_false (show ¬ last < y by omega), Bool.false_and]
    · simp only [decide_eq_false hy, beq_self_eq_true, gdtt, began_eq, bnoS, Bool.false_or, decide_eq_true (show last < y by omega), Bool.true_and]
      cases began s y
      · simp
      · simp only [Bool.not_true, cond_false, Bool.true_and]
        exact rises_L hl r (p ++ [y]) y f (next_at h) (by simpa using hf)
theorem rises_eq {s : StT} (hl : s.Live.length ≤ 1000000) : stid_State_rises s = some (!decide (16 < (s.Live.length : Int)) && rise s 0 s.Live) := by
  unfold stid_State_rises
  simp only [bndD]
  by_cases h : 16 < (s.Live.length : Int)
  · simp [decide_eq_true h]
  · simp only [decide_eq_false h, cond_false, Bool.not_false, Bool.true_and]
    exact rises_L hl s.Live [] 0 fuel rfl (fuel_gt (by omega))
def aparts (s : StT) (p : List Int) : List Int → Bool
  | [] => true
  | x :: r => began s x && !decide (x ∈ s.Live ++ p) && aparts s (p ++ [x]) r
theorem concat_eq {a b : List Int} (ha : a.length ≤ 1000) (hb : b.length ≤ 1000) : slices_Concat_int_int [a, b] = some (a ++ b) := by
  unfold slices_Concat_int_int
  obtain ⟨n, hn⟩ : ∃ n, fuel = n + 3 := ⟨fuel - 3, (Nat.sub_add_cancel (Nat.le_of_lt (fuel_gt (by decide)))).symm⟩
  rw [hn]
  have e1 : ∀ n, slices_Concat_int_int_L1 [a, b] (n + 3) [] 0 = some (a ++ b) := fun n => by
    unfold slices_Concat_int_int_L1
    simp only [bndD, show decide ((0 : Int) < (([a, b] : List (List Int)).length : Int)) = true from rfl, bif_tt, show gix [a, b] 0 = some a from rfl, bnoS, show app 8 [] a = some a from by simpa using app_ok (b := 8) (l := []) (m := a) (by simp; omega) (by simp; omega), show IntKind.wrap .i64 ((0 : Int) + 1) = 1 from rfl]
    unfold slices_Concat_int_int_L1
    simp only [bndD, show decide ((1 : Int) < (([a, b] : List (List Int)).length : Int)) = true from rfl, bif_tt, show gix [a, b] 1 = some b from rfl, bnoS, app_ok (b := 8) (l := a) (m := b) (by omega) (by omega), show IntKind.wrap .i64 ((1 : Int) + 1) = 2 from rfl]
    unfold slices_Concat_int_int_L1
    simp only [bndD, show decide ((2 : Int) < (([a, b] : List (List Int)).length : Int)) = false from rfl, bif_ff]
  unfold slices_Concat_int_int_L0
  simp only [bndD, show decide ((0 : Int) < (([a, b] : List (List Int)).length : Int)) = true from rfl, bif_tt, show gix [a, b] 0 = some a from rfl, bnoS, w64 (show -9223372036854775808 ≤ (0 : Int) + (a.length : Int) by omega) (by omega), decide_eq_false (show ¬ (0 : Int) + (a.length : Int) < 0 by omega), bif_ff, show IntKind.wrap .i64 ((0 : Int) + 1) = 1 from rfl]
  unfold slices_Concat_int_int_L0
  simp only [bndD, show decide ((1 : Int) < (([a, b] : List (List Int)).length : Int)) = true from rfl, bif_tt, show gix [a, b] 1 = some b from rfl, bnoS, w64 (show -9223372036854775808 ≤ (0 : Int) + (a.length : Int) + (b.length : Int) by omega) (by omega), decide_eq_false (show ¬ (0 : Int) + (a.length : Int) + (b.length : Int) < 0 by omega), bif_ff, show IntKind.wrap .i64 ((1 : Int) + 1) = 2 from rfl]
  unfold slices_Concat_int_int_L0
  simp only [bndD, show decide ((2 : Int) < (([a, b] : List (List Int)).length : Int)) = false from rfl, bif_ff, slices_Grow_int_int_h_n, growS_ok (α := Int) (b := 8) (show 0 ≤ (0 : Int) + (a.length : Int) + (b.length : Int) by omega) (by omega) (by omega), bnoS]
  rw [hn]; exact e1 n
end Go.Fn
