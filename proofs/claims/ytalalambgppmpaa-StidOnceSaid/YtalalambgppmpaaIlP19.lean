/-
  A part of the proof: rules and plain facts. No condition.
-/
import Derived.Test.YtalalambgppmpaaIlP18
set_option linter.all false
set_option linter.unusedSimpArgs false
set_option linter.unusedVariables false
open Go Go.IL
namespace Go.Fn
theorem cut_at {l p r : List Int} (h : l = p ++ r) : cut l 0 (p.length : Int) = some p := by
  subst h; rw [cut_of (by omega) (by simp; omega)]; simp
theorem began_pos {s : StT} {x : Int} (h : began s x = true) : 0 < x := by
  unfold began at h
  split at h
  · rename_i ho; unfold own at ho; simp at ho; exact ho.1
  · simp at h; omega
theorem apart1 {s : StT} {v30 : Bool} {v31 : Int} {kk0 : Bool → Int → Option Bool} {x : Int} {L : List Int} (hl : L.length ≤ 1000000) : ∀ (r p : List Int) (f : Nat), L = p ++ r → r.length < f →
    stid_State_apart_L1 s v30 v31 kk0 x L f (p.length : Int) = if x ∈ r then some false else kk0 (v30 && began s x) (IntKind.wrap .i64 (v31 + 1))
  | [], p, f + 1, h, _ => by
    unfold stid_State_apart_L1
    simp only [bndD, lt_end h, bif_ff, began_eq]
    cases v30
    · simp only [show (false == true) = false from rfl, gdff, bnoS, Bool.false_and, List.not_mem_nil, if_false]
    · simp only [beq_self_eq_true, gdtt, bnoS, Bool.true_and, List.not_mem_nil, if_false]
  | y :: r, p, f + 1, h, hf => by
    unfold stid_State_apart_L1
    simp only [bndD, lt_at h, bif_tt, gix_at h, bnoS]
    by_cases hx : y = x
    · subst hx; simp only [decide_true, bif_tt, List.mem_cons, true_or, if_true]
    · simp only [decide_eq_false hx, bif_ff, w_at h hl]
      rw [apart1 hl r (p ++ [y]) f (next_at h) (by simpa using hf)]
      simp [Ne.symm hx]
theorem apart0 {s : StT} (hl : s.Live.length ≤ 1000) (hc : s.Cut.length ≤ 1000) : ∀ (r p : List Int) (v : Bool) (f : Nat), s.Cut = p ++ r → r.length < f → stid_State_apart_L0 s f v (p.length : Int) = some (v && aparts s p r)
  | [], p, v, f + 1, h, _ => by
    unfold stid_State_apart_L0
    simp only [bndD, lt_end h, bif_ff, aparts, Bool.and_true]
  | y :: r, p, v, f + 1, h, hf => by
    unfold stid_State_apart_L0
    have hp : p.length ≤ 1000 := by rw [h] at hc; simp at hc; omega
    simp only [bndD, lt_at h, bif_tt, gix_at h, bnoS, cut_at h, concat_eq hl hp]
    have hlp : (s.Live ++ p).length ≤ 1000000 := by simp; omega
    rw [show (0 : Int) = (([] : List Int).length : Int) from rfl, apart1 hlp (s.Live ++ p) [] fuel rfl (fuel_gt (by omega)), w_at h (by omega)]
    by_cases hx : y ∈ s.Live ++ p
    · rw [if_pos hx]; simp only [aparts, decide_eq_true hx, Bool.not_true, Bool.and_false, Bool.false_and]
    · rw [if_neg hx, apart0 hl hc r (p ++ [y]) _ f (next_at h) (by simpa using hf)]
      simp only [aparts, decide_eq_false hx, Bool.not_false, Bool.and_true, Bool.and_assoc]
theorem apart_eq {s : StT} (hl : s.Live.length ≤ 1000) (hc : s.Cut.length ≤ 1000) : stid_State_apart s = some (!decide (8 < (s.Cut.length : Int)) && aparts s [] s.Cut) := by
  unfold stid_State_apart
  simp only [bndD]
  by_cases h : 8 < (s.Cut.length : Int)
  · simp only [decide_eq_true h, bif_tt, Bool.not_true, Bool.false_and]
  · simp only [decide_eq_false h, bif_ff, Bool.not_false, Bool.true_and]
    rw [show (0 : Int) = (([] : List Int).length : Int) from rfl, apart0 hl hc s.Cut [] true fuel rfl (fuel_gt (by omega))]; rfl
def btw (a b c : Int) : Bool := decide (b ≤ a) && decide (a ≤ c)
def nums (s : StT) : Bool := btw s.Next 1 1048578 && own s s.Next && btw s.Last 0 1048576 && !own s s.Last && btw s.Heard (-1) 1048576 && btw s.Told (-1) 1048576 && btw s.Mine 0 8 && btw s.Hers 0 8
theorem inB (a b c : Int) : stid_in a b c = some (btw a b c) := rfl
theorem refinB (a b c : Int) : sennitref22_in a b c = some (btw a b c) := rfl
theorem numbers_eq (s : StT) : stid_State_numbers s = some (nums s) := by
  unfold stid_State_numbers nums
  simp only [inB, own_eq]
  cases btw s.Next 1 1048578 <;> cases own s s.Next <;> cases btw s.Last 0 1048576 <;> cases own s s.Last <;> cases btw s.Heard (-1) 1048576 <;> cases btw s.Told (-1) 1048576 <;> cases btw s.Mine 0 8 <;> cases btw s.Hers 0 8 <;> rfl
def check (s : StT) : Int :=
  if nums s = false then 8 else if 16 < s.Live.length ∨ rise s 0 s.Live = false then 4 else if 8 < s.Cut.length ∨ aparts s [] s.Cut = false then 10 else 0
theorem check_eq {s : StT} (hl : s.Live.length ≤ 1000) (hc : s.Cut.length ≤ 1000) : stid_Check s = some (check s) := by
  unfold stid_Check check
  rw [numbers_eq, rises_eq (by omega), apart_eq hl hc]
  simp only [bnoS]
  cases nums s
  · rfl
  · simp only [Bool.not_true, bif_ff, Bool.true_eq_false, if_false]
    by_cases h1 : 16 < s.Live.length
    · rw [decide_eq_true (show 16 < (s.Live.length : Int) by omega), if_pos (.inl h1)]; rfl
    · rw [decide_eq_false (show ¬ 16 < (s.Live.length : Int) by omega)]
      cases rise s 0 s.Live
      · rw [if_pos (.inr rfl)]; rfl
      · rw [if_neg (by simp [h1])]
        simp only [Bool.not_false, Bool.and_self, Bool.not_true, bif_ff]
        by_cases h2 : 8 < s.Cut.length
        · rw [decide_eq_true (show 8 < (s.Cut.length : Int) by omega), if_pos (.inl h2)]; rfl
        · rw [decide_eq_false (show ¬ 8 < (s.Cut.length : Int) by omega)]
          cases aparts s [] s.Cut
          · rw [if_pos (.inr rfl)]; rfl
          · rw [if_neg (by simp [h2])]; rfl
theorem refapart_L {s : StT} (hl : s.Live.length ≤ 1000) (hc : s.Cut.length ≤ 1000) : ∀ (r p : List Int) (f : Nat), s.Cut = p ++ r → r.length < f → sennitref22_Check_L1 s f (p.length : Int) = some (if aparts s p r = false then 10 else 0)
  | [], p, f + 1, h, _ => by
    unfold sennitref22_Check_L1
    simp only [bndD, lt_end h, bif_ff, aparts, Bool.true_eq_false, if_false]
  | y :: r, p, f + 1, h, hf => by
    unfold sennitref22_Check_L1
    have hp : p.length ≤ 1000 := by rw [h] at hc; simp at hc; omega
    simp only [bndD, lt_at h, bif_tt, gix_at h, bnoS, cut_at h, refbegan_eq, is_eq _ (show s.Live.length ≤ 1000000 by omega), is_eq _ (show p.length ≤ 1000000 by omega), aparts, List.mem_append]
    have ih := refapart_L hl hc r (p ++ [y]) f (next_at h) (by simpa using hf)
    cases began s y
    · rfl
    · simp only [Bool.not_true, beq_self_eq_true, gdtt, bnoS, Bool.false_or, Bool.true_and, is_eq _ (show s.Live.length ≤ 1000000 by omega)]
      by_cases h1 : y ∈ s.Live
      · simp only [decide_eq_true h1, show (true == false) = false from rfl, gdff, bnoS, Bool.true_or, bif_tt, true_or, h1, decide_true, Bool.not_true, Bool.false_and, if_true]
      · have hd : decide (y ∈ s.Live ∨ y ∈ p) = decide (y ∈ p) := by simp [h1]
        rw [hd]
        simp only [decide_eq_false h1, beq_self_eq_true, gdtt, bnoS, Bool.false_or, is_eq _ (show p.length ≤ 1000000 by omega)]
        by_cases h2 : y ∈ p
        · simp only [decide_eq_true h2, bif_tt, Bool.not_true, Bool.false_and, if_true]
        · simp only [decide_eq_false h2, bif_ff, Bool.not_false, Bool.true_and, w_at h (show s.Cut.length ≤ 1000000 by omega)]
          exact ih
theorem refrise_L {s : StT} (hl : s.Live.length ≤ 1000) : ∀ (r p : List Int) (last : Int) (f : Nat), s.Live = p ++ r → (p = [] ∧ last = 0 ∨ ∃ q, p = q ++ [last]) → r.length < f →
    sennitref22_Check_L0 s f (p.length : Int) = if rise s last r = false then some 4 else if 8 < s.Cut.length then some 10 else sennitref22_Check_L1 s fuel 0
  | [], p, last, f + 1, h, _, _ => by
    unfold sennitref22_Check_L0
    simp only [bndD, lt_end h, bif_ff, rise, Bool.true_eq_false, if_false]
    by_cases h8 : 8 < s.Cut.length
    · rw [decide_eq_true (show 8 < (s.Cut.length : Int) by omega), if_pos h8]; rfl
    · rw [decide_eq_false (show ¬ 8 < (s.Cut.length : Int) by omega), if_neg h8, bif_ff]
  | y :: r, p, last, f + 1, h, hp, hf => by
    unfold sennitref22_Check_L0
    have ih := refrise_L hl r (p ++ [y]) y f (next_at h) (.inr ⟨p, rfl⟩) (by simpa using hf)
    simp only [bndD, lt_at h, bif_tt, gix_at h, bnoS, refbegan_eq, w_at h (show s.Live.length ≤ 1000000 by omega), rise]
    rcases Bool.eq_false_or_eq_true (began s y) with hb | hb
    rotate_left
    · simp only [hb, Bool.not_false, show (true == false) = false from rfl, Bool.false_and, gdff, bnoS, Bool.true_or, bif_tt, Bool.and_false, if_true]
    · simp only [hb, Bool.not_true, beq_self_eq_true, Bool.true_and, Bool.false_or, Bool.and_true]
      rcases hp with ⟨rfl, rfl⟩ | ⟨q, rfl⟩
      · simp only [List.length_nil, show decide ((0 : Int) < ((0 : Nat) : Int)) = false from rfl, show (false == true) = false from rfl, gdff, bnoS, Bool.false_and, bif_ff, decide_eq_true (began_pos hb), Bool.true_and]
        exact ih
      · have hq : s.Live = q ++ last :: (y :: r) := by rw [h]; simp
        have hql : q.length ≤ 1000 := by rw [hq] at hl; simp at hl; omega
        simp only [decide_eq_true (show (0 : Int) < ((q ++ [last]).length : Int) by rw [List.length_append, List.length_singleton]; omega), beq_self_eq_true, gdtt, show IntKind.wrap .i64 (((q ++ [last]).length : Int) - 1) = (q.length : Int) by (rw [List.length_append, List.length_singleton, w64 (by omega) (by omega)]; omega), gix_at hq, bnoS, Bool.true_and]
        by_cases hy : y ≤ last
        · simp only [decide_eq_true hy, bif_tt, decide_eq_false (show ¬ last < y by omega), Bool.false_and, if_true]
        · simp only [decide_eq_false hy, bif_ff, decide_eq_true (show last < y by omega), Bool.true_and]
          exact ih
theorem refcheck_eq {s : StT} (hl : s.Live.length ≤ 1000) (hc : s.Cut.length ≤ 1000) : sennitref22_Check s = some (check s) := by
  unfold sennitref22_Check check
  have h3 : s.Live.length ≤ 16 → sennitref22_Check_L0 s fuel 0 = some (if 16 < s.Live.length ∨ rise s 0 s.Live = false then 4 else if 8 < s.Cut.length ∨ aparts s [] s.Cut = false then 10 else 0) := fun h16 => by
    have := refrise_L hl s.Live [] 0 fuel rfl (.inl ⟨rfl, rfl⟩) (fuel_gt (by omega))
    have h4 := refapart_L hl hc s.Cut [] fuel rfl (fuel_gt (by omega))
    have this : sennitref22_Check_L0 s fuel 0 = _ := this
    have h4 : sennitref22_Check_L1 s fuel 0 = _ := h4
    rw [this]
    cases rise s 0 s.Live
    · rw [if_pos rfl, if_pos (.inr rfl)]
    · rw [if_neg (by simp), if_neg (show ¬ (16 < s.Live.length ∨ true = false) by simp; omega)]
      by_cases h8 : 8 < s.Cut.length
      · rw [if_pos h8, if_pos (.inl h8)]
      · rw [if_neg h8]
        rw [h4]
        cases aparts s [] s.Cut <;> simp [h8]
  have hown : (decide (0 < s.Last) && own s s.Last) = own s s.Last := by
    unfold own; cases decide (0 < s.Last) <;> simp
  simp only [refinB, refown_eq, bnoS, bndD]
  unfold nums
  generalize decide (0 < s.Last) = d at hown ⊢
  generalize own s s.Last = o at hown ⊢
  have hfin : ∀ b : Bool, b = true → (bif !b then some 8 else bif decide (16 < (s.Live.length : Int)) then some 4 else sennitref22_Check_L0 s fuel 0) = some (if b = false then 8 else if 16 < s.Live.length ∨ rise s 0 s.Live = false then 4 else if 8 < s.Cut.length ∨ aparts s [] s.Cut = false then 10 else 0) := fun b hb => by
    subst hb
    simp only [Bool.not_true, bif_ff, Bool.true_eq_false, if_false]
    by_cases h16 : 16 < s.Live.length
    · rw [decide_eq_true (show 16 < (s.Live.length : Int) by omega), bif_tt, if_pos (.inl h16)]
    · rw [decide_eq_false (show ¬ 16 < (s.Live.length : Int) by omega), bif_ff, h3 (by omega)]
  cases btw s.Next 1 1048578
  · rfl
  cases own s s.Next
  · rfl
  cases btw s.Last 0 1048576
  · rfl
  cases o
  · have h5 := hfin true rfl
    simp only [Bool.not_true, bif_ff, Bool.true_eq_false, if_false] at h5
    cases d <;> cases btw s.Heard (-1) 1048576 <;> cases btw s.Told (-1) 1048576 <;> cases btw s.Mine 0 8 <;> cases btw s.Hers 0 8 <;> first | rfl | exact h5
  · cases d
    · cases hown
    · rfl
end Go.Fn
