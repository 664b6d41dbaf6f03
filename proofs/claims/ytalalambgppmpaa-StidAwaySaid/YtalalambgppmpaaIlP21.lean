/-
  A part of the proof: rules and plain facts. No condition.
-/
import Derived.Test.YtalalambgppmpaaIlP20
set_option linter.all false
set_option linter.unusedSimpArgs false
set_option linter.unusedVariables false
open Go Go.IL
namespace Go.Fn
theorem clone_eq {l : List Int} (hl : l.length ≤ 100000) : slices_Clone_int_int_h l = some l := by
  unfold slices_Clone_int_int_h
  have h : (bno (app 8 ([] : (List Int)) l) fun x3 => some x3) = some l := by
    rw [app_ok (by simp; omega) (by simp; omega), bnoS, List.nil_append]
  rw [h, bothE_same]
  rintro rfl; rfl
theorem ownh_eq {s : StT} (hl : s.Live.length ≤ 1000) (hc : s.Cut.length ≤ 1000) : stid_State_own_h s = some (s.Odd, s.Next, s.Last, s.Live, s.Cut, s.Mine, s.Hers, s.Heard, s.Told) := by
  unfold stid_State_own_h
  rw [clone_eq (by omega), bnoS, clone_eq (by omega), bnoS]
theorem check_ok {s : StT} (h : check s = 0) : nums s = true ∧ s.Live.length ≤ 16 ∧ rise s 0 s.Live = true ∧ s.Cut.length ≤ 8 ∧ aparts s [] s.Cut = true := by
  unfold check at h
  split at h
  · cases h
  · rename_i h1
    split at h
    · cases h
    · rename_i h2
      split at h
      · cases h
      · rename_i h3
        simp only [not_or, Nat.not_lt, Bool.not_eq_false] at h1 h2 h3
        exact ⟨h1, h2.1, h2.2, h3.1, h3.2⟩
theorem check_of {s : StT} (h1 : nums s = true) (h2 : s.Live.length ≤ 16) (h3 : rise s 0 s.Live = true) (h4 : s.Cut.length ≤ 8) (h5 : aparts s [] s.Cut = true) : check s = 0 := by
  unfold check
  rw [h1, h3, h5, if_neg (by simp), if_neg (by simp; omega), if_neg (by simp; omega)]
theorem nums_ok {s : StT} (h : nums s = true) : (1 ≤ s.Next ∧ s.Next ≤ 1048578) ∧ own s s.Next = true ∧ (0 ≤ s.Last ∧ s.Last ≤ 1048576) ∧ own s s.Last = false ∧ (-1 ≤ s.Heard ∧ s.Heard ≤ 1048576) ∧ (-1 ≤ s.Told ∧ s.Told ≤ 1048576) ∧ (0 ≤ s.Mine ∧ s.Mine ≤ 8) ∧ (0 ≤ s.Hers ∧ s.Hers ≤ 8) := by
  unfold nums btw at h
  simp only [Bool.and_eq_true, decide_eq_true_eq, Bool.not_eq_true'] at h
  obtain ⟨⟨⟨⟨⟨⟨⟨h1, h2⟩, h3⟩, h4⟩, h5⟩, h6⟩, h7⟩, h8⟩ := h
  exact ⟨h1, h2, h3, h4, h5, h6, h7, h8⟩
def openS (s : StT) : StT × Int × Int :=
  if check s ≠ 0 then (s, 0, check s) else if s.Heard ≠ -1 ∨ s.Told ≠ -1 then (s, 0, 14) else if s.Mine ≤ mine s s.Live then (s, 0, 7) else if 1048576 < s.Next then (s, 0, 8)
  else (⟨s.Odd, s.Next + 2, s.Last, ins s.Live s.Next, s.Cut, s.Mine, s.Hers, s.Heard, s.Told⟩, s.Next, 0)
theorem open_eq {s : StT} (hl : s.Live.length ≤ 1000) (hc : s.Cut.length ≤ 1000) : stid_Open s = some (openS s) := by
  unfold stid_Open openS
  rw [ownh_eq hl hc, bnoS, check_eq hl hc, bnoS]
  simp only [bndD]
  by_cases h0 : check s = 0
  · obtain ⟨h1, h2, h3, h4, h5⟩ := check_ok h0
    obtain ⟨n1, n2, n3, n4, n5, n6, n7, n8⟩ := nums_ok h1
    have hmn : mine s s.Live ≤ s.Live.length := List.length_filter_le _ _
    rw [decide_eq_true h0, if_neg (by simpa using h0)]
    simp only [Bool.not_true, bif_ff]
    rw [count_eq (by omega), bnoS]
    by_cases h6 : s.Heard ≠ -1 ∨ s.Told ≠ -1
    · rw [if_pos h6, decide_eq_true (by omega)]; rfl
    · rw [if_neg h6, decide_eq_false (by omega), bif_ff]
      by_cases h7 : s.Mine ≤ mine s s.Live
      · rw [if_pos h7, decide_eq_true h7]; rfl
      · rw [if_neg h7, decide_eq_false h7, bif_ff]
        by_cases h8 : 1048576 < s.Next
        · rw [if_pos h8, decide_eq_true h8]; rfl
        · rw [if_neg h8, decide_eq_false h8, bif_ff, w64 (by omega) (by omega), born_eq (by omega) (rise_all _ _ h3).2, bnoS]
  · rw [decide_eq_false h0, if_pos h0]; rfl
theorem refopen_eq {s : StT} (hl : s.Live.length ≤ 1000) (hc : s.Cut.length ≤ 1000) : sennitref22_Open s = some (openS s) := by
  unfold sennitref22_Open openS
  rw [refcheck_eq hl hc, bnoS, refcount_eq (by omega), bnoS]
  simp only [bndD]
  by_cases h0 : check s = 0
  · obtain ⟨h1, h2, h3, h4, h5⟩ := check_ok h0
    obtain ⟨n1, n2, n3, n4, n5, n6, n7, n8⟩ := nums_ok h1
    rw [decide_eq_true h0, if_neg (by simpa using h0)]
    simp only [Bool.not_true, bif_ff]
    by_cases h6 : s.Heard ≠ -1 ∨ s.Told ≠ -1
    · rw [if_pos h6, show ((!decide (s.Heard = -1)) || !decide (s.Told = -1)) = true by simpa [Decidable.not_and_iff_or_not] using h6]; rfl
    · rw [if_neg h6, show ((!decide (s.Heard = -1)) || !decide (s.Told = -1)) = false by simpa using h6, bif_ff]
      by_cases h7 : s.Mine ≤ mine s s.Live
      · rw [if_pos h7, decide_eq_true h7]; rfl
      · rw [if_neg h7, decide_eq_false h7, bif_ff]
        by_cases h8 : 1048576 < s.Next
        · rw [if_pos h8, decide_eq_true h8]; rfl
        · rw [if_neg h8, decide_eq_false h8, bif_ff, w64 (by omega) (by omega), refadd_eq (s := ⟨s.Odd, s.Next + 2, s.Last, s.Live, s.Cut, s.Mine, s.Hers, s.Heard, s.Told⟩) _ (by show s.Live.length ≤ _; omega) (rise_all _ _ h3).2, bnoS]
  · rw [decide_eq_false h0, if_pos h0]; rfl
def beginS (s : StT) (id : Int) : StT × Int × Int :=
  if check s ≠ 0 then (s, 3, 2) else if own s id = true ∨ btw id 1 1048576 = false ∨ id ∈ s.Live then (s, 3, 1) else if id ≤ s.Last then (s, 3, 5) else if -1 < s.Told then (⟨s.Odd, s.Next, id, s.Live, s.Cut, s.Mine, s.Hers, s.Heard, s.Told⟩, 1, 0)
  else if s.Hers ≤ (s.Live.length : Int) - mine s s.Live then (⟨s.Odd, s.Next, id, s.Live, cutl s.Cut id, s.Mine, s.Hers, s.Heard, s.Told⟩, 2, 7)
  else (⟨s.Odd, s.Next, id, ins s.Live id, s.Cut, s.Mine, s.Hers, s.Heard, s.Told⟩, 0, 0)
theorem begin_eq {s : StT} (id : Int) (hl : s.Live.length ≤ 1000) (hc : s.Cut.length ≤ 1000) : stid_Begin s id = some ((beginS s id).1, ⟨(beginS s id).2.1, (beginS s id).2.2⟩) := by
  unfold stid_Begin beginS
  rw [ownh_eq hl hc, bnoS, check_eq hl hc, bnoS]
  simp only [bndD]
  by_cases h0 : check s = 0
  · obtain ⟨h1, h2, h3, h4, h5⟩ := check_ok h0
    obtain ⟨n1, n2, n3, n4, n5, n6, n7, n8⟩ := nums_ok h1
    have hmn : mine s s.Live ≤ s.Live.length := List.length_filter_le _ _
    rw [decide_eq_true h0, if_neg (by simpa using h0)]
    simp only [Bool.not_true, bif_ff, own_eq, bnoS, inB, contains_eq _ (show s.Live.length ≤ 1000000 by omega)]
    have hJ : ∀ v : Bool, stid_Begin_J0 s id (s.Odd, s.Next, s.Last, s.Live, s.Cut, s.Mine, s.Hers, s.Heard, s.Told) v = if v = true then some (s, ⟨3, 1⟩) else
        if id ≤ s.Last then some (s, ⟨3, 5⟩) else if -1 < s.Told then some (⟨s.Odd, s.Next, id, s.Live, s.Cut, s.Mine, s.Hers, s.Heard, s.Told⟩, ⟨1, 0⟩) else
        if s.Hers ≤ (s.Live.length : Int) - mine s s.Live then some (⟨s.Odd, s.Next, id, s.Live, cutl s.Cut id, s.Mine, s.Hers, s.Heard, s.Told⟩, ⟨2, 7⟩) else some (⟨s.Odd, s.Next, id, ins s.Live id, s.Cut, s.Mine, s.Hers, s.Heard, s.Told⟩, ⟨0, 0⟩) := fun v => by
      unfold stid_Begin_J0
      cases v
      · simp only [bif_ff, bndD, Bool.false_eq_true, if_false]
        by_cases h6 : id ≤ s.Last
        · rw [decide_eq_true h6, if_pos h6]; rfl
        · rw [decide_eq_false h6, if_neg h6, bif_ff]
          by_cases h7 : -1 < s.Told
          · rw [decide_eq_true h7, if_pos h7]; rfl
          · rw [decide_eq_false h7, if_neg h7, bif_ff, count_eq (by omega), bnoS]
            by_cases h8 : s.Hers ≤ (s.Live.length : Int) - mine s s.Live
            · rw [decide_eq_true h8, if_pos h8, bif_tt, slain_eq (by omega), bnoS]
            · rw [decide_eq_false h8, if_neg h8, bif_ff, born_eq (by omega) (rise_all _ _ h3).2, bnoS]
      · rfl
    simp only [hJ]
    by_cases h6 : own s id = true ∨ btw id 1 1048576 = false ∨ id ∈ s.Live
    · rw [if_pos h6]
      cases ho : own s id
      · rw [bif_ff]
        cases hb : btw id 1 1048576
        · rfl
        · rw [ho, hb] at h6
          simp only [Bool.false_eq_true, Bool.true_eq_false, false_or] at h6
          simp only [Bool.not_true, bif_ff, decide_eq_true h6, if_true]
      · rfl
    · rw [if_neg h6]
      simp only [not_or, Bool.not_eq_true, Bool.not_eq_false] at h6
      rw [h6.1, h6.2.1, bif_ff, Bool.not_true, bif_ff, decide_eq_false h6.2.2, if_neg (by simp)]
      repeat' split
      all_goals rfl
  · rw [decide_eq_false h0, if_pos h0]; rfl
theorem refbegin_eq {s : StT} (id : Int) (hl : s.Live.length ≤ 1000) (hc : s.Cut.length ≤ 1000) : sennitref22_Begin s id = some ((beginS s id).1, ⟨(beginS s id).2.1, (beginS s id).2.2⟩) := by
  unfold sennitref22_Begin beginS
  rw [refcount_eq (by omega), bnoS, refcheck_eq hl hc, bnoS]
  simp only [bndD]
  by_cases h0 : check s = 0
  · obtain ⟨h1, h2, h3, h4, h5⟩ := check_ok h0
    obtain ⟨n1, n2, n3, n4, n5, n6, n7, n8⟩ := nums_ok h1
    rw [decide_eq_true h0, if_neg (by simpa using h0)]
    simp only [Bool.not_true, bif_ff, refown_eq, bnoS, refinB]
    by_cases h6 : own s id = true ∨ btw id 1 1048576 = false ∨ id ∈ s.Live
    · rw [if_pos h6]
      cases ho : own s id
      · simp only [beq_self_eq_true, gdtt, bnoS, Bool.false_or]
        cases hb : btw id 1 1048576
        · rfl
        · rw [ho, hb] at h6
          simp only [Bool.false_eq_true, Bool.true_eq_false, false_or] at h6
          simp only [Bool.not_true, beq_self_eq_true, gdtt, is_eq _ (show s.Live.length ≤ 1000000 by omega), bnoS, decide_eq_true h6, Bool.or_true, bif_tt]
      · rfl
    · rw [if_neg h6]
      simp only [not_or, Bool.not_eq_true, Bool.not_eq_false] at h6
      simp only [h6.1, h6.2.1, beq_self_eq_true, gdtt, bnoS, Bool.false_or, Bool.not_true, is_eq _ (show s.Live.length ≤ 1000000 by omega), decide_eq_false h6.2.2, bif_ff]
      by_cases h7 : id ≤ s.Last
      · rw [decide_eq_true h7, if_pos h7]; rfl
      · rw [decide_eq_false h7, if_neg h7, bif_ff]
        by_cases h8 : -1 < s.Told
        · rw [decide_eq_true (show 0 ≤ s.Told by omega), if_pos h8]; rfl
        · rw [decide_eq_false (show ¬ 0 ≤ s.Told by omega), if_neg h8, bif_ff]
          by_cases h9 : s.Hers ≤ (s.Live.length : Int) - mine s s.Live
          · rw [decide_eq_true h9, if_pos h9, bif_tt, refcut_eq _ (by show s.Cut.length ≤ _; omega), bnoS]
          · rw [decide_eq_false h9, if_neg h9, bif_ff, refadd_eq (s := ⟨s.Odd, s.Next, id, s.Live, s.Cut, s.Mine, s.Hers, s.Heard, s.Told⟩) _ (by show s.Live.length ≤ _; omega) (rise_all _ _ h3).2, bnoS]
  · rw [decide_eq_false h0, if_pos h0]; rfl
end Go.Fn
