/-
  A part of the proof: rules and plain facts. No condition.
-/
import Derived.Test.YtalalambgppmpaaIlP22
set_option linter.all false
set_option linter.unusedSimpArgs false
set_option linter.unusedVariables false
open Go Go.IL
namespace Go.Fn
theorem ins_len {l : List Int} (x : Int) : (ins l x).length ≤ 2 * l.length + 1 := by
  unfold ins
  have h1 := List.length_filter_le (fun y => decide (y < x)) l
  have h2 := List.length_filter_le (fun y => decide (x ≤ y)) l
  simp only [List.length_append, List.length_singleton]; omega
theorem cutl_len {c : List Int} (x : Int) : (cutl c x).length ≤ c.length + 1 := by
  unfold cutl; simp
theorem openS_len {s : StT} (hl : s.Live.length ≤ 1000) (hc : s.Cut.length ≤ 1000) : (openS s).1.Live.length ≤ 1000000 ∧ (openS s).1.Cut.length ≤ 1000000 := by
  have := ins_len (l := s.Live) s.Next
  unfold openS; repeat' split
  all_goals constructor <;> first | omega | (show s.Live.length ≤ _; omega) | (show s.Cut.length ≤ _; omega) | (show (ins s.Live s.Next).length ≤ _; omega)
theorem beginS_len {s : StT} (id : Int) (hl : s.Live.length ≤ 1000) (hc : s.Cut.length ≤ 1000) : (beginS s id).1.Live.length ≤ 1000000 ∧ (beginS s id).1.Cut.length ≤ 1000000 ∧ 0 ≤ (beginS s id).2.2 ∧ (beginS s id).2.2 ≤ 7 := by
  have h1 := ins_len (l := s.Live) id
  have h2 := cutl_len (c := s.Cut) id
  unfold beginS; repeat' split
  all_goals (refine ⟨?_, ?_, ?_, ?_⟩ <;> first | (simp only []; omega) | (show (0 : Int) ≤ _; simp; done) | (show (_ : Int) ≤ 7; simp; done) | (show s.Live.length ≤ _; omega) | (show s.Cut.length ≤ _; omega) | (show (ins s.Live id).length ≤ _; omega) | (show (cutl s.Cut id).length ≤ _; omega))
theorem endS_len {s : StT} (id : Int) (c : Bool) (hl : s.Live.length ≤ 1000) (hc : s.Cut.length ≤ 1000) : (endS s id c).Live.length ≤ 1000000 ∧ (endS s id c).Cut.length ≤ 1000000 := by
  have h1 := List.length_filter_le (fun y => !decide (y = id)) s.Live
  have h2 := cutl_len (c := s.Cut) id
  unfold endS; split
  · constructor <;> omega
  · constructor
    · show (s.Live.filter _).length ≤ _; omega
    · show (if c = true then cutl s.Cut id else s.Cut).length ≤ _; split <;> omega
theorem awayS_len {s : StT} (id : Int) (hl : s.Live.length ≤ 1000) (hc : s.Cut.length ≤ 1000) : (awayS s id).1.Live.length ≤ 1000000 ∧ (awayS s id).1.Cut.length ≤ 1000000 ∧ (awayS s id).2.1.length ≤ 1000000 := by
  have h1 := List.length_filter_le (fun y => !lost s id y) s.Live
  have h2 := List.length_filter_le (lost s id) s.Live
  unfold awayS; split
  · exact ⟨by show s.Live.length ≤ _; omega, by show s.Cut.length ≤ _; omega, by show (0 : Nat) ≤ _; omega⟩
  · exact ⟨by show (s.Live.filter _).length ≤ _; omega, by show s.Cut.length ≤ _; omega, by show (s.Live.filter _).length ≤ _; omega⟩
theorem shutS_len {s : StT} (hl : s.Live.length ≤ 1000) (hc : s.Cut.length ≤ 1000) : (shutS s).1.Live.length ≤ 1000000 ∧ (shutS s).1.Cut.length ≤ 1000000 := by
  unfold shutS; repeat' split
  all_goals exact ⟨by show s.Live.length ≤ _; omega, by show s.Cut.length ≤ _; omega⟩
theorem stidChanges (s : StT) (id : Int) (c : Bool) : sennitlaw22_StidChanges s id c = some true := by
  unfold sennitlaw22_StidChanges sennitref22_Light sennitlaw22_Back sennitlaw22_verdict
  simp only [bndD, bnoS]
  by_cases h : (s.Live.length : Int) ≤ 30 ∧ (s.Cut.length : Int) ≤ 30
  · have hl : s.Live.length ≤ 1000 := by omega
    have hc : s.Cut.length ≤ 1000 := by omega
    have a1 := openS_len hl hc
    have a2 := beginS_len id hl hc
    have a3 := endS_len id c hl hc
    have a4 := awayS_len id hl hc
    have a5 := shutS_len hl hc
    simp only [decide_eq_true h.1, decide_eq_true h.2, Bool.and_self, Bool.not_true, bif_ff, open_eq hl hc, refopen_eq hl hc, begin_eq id hl hc, refbegin_eq id hl hc, end_eq id c hl hc, refend_eq id c hl hc, away_eq id hl hc, refaway_eq id hl hc, shut_eq hl hc, refshut_eq hl hc, bnoS,
      refsame_self a1.1 a1.2, decide_true, beq_self_eq_true, gdtt, refsame_self a2.1 a2.2.1, w64 (show -9223372036854775808 ≤ (beginS s id).2.2 by omega) (by omega), refsame_self a3.1 a3.2, refsame_self a4.1 a4.2.1, sameints22 a4.2.2, refsame_self a5.1 a5.2, Bool.and_true,
      refsame_self (s := s) (by omega) (by omega), awake22]
  · have : (decide ((s.Live.length : Int) ≤ 30) && decide ((s.Cut.length : Int) ≤ 30)) = false := by simpa using h
    rw [this, Bool.not_false, bif_tt, awake22, bnoS]
end Go.Fn
