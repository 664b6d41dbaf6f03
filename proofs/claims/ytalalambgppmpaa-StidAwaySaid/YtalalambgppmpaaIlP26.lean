/-
  A part of the proof: rules and plain facts. No condition.
-/
import Derived.Test.YtalalambgppmpaaIlP25
set_option linter.all false
set_option linter.unusedSimpArgs false
set_option linter.unusedVariables false
open Go Go.IL
namespace Go.Fn
theorem openS_cases {s : StT} (h : Good s) : (∃ e : Int, e ≠ 0 ∧ openS s = (s, 0, e)) ∨ (s.Heard = -1 ∧ s.Told = -1 ∧ (mine s s.Live : Int) < s.Mine ∧ s.Next ≤ 1048576 ∧ openS s = (⟨s.Odd, s.Next + 2, s.Last, ins s.Live s.Next, s.Cut, s.Mine, s.Hers, s.Heard, s.Told⟩, s.Next, 0)) := by
  have h0 := h.check
  unfold openS
  rw [if_neg (by simpa using h0)]
  by_cases h6 : s.Heard ≠ -1 ∨ s.Told ≠ -1
  · left; exact ⟨14, by decide, by rw [if_pos h6]⟩
  · rw [if_neg h6]
    by_cases h7 : s.Mine ≤ mine s s.Live
    · left; exact ⟨7, by decide, by rw [if_pos h7]⟩
    · rw [if_neg h7]
      by_cases h8 : 1048576 < s.Next
      · left; exact ⟨8, by decide, by rw [if_pos h8]⟩
      · right; rw [if_neg h8]; exact ⟨by omega, by omega, by omega, by omega, rfl⟩
theorem beginS_cases {s : StT} (h : Good s) (id : Int) : (∃ sc co : Int, sc ≠ 0 ∧ beginS s id = (s, sc, co)) ∨ (own s id = false ∧ (1 ≤ id ∧ id ≤ 1048576) ∧ id ∉ s.Live ∧ s.Last < id ∧
    (beginS s id = (⟨s.Odd, s.Next, id, s.Live, s.Cut, s.Mine, s.Hers, s.Heard, s.Told⟩, 1, 0) ∨ beginS s id = (⟨s.Odd, s.Next, id, s.Live, cutl s.Cut id, s.Mine, s.Hers, s.Heard, s.Told⟩, 2, 7) ∨
     (s.Told = -1 ∧ (s.Live.length : Int) - mine s s.Live < s.Hers ∧ beginS s id = (⟨s.Odd, s.Next, id, ins s.Live id, s.Cut, s.Mine, s.Hers, s.Heard, s.Told⟩, 0, 0)))) := by
  have h0 := h.check
  have ht := h.td
  unfold beginS
  rw [if_neg (by simpa using h0)]
  by_cases h6 : own s id = true ∨ btw id 1 1048576 = false ∨ id ∈ s.Live
  · left; exact ⟨3, 1, by decide, by rw [if_pos h6]⟩
  · rw [if_neg h6]
    simp only [not_or, Bool.not_eq_true, Bool.not_eq_false] at h6
    obtain ⟨a1, a2, a3⟩ := h6
    have a2 : 1 ≤ id ∧ id ≤ 1048576 := by simpa [btw] using a2
    by_cases h7 : id ≤ s.Last
    · left; exact ⟨3, 5, by decide, by rw [if_pos h7]⟩
    · rw [if_neg h7]
      right
      refine ⟨a1, a2, a3, by omega, ?_⟩
      by_cases h8 : -1 < s.Told
      · left; rw [if_pos h8]
      · rw [if_neg h8]
        by_cases h9 : s.Hers ≤ (s.Live.length : Int) - mine s s.Live
        · right; left; rw [if_pos h9]
        · right; right; rw [if_neg h9]; exact ⟨by omega, by omega, rfl⟩
structure Inv (s : StT) (seen : List Bool) (away shut : Bool) (i : Nat) : Prop where
  g : Good s
  mi : s.Mine = 8
  he : s.Hers = 5
  sl : seen.length = 600
  live : ∀ x ∈ s.Live, 1 ≤ x ∧ x ≤ 599 ∧ seen[x.toNat]? = some true
  sb : ∀ n : Nat, seen[n]? = some true → began s (n : Int) = true
  mn : mine s s.Live ≤ 8
  hr : s.Live.length ≤ mine s s.Live + 5
  nx : s.Next ≤ 2 + 2 * i
  aw : away = true → -1 < s.Heard
  sh : shut = true → -1 < s.Told
theorem once_L3 {s : StT} {seen : List Bool} {away shut : Bool} {i : Int} {kk0} (hl : s.Live.length ≤ 16) (hs : seen.length = 600) (hv : ∀ x ∈ s.Live, 1 ≤ x ∧ x ≤ 599 ∧ seen[x.toNat]? = some true) : ∀ (r p : List Int) (f : Nat), s.Live = p ++ r → r.length < f →
    sennitlaw22_StidOnce_L3 i kk0 away shut seen s.Odd s.Next s.Last s.Live s.Cut s.Mine s.Hers s.Heard s.Told f (p.length : Int) = kk0 away shut (IntKind.wrap .i64 (i + 1)) s.Odd s.Next s.Last s.Live s.Cut s.Mine s.Hers s.Heard s.Told seen
  | [], p, f + 1, h, _ => by
    unfold sennitlaw22_StidOnce_L3
    simp only [bndD, lt_end h, bif_ff]
  | y :: r, p, f + 1, h, hf => by
    unfold sennitlaw22_StidOnce_L3
    obtain ⟨v1, v2, v3⟩ := hv y (by rw [h]; simp)
    simp only [bndD, lt_at h, bif_tt, gix_at h, bnoS, decide_eq_false (show ¬ y < 1 by omega), beq_self_eq_true, gdtt, decide_eq_false (show ¬ 599 < y by omega), Bool.or_self, gix_lit _ (show 0 ≤ y by omega), v3, chk_t (fun _ => hs), Bool.not_true, bif_ff, w_at h (show s.Live.length ≤ 1000000 by omega)]
    exact once_L3 hl hs hv r (p ++ [y]) f (next_at h) (by simpa using hf)
theorem once_J2 {s : StT} {seen : List Bool} {away shut : Bool} {i k : Nat} {kk0} (hi : i ≤ 1000) (h : Inv s seen away shut k) :
    sennitlaw22_StidOnce_J2 (i : Int) kk0 away shut seen s.Odd s.Next s.Last s.Live s.Cut s.Mine s.Hers s.Heard s.Told = kk0 away shut ((i + 1 : Nat) : Int) s.Odd s.Next s.Last s.Live s.Cut s.Mine s.Hers s.Heard s.Told seen := by
  unfold sennitlaw22_StidOnce_J2
  have hlen := h.g.len
  have hcl := h.g.cl
  have hr := h.hr
  have e : (⟨s.Odd, s.Next, s.Last, s.Live, s.Cut, s.Mine, s.Hers, s.Heard, s.Told⟩ : T_stid_State) = s := rfl
  rw [e, count_eq (by omega), bnoS, check_eq (by omega) (by omega), bnoS, h.g.check]
  simp only [bndD, decide_true, Bool.not_true, Bool.false_or]
  rw [decide_eq_false (by omega), bif_ff]
  have := once_L3 (i := (i : Int)) (away := away) (shut := shut) (kk0 := kk0) hlen h.sl h.live s.Live [] fuel rfl (fuel_gt (by omega))
  have this : sennitlaw22_StidOnce_L3 (i : Int) kk0 away shut seen s.Odd s.Next s.Last s.Live s.Cut s.Mine s.Hers s.Heard s.Told fuel 0 = _ := this
  rw [this, w64 (by omega) (by omega)]; rfl
theorem mine_odd {s s' : StT} (ho : s'.Odd = s.Odd) (l : List Int) : mine s' l = mine s l := by
  unfold mine
  rw [show own s' = own s from funext (own_same ho)]
theorem mine_filt (s : StT) (q : Int → Bool) : ∀ (l : List Int), (l.filter q).length + mine s l ≤ l.length + mine s (l.filter q)
  | [] => by simp [mine]
  | y :: l => by
    have ih := mine_filt s q l
    unfold mine at *
    cases hq : q y
    · rw [List.filter_cons_of_neg (p := q) (by simp [hq])]
      cases ho : own s y
      · rw [List.filter_cons_of_neg (p := own s) (by simp [ho])]; simp only [List.length_cons]; omega
      · rw [List.filter_cons_of_pos (p := own s) (by simp [ho])]; simp only [List.length_cons]; omega
    · rw [List.filter_cons_of_pos (p := q) (by simp [hq])]
      cases ho : own s y
      · rw [List.filter_cons_of_neg (p := own s) (l := l) (by simp [ho]), List.filter_cons_of_neg (p := own s) (l := l.filter q) (by simp [ho])]; simp only [List.length_cons]; omega
      · rw [List.filter_cons_of_pos (p := own s) (l := l) (by simp [ho]), List.filter_cons_of_pos (p := own s) (l := l.filter q) (by simp [ho])]; simp only [List.length_cons]; omega
theorem mine_filt_le (s : StT) (q : Int → Bool) (l : List Int) : mine s (l.filter q) ≤ mine s l := by
  unfold mine
  exact ((List.filter_sublist (p := q) (l := l)).filter (own s)).length_le
end Go.Fn
