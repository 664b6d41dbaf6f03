/-
  A part of the proof: rules and plain facts. No condition.
-/
import Derived.Test.YtalalambgppmpaaIlP24
set_option linter.all false
set_option linter.unusedSimpArgs false
set_option linter.unusedVariables false
open Go Go.IL
namespace Go.Fn
theorem own_same {s s' : StT} (ho : s'.Odd = s.Odd) (x : Int) : own s' x = own s x := by unfold own; rw [ho]
theorem began_own {s : StT} {x : Int} (h : own s x = true) : began s x = decide (x < s.Next) := by unfold began; rw [if_pos h]
theorem began_not {s : StT} {x : Int} (h : own s x = false) : began s x = (decide (1 ≤ x) && decide (x ≤ s.Last)) := by unfold began; rw [if_neg (by simp [h])]
theorem began_own' {s : StT} {x : Int} (h : own s x = true) (h1 : x < s.Next) : began s x = true := by rw [began_own h]; exact decide_eq_true h1
theorem began_not' {s : StT} {x : Int} (h : own s x = false) (h1 : 1 ≤ x) (h2 : x ≤ s.Last) : began s x = true := by rw [began_not h, decide_eq_true h1, decide_eq_true h2]; rfl
theorem began_mono {s s' : StT} (ho : s'.Odd = s.Odd) (hn : s.Next ≤ s'.Next) (hl : s.Last ≤ s'.Last) {x : Int} (h : began s x = true) : began s' x = true := by
  cases hx : own s x
  · rw [began_not hx] at h
    rw [began_not ((own_same ho x).trans hx)]
    simp at h ⊢; omega
  · rw [began_own hx] at h
    rw [began_own ((own_same ho x).trans hx)]
    simp at h ⊢; omega
theorem next_new {s : StT} (h : Good s) {x : Int} (hb : began s x = true) : x ≠ s.Next := by
  rintro rfl
  rw [began_own h.nxo] at hb; simp at hb
theorem last_new {s : StT} {id x : Int} (ho : own s id = false) (hl : s.Last < id) (hb : began s x = true) : x ≠ id := by
  rintro rfl
  rw [began_not ho] at hb; simp at hb; omega
theorem good_open {s : StT} (h : Good s) (h8 : s.Next ≤ 1048576) (h16 : s.Live.length < 16) : Good ⟨s.Odd, s.Next + 2, s.Last, ins s.Live s.Next, s.Cut, s.Mine, s.Hers, s.Heard, s.Told⟩ := by
  have hb : ∀ x, began s x = true → began ⟨s.Odd, s.Next + 2, s.Last, ins s.Live s.Next, s.Cut, s.Mine, s.Hers, s.Heard, s.Told⟩ x = true := fun x hx => began_mono (s := s) (by rfl) (by show s.Next ≤ s.Next + 2; omega) (by exact Int.le_refl _) hx
  have hn := h.nx
  refine ⟨⟨by show 1 ≤ s.Next + 2; omega, by show s.Next + 2 ≤ _; omega⟩, own_odd h.nxo, h.la, h.lao, h.hd, h.td, h.mi, h.he, by show (ins s.Live s.Next).length ≤ 16; rw [ins_length]; omega, fun x hx => ?_, pw_ins h.pw (fun hm => next_new h (h.lv _ hm) rfl), h.cl, fun x hx => ⟨hb x (h.cu x hx).1, fun hm => ?_⟩, h.nd⟩
  · rcases mem_ins.1 hx with rfl | hx
    · exact began_own' h.nxo (by show s.Next < s.Next + 2; omega)
    · exact hb x (h.lv x hx)
  · rcases mem_ins.1 hm with rfl | hm
    · exact next_new h (h.cu _ hx).1 rfl
    · exact (h.cu x hx).2 hm
theorem good_last {s : StT} {id : Int} (h : Good s) (ho : own s id = false) (hb : 1 ≤ id ∧ id ≤ 1048576) (hl : s.Last < id) : Good ⟨s.Odd, s.Next, id, s.Live, s.Cut, s.Mine, s.Hers, s.Heard, s.Told⟩ := by
  have hg : ∀ x, began s x = true → began ⟨s.Odd, s.Next, id, s.Live, s.Cut, s.Mine, s.Hers, s.Heard, s.Told⟩ x = true := fun x hx => began_mono (s := s) (by rfl) (by exact Int.le_refl _) (by exact Int.le_of_lt hl) hx
  exact ⟨h.nx, h.nxo, ⟨by show 0 ≤ id; omega, hb.2⟩, ho, h.hd, h.td, h.mi, h.he, h.len, fun x hx => hg x (h.lv x hx), h.pw, h.cl, fun x hx => ⟨hg x (h.cu x hx).1, (h.cu x hx).2⟩, h.nd⟩
theorem good_begin {s : StT} {id : Int} (h : Good s) (ho : own s id = false) (hb : 1 ≤ id ∧ id ≤ 1048576) (hl : s.Last < id) (hm : id ∉ s.Live) (h16 : s.Live.length < 16) : Good ⟨s.Odd, s.Next, id, ins s.Live id, s.Cut, s.Mine, s.Hers, s.Heard, s.Told⟩ := by
  have hg : ∀ x, began s x = true → began ⟨s.Odd, s.Next, id, ins s.Live id, s.Cut, s.Mine, s.Hers, s.Heard, s.Told⟩ x = true := fun x hx => began_mono (s := s) (by rfl) (by exact Int.le_refl _) (by exact Int.le_of_lt hl) hx
  refine ⟨h.nx, h.nxo, ⟨by show 0 ≤ id; omega, hb.2⟩, ho, h.hd, h.td, h.mi, h.he, by show (ins s.Live id).length ≤ 16; rw [ins_length]; omega, fun x hx => ?_, pw_ins h.pw hm, h.cl, fun x hx => ⟨hg x (h.cu x hx).1, fun hi => ?_⟩, h.nd⟩
  · rcases mem_ins.1 hx with rfl | hx
    · exact began_not' ho hb.1 (Int.le_refl _)
    · exact hg x (h.lv x hx)
  · rcases mem_ins.1 hi with rfl | hi
    · exact last_new ho hl (h.cu _ hx).1 rfl
    · exact (h.cu x hx).2 hi
theorem good_refuse {s : StT} {id : Int} (h : Good s) (ho : own s id = false) (hb : 1 ≤ id ∧ id ≤ 1048576) (hl : s.Last < id) (hm : id ∉ s.Live) : Good ⟨s.Odd, s.Next, id, s.Live, cutl s.Cut id, s.Mine, s.Hers, s.Heard, s.Told⟩ := by
  have hg : ∀ x, began s x = true → began ⟨s.Odd, s.Next, id, s.Live, cutl s.Cut id, s.Mine, s.Hers, s.Heard, s.Told⟩ x = true := fun x hx => began_mono (s := s) (by rfl) (by exact Int.le_refl _) (by exact Int.le_of_lt hl) hx
  refine ⟨h.nx, h.nxo, ⟨by show 0 ≤ id; omega, hb.2⟩, ho, h.hd, h.td, h.mi, h.he, h.len, fun x hx => hg x (h.lv x hx), h.pw, cutl_le _ _, fun x hx => ?_, nd_cutl h.nd (fun hi => last_new ho hl (h.cu _ hi).1 rfl)⟩
  rcases mem_cutl hx with hx | rfl
  · exact ⟨hg x (h.cu x hx).1, (h.cu x hx).2⟩
  · exact ⟨began_not' ho hb.1 (Int.le_refl _), hm⟩
theorem good_filt {s : StT} (h : Good s) (q : Int → Bool) {hd : Int} (h1 : -1 ≤ hd ∧ hd ≤ 1048576) : Good ⟨s.Odd, s.Next, s.Last, s.Live.filter q, s.Cut, s.Mine, s.Hers, hd, s.Told⟩ := by
  have hl : (s.Live.filter q).length ≤ s.Live.length := List.length_filter_le _ _
  have hlen := h.len
  exact ⟨h.nx, h.nxo, h.la, h.lao, h1, h.td, h.mi, h.he, by show (s.Live.filter q).length ≤ 16; omega, fun x hx => h.lv x (List.mem_filter.1 hx).1, h.pw.filter _, h.cl, fun x hx => ⟨(h.cu x hx).1, fun hm => (h.cu x hx).2 (List.mem_filter.1 hm).1⟩, h.nd⟩
theorem good_end {s : StT} (h : Good s) {id : Int} (hm : id ∈ s.Live) (c : Bool) : Good ⟨s.Odd, s.Next, s.Last, s.Live.filter fun y => !decide (y = id), if c = true then cutl s.Cut id else s.Cut, s.Mine, s.Hers, s.Heard, s.Told⟩ := by
  have h1 := good_filt h (fun y => !decide (y = id)) h.hd
  cases c
  · exact h1
  · refine ⟨h1.nx, h1.nxo, h1.la, h1.lao, h1.hd, h1.td, h1.mi, h1.he, h1.len, h1.lv, h1.pw, cutl_le _ _, fun x hx => ?_, nd_cutl h.nd (fun hi => (h.cu _ hi).2 hm)⟩
    rcases mem_cutl hx with hx | rfl
    · exact h1.cu x hx
    · exact ⟨h.lv x hm, fun hf => by have := (List.mem_filter.1 hf).2; simp at this⟩
theorem good_shut {s : StT} (h : Good s) {td : Int} (h1 : -1 ≤ td ∧ td ≤ 1048576) : Good ⟨s.Odd, s.Next, s.Last, s.Live, s.Cut, s.Mine, s.Hers, s.Heard, td⟩ :=
  ⟨h.nx, h.nxo, h.la, h.lao, h.hd, h1, h.mi, h.he, h.len, h.lv, h.pw, h.cl, h.cu, h.nd⟩
def classS (s : StT) (id : Int) : Int :=
  if id = 0 then 0 else if id ∈ s.Live then 2 else if id ∈ s.Cut then 5 else if began s id = true then 4 else if own s id = true then 6 else if btw id 1 1048576 = false then 6 else 1
theorem class_eq {s : StT} (id : Int) (hl : s.Live.length ≤ 1000000) (hc : s.Cut.length ≤ 1000000) : stid_Class s id = some (classS s id) := by
  unfold stid_Class classS
  simp only [bndD, contains_eq id hl, contains_eq id hc, bnoS, began_eq, own_eq, inB]
  by_cases h1 : id = 0
  · rw [decide_eq_true h1, if_pos h1]; rfl
  · rw [decide_eq_false h1, if_neg h1, bif_ff]
    by_cases h2 : id ∈ s.Live
    · rw [decide_eq_true h2, if_pos h2]; rfl
    · rw [decide_eq_false h2, if_neg h2, bif_ff]
      by_cases h3 : id ∈ s.Cut
      · rw [decide_eq_true h3, if_pos h3]; rfl
      · rw [decide_eq_false h3, if_neg h3, bif_ff]
        cases began s id <;> cases own s id <;> cases btw id 1 1048576 <;> rfl
end Go.Fn
