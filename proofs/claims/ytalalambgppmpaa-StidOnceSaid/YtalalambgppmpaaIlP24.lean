/-
  A part of the proof: rules and plain facts. No condition.
-/
import Derived.Test.YtalalambgppmpaaIlP23
set_option linter.all false
set_option linter.unusedSimpArgs false
set_option linter.unusedVariables false
open Go Go.IL
namespace Go.Fn
theorem aparts_iff {s : StT} : ∀ (r p : List Int), aparts s p r = true ↔ (∀ x ∈ r, began s x = true ∧ x ∉ s.Live ∧ x ∉ p) ∧ r.Nodup
  | [], p => by simp [aparts]
  | y :: r, p => by
    simp only [aparts, Bool.and_eq_true, Bool.not_eq_true', decide_eq_false_iff_not, aparts_iff r (p ++ [y]), List.mem_append, not_or, List.mem_singleton, List.nodup_cons, List.mem_cons]
    constructor
    · rintro ⟨⟨h1, h2, h3⟩, h4, h5⟩
      refine ⟨fun x hx => ?_, fun hy => (h4 y hy).2.2.2.1 rfl, h5⟩
      rcases hx with rfl | hx
      · exact ⟨h1, h2, h3⟩
      · exact ⟨(h4 x hx).1, (h4 x hx).2.1, (h4 x hx).2.2.1⟩
    · rintro ⟨h1, h2, h3⟩
      refine ⟨⟨(h1 y (.inl rfl)).1, (h1 y (.inl rfl)).2.1, (h1 y (.inl rfl)).2.2⟩, fun x hx => ⟨(h1 x (.inr hx)).1, (h1 x (.inr hx)).2.1, (h1 x (.inr hx)).2.2, fun e => h2 (e ▸ hx), List.not_mem_nil⟩, h3⟩
structure Good (s : StT) : Prop where
  nx : 1 ≤ s.Next ∧ s.Next ≤ 1048578
  nxo : own s s.Next = true
  la : 0 ≤ s.Last ∧ s.Last ≤ 1048576
  lao : own s s.Last = false
  hd : -1 ≤ s.Heard ∧ s.Heard ≤ 1048576
  td : -1 ≤ s.Told ∧ s.Told ≤ 1048576
  mi : 0 ≤ s.Mine ∧ s.Mine ≤ 8
  he : 0 ≤ s.Hers ∧ s.Hers ≤ 8
  len : s.Live.length ≤ 16
  lv : ∀ x ∈ s.Live, began s x = true
  pw : s.Live.Pairwise (· < ·)
  cl : s.Cut.length ≤ 8
  cu : ∀ x ∈ s.Cut, began s x = true ∧ x ∉ s.Live
  nd : s.Cut.Nodup
theorem good_of {s : StT} (h : check s = 0) : Good s := by
  obtain ⟨h1, h2, h3, h4, h5⟩ := check_ok h
  obtain ⟨n1, n2, n3, n4, n5, n6, n7, n8⟩ := nums_ok h1
  obtain ⟨r1, r2⟩ := rise_all _ _ h3
  obtain ⟨a1, a2⟩ := (aparts_iff _ _).1 h5
  exact ⟨n1, n2, n3, n4, n5, n6, n7, n8, h2, fun x hx => (r1 x hx).2, r2, h4, fun x hx => ⟨(a1 x hx).1, (a1 x hx).2.1⟩, a2⟩
theorem Good.check {s : StT} (h : Good s) : check s = 0 := by
  refine check_of ?_ h.len (rise_of _ _ (fun x hx => ⟨began_pos (h.lv x hx), h.lv x hx⟩) h.pw) h.cl ((aparts_iff _ _).2 ⟨fun x hx => ⟨(h.cu x hx).1, (h.cu x hx).2, by simp⟩, h.nd⟩)
  unfold nums btw
  rw [decide_eq_true h.nx.1, decide_eq_true h.nx.2, h.nxo, decide_eq_true h.la.1, decide_eq_true h.la.2, h.lao, decide_eq_true h.hd.1, decide_eq_true h.hd.2, decide_eq_true h.td.1, decide_eq_true h.td.2, decide_eq_true h.mi.1, decide_eq_true h.mi.2, decide_eq_true h.he.1, decide_eq_true h.he.2]
  rfl
theorem mem_ins {l : List Int} {x y : Int} : y ∈ ins l x ↔ y = x ∨ y ∈ l := by
  unfold ins
  simp only [List.mem_append, List.mem_filter, List.mem_singleton, decide_eq_true_eq]
  constructor
  · rintro ((⟨h, _⟩ | h) | ⟨h, _⟩)
    · exact .inr h
    · exact .inl h
    · exact .inr h
  · rintro (h | h)
    · exact .inl (.inr h)
    · rcases Int.lt_or_le y x with h1 | h1
      · exact .inl (.inl ⟨h, h1⟩)
      · exact .inr ⟨h, h1⟩
theorem pw_ins {l : List Int} {x : Int} (h : l.Pairwise (· < ·)) (hx : x ∉ l) : (ins l x).Pairwise (· < ·) := by
  unfold ins
  refine List.pairwise_append.2 ⟨List.pairwise_append.2 ⟨h.filter _, List.pairwise_singleton _ _, ?_⟩, h.filter _, ?_⟩
  · intro a ha b hb
    rw [List.mem_singleton.1 hb]; simpa using (List.mem_filter.1 ha).2
  · intro a ha b hb
    have hb1 := (List.mem_filter.1 hb).1
    have hb2 : x ≤ b := by simpa using (List.mem_filter.1 hb).2
    have hne : x ≠ b := fun e => hx (e ▸ hb1)
    rcases List.mem_append.1 ha with ha | ha
    · have : a < x := by simpa using (List.mem_filter.1 ha).2
      omega
    · rw [List.mem_singleton.1 ha]; omega
theorem filt_split (q : Int → Bool) (x : Int) : ∀ (l : List Int), ((l.filter (fun y => decide (y < x))).filter q).length + ((l.filter (fun y => decide (x ≤ y))).filter q).length = (l.filter q).length
  | [] => rfl
  | y :: l => by
    have ih := filt_split q x l
    rcases Int.lt_or_le y x with h | h
    · rw [List.filter_cons_of_pos (by simpa using h), List.filter_cons_of_neg (p := fun y => decide (x ≤ y)) (by simp; omega)]
      cases hq : q y
      · rw [List.filter_cons_of_neg (by simp [hq]), List.filter_cons_of_neg (by simp [hq])]; exact ih
      · rw [List.filter_cons_of_pos (by simp [hq]), List.filter_cons_of_pos (by simp [hq])]; simp only [List.length_cons]; omega
    · rw [List.filter_cons_of_neg (by simp; omega), List.filter_cons_of_pos (p := fun y => decide (x ≤ y)) (by simpa using h)]
      cases hq : q y
      · rw [List.filter_cons_of_neg (by simp [hq]), List.filter_cons_of_neg (by simp [hq])]; exact ih
      · rw [List.filter_cons_of_pos (by simp [hq]), List.filter_cons_of_pos (by simp [hq])]; simp only [List.length_cons]; omega
theorem ins_length (l : List Int) (x : Int) : (ins l x).length = l.length + 1 := by
  have := filt_split (fun _ => true) x l
  have e : ∀ m : List Int, m.filter (fun _ => true) = m := fun m => List.filter_eq_self.2 (fun _ _ => rfl)
  rw [e, e, e] at this
  unfold ins; simp only [List.length_append, List.length_singleton]; omega
theorem mine_ins (s : StT) (l : List Int) (x : Int) : mine s (ins l x) = mine s l + if own s x = true then 1 else 0 := by
  have := filt_split (own s) x l
  unfold mine ins
  have hs : ([x].filter (own s)).length = if own s x = true then 1 else 0 := by cases h : own s x <;> simp [h]
  rw [List.filter_append, List.filter_append]
  simp only [List.length_append, hs]
  omega
theorem mem_cutl {c : List Int} {x y : Int} (h : y ∈ cutl c x) : y ∈ c ∨ y = x := by
  unfold cutl at h
  have := List.mem_of_mem_drop h
  simpa using this
theorem nd_cutl {c : List Int} {x : Int} (h : c.Nodup) (hx : x ∉ c) : (cutl c x).Nodup := by
  unfold cutl
  refine List.Sublist.nodup (List.drop_sublist _ _) ?_
  rw [List.nodup_append]
  exact ⟨h, by simp, fun a ha b hb => by rw [List.mem_singleton.1 hb]; rintro rfl; exact hx ha⟩
theorem cutl_le (c : List Int) (x : Int) : (cutl c x).length ≤ 8 := by
  unfold cutl; simp; omega
theorem own_odd {s : StT} {x : Int} (h : own s x = true) : own s (x + 2) = true := by
  unfold own at *
  simp only [Bool.and_eq_true, decide_eq_true_eq, beq_iff_eq] at *
  refine ⟨by omega, ?_⟩
  rw [← h.2]; congr 1; simp
end Go.Fn
