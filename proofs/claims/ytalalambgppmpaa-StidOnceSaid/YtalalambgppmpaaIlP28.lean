/-
  A part of the proof: rules and plain facts. No condition.
-/
import Derived.Test.YtalalambgppmpaaIlP27
set_option linter.all false
set_option linter.unusedSimpArgs false
set_option linter.unusedVariables false
open Go Go.IL
namespace Go.Fn
theorem seen_none {s : StT} {seen : List Bool} {n : Nat} (hs : seen.length = 600) (hn : n < 600) (hb : ∀ m : Nat, seen[m]? = some true → began s (m : Int) = true) (h : began s (n : Int) = false) : seen[n]? = some false := by
  rw [List.getElem?_eq_getElem (by omega)]
  cases hv : seen[n] with
  | false => rfl
  | true =>
    have := hb n (by rw [List.getElem?_eq_getElem (by omega), hv])
    rw [h] at this; cases this
def actOk (a : T_sennitlaw22_Act) : Prop := (0 ≤ a.Kind ∧ a.Kind ≤ 255) ∧ 0 ≤ a.ID ∧ a.ID ≤ 255
theorem tf : (true == false) = false := rfl
theorem ft : (false == true) = false := rfl
theorem once_L4 {s : StT} {away shut : Bool} {i : Int} {seen : List Bool} {kk0} {id : Int} {y : StT × List Int × Bool} (hl : y.2.1.length ≤ 1000) (hyl : y.1.Live.length ≤ 1000) (hyc : y.1.Cut.length ≤ 1000) (hq : ∀ x ∈ y.2.1, id < x ∧ own s x = true ∧ classS y.1 x = 4) : ∀ (r p : List Int) (f : Nat), y.2.1 = p ++ r → r.length < f →
    sennitlaw22_StidOnce_L4 away shut i s.Odd s.Next s.Last s.Live s.Cut s.Mine s.Hers s.Heard s.Told seen kk0 id y f (p.length : Int) = sennitlaw22_StidOnce_J2 i kk0 (away || y.2.2) shut seen y.1.Odd y.1.Next y.1.Last y.1.Live y.1.Cut y.1.Mine y.1.Hers y.1.Heard y.1.Told
  | [], p, f + 1, h, _ => by
    unfold sennitlaw22_StidOnce_L4
    simp only [bndD, lt_end h, bif_ff]
  | x :: r, p, f + 1, h, hf => by
    unfold sennitlaw22_StidOnce_L4
    obtain ⟨q1, q2, q3⟩ := hq x (by rw [h]; simp)
    have e : (⟨s.Odd, s.Next, s.Last, s.Live, s.Cut, s.Mine, s.Hers, s.Heard, s.Told⟩ : T_stid_State) = s := rfl
    simp only [e, bndD, lt_at h, bif_tt, gix_at h, bnoS, decide_eq_false (show ¬ x ≤ id by omega), beq_self_eq_true, gdtt, own_eq, q2, Bool.not_true, Bool.or_self, class_eq x (show y.1.Live.length ≤ 1000000 by omega) (show y.1.Cut.length ≤ 1000000 by omega), q3, decide_true, bif_ff, w_at h (show y.2.1.length ≤ 1000000 by omega)]
    exact once_L4 hl hyl hyc hq r (p ++ [x]) f (next_at h) (by simpa using hf)
theorem quo8 {a : Int} (h0 : 0 ≤ a) (h1 : a ≤ 255) : quoI .u8 a 2 = some (a / 2) := by
  unfold quoI
  rw [if_neg (by decide), Int.tdiv_eq_ediv_of_nonneg h0, wU8 (by omega) (by omega)]
theorem class_end {s : StT} (h : Good s) (id : Int) (c : Bool) : ¬ classS (endS s id c) id = 2 := by
  have hm : id ∉ (endS s id c).Live := by
    unfold endS
    split
    · rename_i h1; rcases h1 with h1 | h1
      · exact absurd h.check h1
      · exact h1
    · show id ∉ s.Live.filter _
      intro hf
      have := (List.mem_filter.1 hf).2
      simp at this
  unfold classS
  rw [if_neg hm]
  repeat' split
  all_goals decide
theorem inv_end {s : StT} {seen : List Bool} {away shut : Bool} {i : Nat} (h : Inv s seen away shut i) (id : Int) (c : Bool) : Inv (endS s id c) seen away shut (i + 1) := by
  unfold endS
  split
  · exact h.up
  · rename_i h1
    simp only [not_or, Decidable.not_not] at h1
    exact inv_filt h (fun y => !decide (y = id)) (good_end h.g h1.2 c) rfl rfl rfl rfl rfl rfl rfl h.aw
theorem inv_away {s : StT} {seen : List Bool} {away shut : Bool} {i : Nat} (h : Inv s seen away shut i) (id : Int) : Inv (awayS s id).1 seen (away || (awayS s id).2.2) shut (i + 1) := by
  unfold awayS
  split
  · simp only [Bool.or_false]; exact h.up
  · rename_i h1
    simp only [not_or, Bool.not_eq_false] at h1
    have h2 : 0 ≤ id ∧ id ≤ 1048576 := by simpa [btw] using h1.2.1
    exact inv_filt h (fun y => !lost s id y) (good_filt h.g _ ⟨by omega, h2.2⟩) rfl rfl rfl rfl rfl rfl rfl (fun _ => by show -1 < id; omega)
theorem away_q {s : StT} (h : Good s) (id : Int) : ∀ x ∈ (awayS s id).2.1, id < x ∧ own s x = true ∧ classS (awayS s id).1 x = 4 := by
  unfold awayS
  split
  · intro x hx; exact (List.not_mem_nil hx).elim
  · intro x hx
    obtain ⟨h1, h2⟩ := List.mem_filter.1 hx
    have h3 : id < x ∧ own s x = true := by simpa [lost] using h2
    refine ⟨h3.1, h3.2, ?_⟩
    have hb := h.lv x h1
    unfold classS
    rw [if_neg (by have := began_pos hb; omega), if_neg (fun hf => by have := (List.mem_filter.1 hf).2; rw [h2] at this; cases this), if_neg (fun hc => (h.cu x hc).2 h1), if_pos (began_mono (s := s) (by rfl) (by exact Int.le_refl _) (by exact Int.le_refl _) hb)]
set_option maxHeartbeats 4000000 in
theorem once_L0 {l : List T_sennitlaw22_Act} (hl : l.length ≤ 100) (hk : ∀ a ∈ l, actOk a) : ∀ (r p : List T_sennitlaw22_Act) (f : Nat) (s : StT) (seen : List Bool) (away shut : Bool), l = p ++ r → r.length < f → Inv s seen away shut p.length →
    sennitlaw22_StidOnce_L0 l f away shut (p.length : Int) s.Odd s.Next s.Last s.Live s.Cut s.Mine s.Hers s.Heard s.Told seen = some true
  | [], p, f + 1, s, seen, away, shut, h, _, _ => by
    unfold sennitlaw22_StidOnce_L0
    simp only [bndD, lt_end h, bif_ff, awake22, bnoS]
  | a :: r, p, f + 1, s, seen, away, shut, h, hf, inv => by
    have hpl : p.length ≤ 100 := by rw [h] at hl; simp at hl; omega
    obtain ⟨⟨k1, k2⟩, k3, k4⟩ := hk a (by rw [h]; simp)
    have hlen := inv.g.len
    have hcl := inv.g.cl
    have hl1 : s.Live.length ≤ 1000 := by omega
    have hc1 : s.Cut.length ≤ 1000 := by omega
    have next : ∀ (s' : StT) (seen' : List Bool) (away' shut' : Bool), Inv s' seen' away' shut' (p.length + 1) →
        sennitlaw22_StidOnce_J2 (p.length : Int) (sennitlaw22_StidOnce_L0 l f) away' shut' seen' s'.Odd s'.Next s'.Last s'.Live s'.Cut s'.Mine s'.Hers s'.Heard s'.Told = some true := fun s' seen' away' shut' hi => by
      rw [once_J2 (by omega) hi]
      have := once_L0 hl hk r (p ++ [a]) f s' seen' away' shut' (next_at h) (by simpa using hf) (by simpa using hi)
      rw [List.length_append, List.length_singleton] at this
      exact this
    have e : (⟨s.Odd, s.Next, s.Last, s.Live, s.Cut, s.Mine, s.Hers, s.Heard, s.Told⟩ : T_stid_State) = s := rfl
    unfold sennitlaw22_StidOnce_L0
    simp only [bndD, lt_at h, bif_tt, gix_at h, bnoS, e, w64 (show -9223372036854775808 ≤ a.ID by omega) (by omega), rem_ok k1 (show (0 : Int) < 5 by decide)]
    by_cases c0 : a.Kind % 5 = 0
    · -- Open
      simp only [decide_eq_true c0, bif_tt, open_eq hl1 hc1, bnoS]
      rcases openS_cases inv.g with ⟨e', he', ho⟩ | ⟨o1, o2, o3, o4, ho⟩
      · rw [ho]
        simp only [decide_eq_false he', ft, Bool.false_and, gdff, bnoS, show (False = True) = False from eq_false (by simp), chk, Bool.false_eq_true, false_implies, if_true, bif_ff, bndD]
        exact next s seen away shut inv.up
      · have haw : away = false := by cases ha : away with | false => rfl | true => have := inv.aw ha; omega
        have hsh : shut = false := by cases ha : shut with | false => rfl | true => have := inv.sh ha; omega
        subst haw hsh
        have hnx := inv.nx
        have hg := inv.g.nx
        have hsn : seen[s.Next.toNat]? = some false := seen_none inv.sl (by omega) inv.sb (by rw [show ((s.Next.toNat : Nat) : Int) = s.Next by omega, began_own inv.g.nxo]; simp)
        have hi := inv_open (by omega) inv o3 o4
        have hcls : stid_Class ⟨s.Odd, s.Next + 2, s.Last, ins s.Live s.Next, s.Cut, s.Mine, s.Hers, s.Heard, s.Told⟩ s.Next = some 2 := by
          rw [class_eq _ (by show (ins s.Live s.Next).length ≤ _; rw [ins_length]; omega) (by show s.Cut.length ≤ _; omega)]
          unfold classS
          rw [if_neg (by omega), if_pos (mem_ins.2 (.inl rfl))]
        have hown : own (⟨s.Odd, s.Next + 2, s.Last, ins s.Live s.Next, s.Cut, s.Mine, s.Hers, s.Heard, s.Told⟩ : StT) s.Next = true := inv.g.nxo
        rw [ho]
        simp only [decide_true, decide_eq_false (show ¬ s.Next < 1 by omega), decide_eq_false (show ¬ 599 < s.Next by omega), Bool.or_self, beq_self_eq_true, Bool.and_self, gdtt, gix_lit _ (show 0 ≤ s.Next by omega), hsn, bnoS, chk_t (fun _ => inv.sl), hcls, own_eq, hown, Bool.not_true, Bool.and_false, bif_ff, bif_tt, bndD]
        rw [chk_t inv.sl]
        have h9 := next _ _ _ _ hi
        exact h9
    simp only [decide_eq_false c0, bif_ff]
    by_cases c1 : a.Kind % 5 = 1
    · simp only [decide_eq_true c1, bif_tt, begin_eq a.ID hl1 hc1, bnoS]
      rcases beginS_cases inv.g a.ID with ⟨sc, co, hsc, hb⟩ | ⟨b1, b2, b3, b4, hb | hb | ⟨b5, b6, hb⟩⟩
      · rw [hb]
        simp only [decide_eq_false hsc, ft, Bool.false_and, gdff, bnoS, chk, Bool.false_eq_true, false_implies, if_true, bif_ff, bndD]
        exact next s seen away shut inv.up
      · rw [hb]
        simp only [decide_eq_false (show ¬ (1 : Int) = 0 by decide), ft, Bool.false_and, gdff, bnoS, chk, Bool.false_eq_true, false_implies, if_true, bif_ff, bndD]
        have hi := inv_last inv b1 b2 b4
        have h9 := next _ _ _ _ hi
        exact h9
      · rw [hb]
        simp only [decide_eq_false (show ¬ (2 : Int) = 0 by decide), ft, Bool.false_and, gdff, bnoS, chk, Bool.false_eq_true, false_implies, if_true, bif_ff, bndD]
        have hi := inv_refuse inv b1 b2 b3 b4
        have h9 := next _ _ _ _ hi
        exact h9
      · have hsh : shut = false := by cases ha : shut with | false => rfl | true => have := inv.sh ha; omega
        subst hsh
        have hla := inv.g.la
        have hsn : seen[a.ID.toNat]? = some false := seen_none inv.sl (by omega) inv.sb (by rw [show ((a.ID.toNat : Nat) : Int) = a.ID by omega, began_not b1]; simp; omega)
        have hi := inv_begin inv b1 ⟨b2.1, k4⟩ b3 b4 b6
        have hcls : stid_Class ⟨s.Odd, s.Next, a.ID, ins s.Live a.ID, s.Cut, s.Mine, s.Hers, s.Heard, s.Told⟩ a.ID = some 2 := by
          rw [class_eq _ (by show (ins s.Live a.ID).length ≤ _; rw [ins_length]; omega) (by show s.Cut.length ≤ _; omega)]
          unfold classS
          rw [if_neg (by omega), if_pos (mem_ins.2 (.inl rfl))]
        have hown : own (⟨s.Odd, s.Next, a.ID, ins s.Live a.ID, s.Cut, s.Mine, s.Hers, s.Heard, s.Told⟩ : StT) a.ID = false := b1
        rw [hb]
        simp only [decide_true, beq_self_eq_true, gdtt, gix_lit _ k3, hsn, bnoS, chk_t (fun _ => inv.sl), Bool.or_self, Bool.and_self, hcls, own_eq, hown, Bool.not_true, Bool.and_false, bif_ff, bif_tt, bndD]
        rw [chk_t inv.sl]
        have h9 := next _ _ _ _ hi
        exact h9
    simp only [decide_eq_false c1, bif_ff]
    by_cases c2 : a.Kind % 5 = 2
    · have hcc := class_end inv.g a.ID (decide (a.ID / 2 % 2 = 1))
      have hi := inv_end inv a.ID (decide (a.ID / 2 % 2 = 1))
      have hel := hi.g.len
      have hec := hi.g.cl
      simp only [decide_eq_true c2, bif_tt, quo8 k3 k4, rem_ok (show 0 ≤ a.ID / 2 by omega) (show (0 : Int) < 2 by decide), bnoS, bndD, end_eq a.ID _ hl1 hc1, class_eq a.ID (show (endS s a.ID (decide (a.ID / 2 % 2 = 1))).Live.length ≤ 1000000 by omega) (show (endS s a.ID (decide (a.ID / 2 % 2 = 1))).Cut.length ≤ 1000000 by omega), decide_eq_false hcc, Bool.false_and, bif_ff]
      have h9 := next _ _ _ _ hi
      exact h9
    simp only [decide_eq_false c2, bif_ff]
    by_cases c3 : a.Kind % 5 = 3
    · have hi := inv_away inv a.ID
      have hel := hi.g.len
      have hec := hi.g.cl
      have hgl := awayS_len a.ID hl1 hc1
      have hq := away_q inv.g a.ID
      have hql : (awayS s a.ID).2.1.length ≤ 1000 := by
        have h2 := List.length_filter_le (lost s a.ID) s.Live
        unfold awayS; split
        · show (0 : Nat) ≤ _; omega
        · show (s.Live.filter _).length ≤ _; omega
      simp only [decide_eq_true c3, bif_tt, away_eq a.ID hl1 hc1, bnoS]
      have h4 := once_L4 (s := s) (away := away) (shut := shut) (i := (p.length : Int)) (seen := seen) (kk0 := sennitlaw22_StidOnce_L0 l f) (id := a.ID) (y := awayS s a.ID) hql (by omega) (by omega) hq (awayS s a.ID).2.1 [] fuel rfl (fuel_gt (by omega))
      have h4 : sennitlaw22_StidOnce_L4 away shut (p.length : Int) s.Odd s.Next s.Last s.Live s.Cut s.Mine s.Hers s.Heard s.Told seen (sennitlaw22_StidOnce_L0 l f) a.ID (awayS s a.ID) fuel 0 = _ := h4
      rw [h4]
      have h9 := next _ _ _ _ hi
      exact h9
    simp only [decide_eq_false c3, bif_ff, shut_eq hl1 hc1, bnoS]
    exact next _ _ _ _ (inv_shut inv)
end Go.Fn
