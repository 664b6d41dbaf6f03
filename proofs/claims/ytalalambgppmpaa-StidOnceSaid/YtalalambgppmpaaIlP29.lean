/-
  A part of the proof: rules and plain facts. No condition.
-/
import Derived.Test.YtalalambgppmpaaIlP28
set_option linter.all false
set_option linter.unusedSimpArgs false
set_option linter.unusedVariables false
open Go Go.IL
namespace Go.Fn
theorem new_eq (odd : Bool) : stid_New odd 8 5 = some (⟨odd, if odd = true then 1 else 2, 0, [], [], 8, 5, -1, -1⟩, 0) := by cases odd <;> kernel_rfl
theorem good_new (odd : Bool) : Good ⟨odd, if odd = true then 1 else 2, 0, [], [], 8, 5, -1, -1⟩ := good_of (by cases odd <;> kernel_rfl)
theorem inv_new (odd : Bool) : Inv ⟨odd, if odd = true then 1 else 2, 0, [], [], 8, 5, -1, -1⟩ (List.replicate 600 false) false false 0 := by
  refine ⟨good_new odd, rfl, rfl, by rw [List.length_replicate], fun x hx => (List.not_mem_nil hx).elim, fun n hn => ?_, Nat.zero_le _, Nat.zero_le _, ?_, fun h => (by cases h), fun h => (by cases h)⟩
  · rw [List.getElem?_replicate] at hn
    split at hn <;> cases hn
  · show (if odd = true then (1 : Int) else 2) ≤ _
    split <;> omega
theorem stidOnce (odd : Bool) (l : List T_sennitlaw22_Act) (hk : ∀ a ∈ l, actOk a) : sennitlaw22_StidOnce odd l = some true := by
  unfold sennitlaw22_StidOnce
  simp only [bndD]
  by_cases h : (100 : Int) < l.length
  · rw [decide_eq_true h, bif_tt, awake22, bnoS]
  · rw [decide_eq_false h, bif_ff, new_eq, bnoS]
    simp only [decide_true, Bool.not_true, bif_ff]
    have h0 := once_L0 (by omega) hk l [] fuel _ _ false false rfl (fuel_gt (by omega)) (inv_new odd)
    exact h0
structure InvA (s : StT) : Prop where
  g : Good s
  mi : s.Mine = 8
  he : s.Hers = 5
  mn : mine s s.Live ≤ 8
  hr : s.Live.length ≤ mine s s.Live + 5
  hd : s.Heard = -1
theorem invA_new (odd : Bool) : InvA ⟨odd, if odd = true then 1 else 2, 0, [], [], 8, 5, -1, -1⟩ := ⟨good_new odd, rfl, rfl, Nat.zero_le _, Nat.zero_le _, rfl⟩
theorem invA_open {s : StT} (h : InvA s) : InvA (openS s).1 := by
  rcases openS_cases h.g with ⟨e', he', ho⟩ | ⟨o1, o2, o3, o4, ho⟩
  · rw [ho]; exact h
  · have hmi := h.mi
    have hr := h.hr
    have hme : mine (⟨s.Odd, s.Next + 2, s.Last, ins s.Live s.Next, s.Cut, s.Mine, s.Hers, s.Heard, s.Told⟩ : StT) (ins s.Live s.Next) = mine s s.Live + 1 := by
      rw [mine_odd (s := s) (by rfl), mine_ins, if_pos h.g.nxo]
    rw [ho]
    exact ⟨good_open h.g o4 (by omega), hmi, h.he, by show mine _ (ins s.Live s.Next) ≤ 8; rw [hme]; omega, by show (ins s.Live s.Next).length ≤ mine _ (ins s.Live s.Next) + 5; rw [hme, ins_length]; omega, h.hd⟩
theorem invA_begin {s : StT} (h : InvA s) (id : Int) : InvA (beginS s id).1 := by
  rcases beginS_cases h.g id with ⟨sc, co, hsc, hb⟩ | ⟨b1, b2, b3, b4, hb | hb | ⟨b5, b6, hb⟩⟩
  · rw [hb]; exact h
  · rw [hb]; exact ⟨good_last h.g b1 b2 b4, h.mi, h.he, h.mn, h.hr, h.hd⟩
  · rw [hb]; exact ⟨good_refuse h.g b1 b2 b4 b3, h.mi, h.he, h.mn, h.hr, h.hd⟩
  · have hhe := h.he
    have hr := h.hr
    have hmn := h.mn
    have hme : mine (⟨s.Odd, s.Next, id, ins s.Live id, s.Cut, s.Mine, s.Hers, s.Heard, s.Told⟩ : StT) (ins s.Live id) = mine s s.Live := by
      rw [mine_odd (s := s) (by rfl), mine_ins, b1]; rfl
    rw [hb]
    exact ⟨good_begin h.g b1 b2 b4 b3 (by omega), h.mi, h.he, by show mine _ (ins s.Live id) ≤ 8; rw [hme]; exact hmn, by show (ins s.Live id).length ≤ mine _ (ins s.Live id) + 5; rw [hme, ins_length]; omega, h.hd⟩
theorem invA_end {s : StT} (h : InvA s) (id : Int) (c : Bool) : InvA (endS s id c) := by
  unfold endS
  split
  · exact h
  · rename_i h1
    simp only [not_or, Decidable.not_not] at h1
    have hr := h.hr
    have hmn := h.mn
    have m1 := mine_filt s (fun y => !decide (y = id)) s.Live
    have m2 := mine_filt_le s (fun y => !decide (y = id)) s.Live
    exact ⟨good_end h.g h1.2 c, h.mi, h.he, by show mine s (s.Live.filter _) ≤ 8; omega, by show (s.Live.filter _).length ≤ mine s (s.Live.filter _) + 5; omega, h.hd⟩
theorem mine_lost (s : StT) (n : Int) : ∀ (l : List Int), mine s (l.filter fun y => !lost s n y) + (l.filter (lost s n)).length = mine s l ∧ (l.filter fun y => !lost s n y).length + (l.filter (lost s n)).length = l.length
  | [] => ⟨rfl, rfl⟩
  | y :: l => by
    obtain ⟨h1, h2⟩ := mine_lost s n l
    unfold mine at *
    cases ho : own s y <;> cases hq : lost s n y
    · rw [List.filter_cons_of_pos (p := fun y => !lost s n y) (by simp [hq]), List.filter_cons_of_neg (p := own s) (by simp [ho]), List.filter_cons_of_neg (p := lost s n) (by simp [hq]), List.filter_cons_of_neg (p := own s) (l := l) (by simp [ho])]
      simp only [List.length_cons]; omega
    · exfalso; simp [lost, ho] at hq
    · rw [List.filter_cons_of_pos (p := fun y => !lost s n y) (by simp [hq]), List.filter_cons_of_pos (p := own s) (by simp [ho]), List.filter_cons_of_neg (p := lost s n) (by simp [hq]), List.filter_cons_of_pos (p := own s) (l := l) (by simp [ho])]
      simp only [List.length_cons]; omega
    · rw [List.filter_cons_of_neg (p := fun y => !lost s n y) (by simp [hq]), List.filter_cons_of_pos (p := lost s n) (by simp [hq]), List.filter_cons_of_pos (p := own s) (l := l) (by simp [ho])]
      simp only [List.length_cons]; omega
def lastOk (x : T_anon70) : Prop := (0 ≤ x.c0 ∧ x.c0 ≤ 255) ∧ 0 ≤ x.c1 ∧ x.c1 ≤ 255
def backA (s : StT) (n : Int) : StT := ⟨s.Odd, s.Next, s.Last, s.Live.filter fun y => !lost s n y, s.Cut, s.Mine, s.Hers, n, s.Told⟩
theorem away_first {s : StT} (h : InvA s) {n : Int} (h0 : 0 ≤ n) (h1 : n ≤ 255) : awayS s n = (backA s n, s.Live.filter (lost s n), true) := by
  have := h.hd
  have e : btw n 0 1048576 = true := by simp [btw]; omega
  unfold awayS
  rw [if_neg (by rw [h.g.check, e]; simp; omega)]
  rfl
theorem away_second {s : StT} (h : Good s) {k n : Int} (hh : s.Heard = k) (hk : 0 ≤ k) (h0 : 0 ≤ n) (h1 : n ≤ 255) : (n ≤ k ∧ awayS s n = (backA s n, s.Live.filter (lost s n), true)) ∨ (k < n ∧ awayS s n = (s, [], false)) := by
  have e : btw n 0 1048576 = true := by simp [btw]; omega
  unfold awayS
  by_cases hc : k < n
  · right; exact ⟨hc, by rw [if_pos (.inr (.inr (by omega)))]⟩
  · left; refine ⟨by omega, ?_⟩
    rw [if_neg (by rw [h.check, e]; simp; omega)]
    rfl
theorem away_L1 {a2 : T_anon70} {x80 x85 x86 : Int × Int} {A B : StT × List Int × Bool} (ha : lastOk a2) (hl : A.1.Live.length ≤ 1000) (hq : ∀ x ∈ A.1.Live, own A.1 x = true → x ≤ a2.c0) (hg : A.2.1.length ≤ 1000) (hx : 0 ≤ x85.1 ∧ x85.1 ≤ 1000)
    (e1 : A.2.2 = true) (e2 : x85.2 = x80.2) (e3 : x85.1 + (A.2.1.length : Int) = x86.1) (e4 : (a2.c1 ≤ a2.c0 ∧ B.2.2 = true) ∨ (a2.c0 < a2.c1 ∧ B.2.2 = false ∧ B.2.1 = [] ∧ stid_Same A.1 B.1 = some true)) (e5 : stid_Check B.1 = some 0) : ∀ (r p : List Int) (f : Nat), A.1.Live = p ++ r → r.length < f →
    sennitlaw22_StidAway_L1 a2 x80 A B x85 x86 f (p.length : Int) = some true
  | [], p, f + 1, h, _ => by
    have e9 : IntKind.wrap .i64 (x85.1 + (A.2.1.length : Int)) = x86.1 := by rw [w64 (by omega) (by omega), e3]
    unfold sennitlaw22_StidAway_L1
    simp only [bndD, lt_end h, bif_ff, e1, e2, e9, decide_true, Bool.and_true, Bool.true_and]
    rcases e4 with ⟨h4, hB⟩ | ⟨h4, hB, hm, hs⟩
    · simp only [hB, decide_eq_true h4, beq_self_eq_true, Bool.true_beq, Bool.and_false, Bool.true_and, gdff, bnoS, bndD, Bool.true_or, gdtt, e5, decide_true, Bool.and_true, Bool.and_self, awake22, tf, Bool.false_and]
    · simp only [hB, hm, List.length_nil, Int.ofNat_zero, Int.natCast_zero, Bool.and_true, Bool.true_and, decide_true, tf, ft, decide_eq_false (show ¬ a2.c1 ≤ a2.c0 by omega), beq_self_eq_true, Bool.and_self, decide_true, gdtt, hs, bnoS, bndD, Bool.false_or, e5, awake22]
  | y :: r, p, f + 1, h, hf => by
    unfold sennitlaw22_StidAway_L1
    obtain ⟨⟨k1, k2⟩, k3, k4⟩ := ha
    have hy := hq y (by rw [h]; simp)
    simp only [bndD, lt_at h, bif_tt, gix_at h, bnoS, own_eq, w64 (show -9223372036854775808 ≤ a2.c0 by omega) (by omega)]
    cases ho : own A.1 y
    · simp only [ft, gdff, bnoS, Bool.false_and, bif_ff, bndD, w_at h (show A.1.Live.length ≤ 1000000 by omega)]
      exact away_L1 ⟨⟨k1, k2⟩, k3, k4⟩ hl hq hg hx e1 e2 e3 e4 e5 r (p ++ [y]) f (next_at h) (by simpa using hf)
    · have := hy ho
      simp only [beq_self_eq_true, gdtt, bnoS, bndD, decide_eq_false (show ¬ a2.c0 < y by omega), Bool.and_false, bif_ff, w_at h (show A.1.Live.length ≤ 1000000 by omega)]
      exact away_L1 ⟨⟨k1, k2⟩, k3, k4⟩ hl hq hg hx e1 e2 e3 e4 e5 r (p ++ [y]) f (next_at h) (by simpa using hf)
theorem away_end {s : StT} {a2 : T_anon70} (ha : lastOk a2) (h : InvA s) :
    (bno (stid_Count s) fun x80 => bno (stid_Away s a2.c0) fun x82 => bno (stid_Away x82.1 a2.c1) fun x84 => bno (stid_Count x82.1) fun x85 => bno (stid_Count s) fun x86 => sennitlaw22_StidAway_L1 a2 x80 x82 x84 x85 x86 fuel 0) = some true := by
  obtain ⟨⟨k1, k2⟩, k3, k4⟩ := ha
  have hlen := h.g.len
  have hcl := h.g.cl
  have hg := good_filt h.g (fun y => !lost s a2.c0 y) (hd := a2.c0) ⟨by omega, by omega⟩
  have hg : Good (backA s a2.c0) := hg
  obtain ⟨m1, m2⟩ := mine_lost s a2.c0 s.Live
  have hbl : (backA s a2.c0).Live.length ≤ 16 := hg.len
  have hbc : (backA s a2.c0).Cut.length ≤ 8 := hg.cl
  have hbl' : (s.Live.filter fun y => !lost s a2.c0 y).length ≤ 16 := hg.len
  rw [count_eq (by omega), bnoS, away_eq a2.c0 (by omega) (by omega), bnoS, away_first h k1 k2, away_eq a2.c1 (show (backA s a2.c0).Live.length ≤ 1000 by omega) (show (backA s a2.c0).Cut.length ≤ 1000 by omega), bnoS, count_eq (show (backA s a2.c0).Live.length ≤ 1000000 by omega), bnoS, bnoS]
  have hme : mine (backA s a2.c0) (backA s a2.c0).Live = mine s (s.Live.filter fun y => !lost s a2.c0 y) := mine_odd (s := s) (by rfl) _
  refine away_L1 (A := (backA s a2.c0, s.Live.filter (lost s a2.c0), true)) (B := awayS (backA s a2.c0) a2.c1) ⟨⟨k1, k2⟩, k3, k4⟩ (show (backA s a2.c0).Live.length ≤ 1000 by omega) ?_ (show (s.Live.filter (lost s a2.c0)).length ≤ 1000 by omega) ?_ rfl ?_ ?_ ?_ ?_ (backA s a2.c0).Live [] fuel rfl (fuel_gt (by omega))
  · intro x hx ho
    have h1 := (List.mem_filter.1 hx).2
    have ho : own s x = true := ho
    simp [lost, ho] at h1
    exact h1
  · show (0 : Int) ≤ (mine (backA s a2.c0) (backA s a2.c0).Live : Int) ∧ (mine (backA s a2.c0) (backA s a2.c0).Live : Int) ≤ 1000
    rw [hme]; have := List.length_filter_le (own s) s.Live; unfold mine at *; omega
  · show ((backA s a2.c0).Live.length : Int) - mine (backA s a2.c0) (backA s a2.c0).Live = _
    rw [hme]; show ((s.Live.filter fun y => !lost s a2.c0 y).length : Int) - _ = (s.Live.length : Int) - mine s s.Live; omega
  · show (mine (backA s a2.c0) (backA s a2.c0).Live : Int) + ((s.Live.filter (lost s a2.c0)).length : Int) = (mine s s.Live : Int)
    rw [hme]; omega
  · rcases away_second hg (k := a2.c0) rfl k1 k3 k4 with ⟨h1, h2⟩ | ⟨h1, h2⟩
    · left; rw [h2]; exact ⟨h1, rfl⟩
    · right; rw [h2]; exact ⟨h1, rfl, rfl, same_self (by show (backA s a2.c0).Live.length ≤ _; omega) (by show (backA s a2.c0).Cut.length ≤ _; omega)⟩
  · rcases away_second hg (k := a2.c0) rfl k1 k3 k4 with ⟨h1, h2⟩ | ⟨h1, h2⟩
    · rw [h2]
      have hg2 := good_filt hg (fun y => !lost (backA s a2.c0) a2.c1 y) (hd := a2.c1) ⟨by omega, by omega⟩
      have hg2 : Good (backA (backA s a2.c0) a2.c1) := hg2
      have g1 := hg2.len
      have g2 := hg2.cl
      show stid_Check (backA (backA s a2.c0) a2.c1) = some 0
      rw [check_eq (by omega) (by omega), hg2.check]
    · rw [h2]
      show stid_Check (backA s a2.c0) = some 0
      rw [check_eq (by omega) (by omega), hg.check]
theorem away_L0 {l : List T_sennitlaw22_Act} {a2 : T_anon70} (hl : l.length ≤ 100) (ha : lastOk a2) (hk : ∀ a ∈ l, actOk a) : ∀ (r p : List T_sennitlaw22_Act) (f : Nat) (s : StT), l = p ++ r → r.length < f → InvA s →
    sennitlaw22_StidAway_L0 l a2 f (p.length : Int) s.Odd s.Next s.Last s.Live s.Cut s.Mine s.Hers s.Heard s.Told = some true
  | [], p, f + 1, s, h, _, inv => by
    have e : (⟨s.Odd, s.Next, s.Last, s.Live, s.Cut, s.Mine, s.Hers, s.Heard, s.Told⟩ : T_stid_State) = s := rfl
    obtain ⟨⟨k1, k2⟩, k3, k4⟩ := ha
    unfold sennitlaw22_StidAway_L0
    simp only [bndD, lt_end h, bif_ff, e, w64 (show -9223372036854775808 ≤ a2.c0 by omega) (by omega), w64 (show -9223372036854775808 ≤ a2.c1 by omega) (by omega)]
    exact away_end ⟨⟨k1, k2⟩, k3, k4⟩ inv
  | a :: r, p, f + 1, s, h, hf, inv => by
    obtain ⟨⟨k1, k2⟩, k3, k4⟩ := hk a (by rw [h]; simp)
    have hlen := inv.g.len
    have hcl := inv.g.cl
    have hl1 : s.Live.length ≤ 1000 := by omega
    have hc1 : s.Cut.length ≤ 1000 := by omega
    have next : ∀ (s' : StT), InvA s' → sennitlaw22_StidAway_L0 l a2 f ((p ++ [a]).length : Int) s'.Odd s'.Next s'.Last s'.Live s'.Cut s'.Mine s'.Hers s'.Heard s'.Told = some true := fun s' hi =>
      away_L0 hl ha hk r (p ++ [a]) f s' (next_at h) (by simpa using hf) hi
    have e : (⟨s.Odd, s.Next, s.Last, s.Live, s.Cut, s.Mine, s.Hers, s.Heard, s.Told⟩ : T_stid_State) = s := rfl
    unfold sennitlaw22_StidAway_L0
    simp only [bndD, lt_at h, bif_tt, gix_at h, bnoS, e, w64 (show -9223372036854775808 ≤ a.ID by omega) (by omega), rem_ok k1 (show (0 : Int) < 3 by decide), rem_ok k3 (show (0 : Int) < 4 by decide), open_eq hl1 hc1, begin_eq a.ID hl1 hc1, end_eq a.ID _ hl1 hc1, w_at h (show l.length ≤ 1000000 by omega)]
    by_cases c0 : a.Kind % 3 = 0
    · rw [decide_eq_true c0, bif_tt]
      exact next _ (invA_open inv)
    rw [decide_eq_false c0, bif_ff]
    by_cases c1 : a.Kind % 3 = 1
    · rw [decide_eq_true c1, bif_tt]
      exact next _ (invA_begin inv a.ID)
    rw [decide_eq_false c1, bif_ff]
    exact next _ (invA_end inv a.ID _)
theorem stidAway (odd : Bool) (l : List T_sennitlaw22_Act) (a2 : T_anon70) (ha : lastOk a2) (hk : ∀ a ∈ l, actOk a) : sennitlaw22_StidAway odd l a2 = some true := by
  unfold sennitlaw22_StidAway
  simp only [bndD]
  by_cases h : (60 : Int) < l.length
  · rw [decide_eq_true h, bif_tt, awake22, bnoS]
  · rw [decide_eq_false h, bif_ff, new_eq, bnoS]
    simp only [decide_true, Bool.not_true, bif_ff]
    have h0 := away_L0 (by omega) ha hk l [] fuel _ rfl (fuel_gt (by omega)) (invA_new odd)
    exact h0
end Go.Fn
