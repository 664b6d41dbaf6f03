/-
  A part of the proof: rules and plain facts. No condition.
-/
import Derived.Test.YtlmdafogcphbbaaIlP7
import Derived.Test.YtlmdafogcphbbaaIlA16D
import Derived.KernelRfl
set_option linter.all false
set_option linter.unusedSimpArgs false
set_option linter.unusedVariables false
open Go Go.IL
namespace Go.Fn

/-! Frames out of bytes that come in pieces. -/
theorem vget_more {s : List UInt8} (h : (vget s).2.2 ≠ 3) (t : List UInt8) : vget (s ++ t) = vget s := by
  cases s with
  | nil => exact absurd rfl h
  | cons b r =>
    by_cases h1 : (b :: r).length < 2 ^ (b.toNat / 64)
    · rw [vget_short h1] at h; exact absurd rfl h
    · have h1' : ¬ (b :: (r ++ t)).length < 2 ^ (b.toNat / 64) := by simp only [List.length_cons, List.length_append] at h1 ⊢; omega
      have htk : (r ++ t).take (2 ^ (b.toNat / 64) - 1) = r.take (2 ^ (b.toNat / 64) - 1) := List.take_append_of_le_length (by simp only [List.length_cons] at h1; omega)
      rw [List.cons_append]
      by_cases h2 : vkind (beN (b.toNat % 64) (r.take (2 ^ (b.toNat / 64) - 1))) = ((b.toNat / 64 : Nat) : Int)
      · rw [vget_ok h1 h2, vget_ok h1' (by rw [htk]; exact h2), htk]
      · rw [vget_form h1 h2, vget_form h1' (by rw [htk]; exact h2)]
theorem getF_more {s : List UInt8} (h : (getF s).2.2 ≠ 3) (t : List UInt8) : getF (s ++ t) = getF s := by
  match s with
  | [] => exact absurd rfl h
  | k :: r =>
    cases hk : knownK (k.toNat : Int) with
    | false => rw [List.cons_append, getF_bad hk, getF_bad hk]
    | true =>
      match r with
      | [] => rw [getF_one hk] at h; exact absurd rfl h
      | b :: q =>
        rw [getF_two hk] at h
        rw [List.cons_append, List.cons_append, getF_two hk, getF_two hk]
        by_cases hb : 1 < b.toNat
        · rw [if_pos hb, if_pos hb]
        · rw [if_neg hb] at h; rw [if_neg hb, if_neg hb]
          by_cases hv : (vget q).2.2 = 0
          · have hm := vget_more (s := q) (by rw [hv]; decide) t
            rw [if_neg (fun e => e hv)] at h
            rw [hm, if_neg (c := (vget q).2.2 ≠ 0) (fun e => e hv), if_neg (c := (vget q).2.2 ≠ 0) (fun e => e hv)]
            by_cases h64 : 64 < (vget q).1
            · rw [if_pos h64, if_pos h64]
            · rw [if_neg h64] at h; rw [if_neg h64, if_neg h64]
              by_cases hl : (q.length : Int) - (vget q).2.1 < (vget q).1
              · rw [if_pos hl] at h; exact absurd rfl h
              · have h3 := vget_size hv
                have h4 := vget_nonneg (s := q)
                rw [if_neg hl, if_neg (by rw [List.length_append]; omega)]
                have : ((q ++ t).drop (vget q).2.1.toNat).take (vget q).1.toNat = (q.drop (vget q).2.1.toNat).take (vget q).1.toNat := by
                  rw [List.drop_append_of_le_length (by omega), List.take_append_of_le_length (by rw [List.length_drop]; omega)]
                rw [this]
          · rw [if_pos hv] at h
            have hm := vget_more (s := q) h t
            rw [hm, if_pos hv, if_pos hv]
theorem getF_take {s : List UInt8} (h : (getF s).2.2 = 0) : getF (s.take (getF s).2.1.toNat) = ((getF s).1, (getF s).2.1, 0) := by
  obtain ⟨h1, h2, h3, h4, h5, h6⟩ := get_again h
  have := get_back h5 h6 h1 []
  rw [h4, List.append_nil] at this
  rw [this, List.length_take]
  congr 2; omega
theorem getF_cut_len {s : List UInt8} (h : (getF s).2.2 = 3) : s.length ≤ 80 := by
  match s with
  | [] => simp
  | k :: r =>
    cases hk : knownK (k.toNat : Int) with
    | false => rw [getF_bad hk] at h; exact absurd h (by decide)
    | true =>
      match r with
      | [] => simp
      | b :: q =>
        rw [getF_two hk] at h
        by_cases hb : 1 < b.toNat
        · rw [if_pos hb] at h; exact absurd h (by decide)
        · rw [if_neg hb] at h
          by_cases hv : (vget q).2.2 = 0
          · rw [if_neg (fun e => e hv)] at h
            have h3 := vget_size hv
            have h8 : (vget q).2.1 ≤ 8 := by
              have := vput_le8 (vget q).1
              rw [(vput_vget hv).2, List.length_take] at this; omega
            by_cases h64 : 64 < (vget q).1
            · rw [if_pos h64] at h; exact absurd h (by decide)
            · rw [if_neg h64] at h
              by_cases hl : (q.length : Int) - (vget q).2.1 < (vget q).1
              · simp only [List.length_cons]; omega
              · rw [if_neg hl] at h
                exfalso
                revert h
                cases hR : readF ((q.drop (vget q).2.1.toNat).take (vget q).1.toNat) ⟨k.toNat, decide ((b.toNat : Int) = 1), 0, 0, 0, 0, 0, 0, [], []⟩ with
                | none => intro h; simp at h
                | some g =>
                  simp only
                  split
                  · intro h; simp at h
                  · rename_i hc
                    intro h
                    simp only at h
                    unfold chkF at h
                    (repeat' split at h) <;> simp at h
          · rw [if_pos hv] at h
            simp only at h
            cases q with
            | nil => simp
            | cons c u =>
              by_cases h1 : (c :: u).length < 2 ^ (c.toNat / 64)
              · have := pow2_k4 (k4 c)
                simp only [List.length_cons] at h1 ⊢; omega
              · by_cases h2 : vkind (beN (c.toNat % 64) (u.take (2 ^ (c.toNat / 64) - 1))) = ((c.toNat / 64 : Nat) : Int)
                · rw [vget_ok h1 h2] at h; simp at h
                · rw [vget_form h1 h2] at h; simp at h

/-- All frames, what is left, and the fault. -/
def eatF : Nat → List UInt8 → List T_frame_Frame × List UInt8 × Int
  | 0, s => ([], s, 0)
  | f + 1, s => if (getF s).2.2 = 0 then ((getF s).1 :: (eatF f (s.drop (getF s).2.1.toNat)).1, (eatF f (s.drop (getF s).2.1.toNat)).2) else if (getF s).2.2 = 3 then ([], s, 0) else ([], [], (getF s).2.2)
def eat (s : List UInt8) : List T_frame_Frame × List UInt8 × Int := eatF (s.length + 1) s
theorem eatF_more : ∀ (f g : Nat) (s : List UInt8), s.length < f → s.length < g → eatF f s = eatF g s
  | 0, _, s, h, _ => by omega
  | _, 0, s, _, h => by omega
  | f + 1, g + 1, s, h1, h2 => by
    unfold eatF
    by_cases h : (getF s).2.2 = 0
    · have h3 := get_again h
      have hd : (s.drop (getF s).2.1.toNat).length = s.length - (getF s).2.1.toNat := List.length_drop
      rw [if_pos h, if_pos h, eatF_more f g _ (by omega) (by omega)]
    · rw [if_neg h, if_neg h]
theorem eat_ok {s : List UInt8} (h : (getF s).2.2 = 0) : eat s = ((getF s).1 :: (eat (s.drop (getF s).2.1.toNat)).1, (eat (s.drop (getF s).2.1.toNat)).2) := by
  have h3 := get_again h
  have hd : (s.drop (getF s).2.1.toNat).length = s.length - (getF s).2.1.toNat := List.length_drop
  unfold eat
  rw [eatF, if_pos h, eatF_more s.length _ _ (by omega) (Nat.lt_succ_self _)]
theorem eat_cut {s : List UInt8} (h : (getF s).2.2 = 3) : eat s = ([], s, 0) := by
  unfold eat; rw [eatF, if_neg (by rw [h]; decide), if_pos h]
theorem eat_bad {s : List UInt8} (h : (getF s).2.2 ≠ 0) (h3 : (getF s).2.2 ≠ 3) : eat s = ([], [], (getF s).2.2) := by
  unfold eat; rw [eatF, if_neg h, if_neg h3]
theorem eat_ind {P : List UInt8 → Prop} (h : ∀ s, ((getF s).2.2 = 0 → P (s.drop (getF s).2.1.toNat)) → P s) (s : List UInt8) : P s := by
  have key : ∀ n (s : List UInt8), s.length < n → P s := by
    intro n
    induction n with
    | zero => intro s hs; omega
    | succ n ih =>
      intro s hs
      refine h s fun h0 => ih _ ?_
      have h3 := get_again h0
      rw [List.length_drop]; omega
  exact key _ s (Nat.lt_succ_self _)
theorem eat_append (s : List UInt8) : ∀ t, eat (s ++ t) = if (eat s).2.2 = 0 then ((eat s).1 ++ (eat ((eat s).2.1 ++ t)).1, (eat ((eat s).2.1 ++ t)).2) else eat s := by
  refine eat_ind (P := fun s => ∀ t, eat (s ++ t) = if (eat s).2.2 = 0 then ((eat s).1 ++ (eat ((eat s).2.1 ++ t)).1, (eat ((eat s).2.1 ++ t)).2) else eat s) ?_ s
  intro s ih t
  by_cases h : (getF s).2.2 = 0
  · have hm := getF_more (s := s) (by rw [h]; decide) t
    have h3 := get_again h
    have hd : (s ++ t).drop (getF s).2.1.toNat = s.drop (getF s).2.1.toNat ++ t := List.drop_append_of_le_length (by omega)
    rw [eat_ok (by rw [hm]; exact h), eat_ok h, hm, hd, ih h t]
    simp only
    split <;> rfl
  · by_cases h3 : (getF s).2.2 = 3
    · rw [eat_cut h3]; simp
    · have hm := getF_more h3 t
      rw [eat_bad (by rw [hm]; exact h) (by rw [hm]; exact h3), eat_bad h h3, hm]
      simp only [if_neg h]
theorem eat_facts (s : List UInt8) : ((eat s).2.2 = 0 → (getF (eat s).2.1).2.2 = 3 ∧ (eat s).2.1.length ≤ s.length) ∧ ((eat s).2.2 ≠ 0 → (eat s).2.1 = []) ∧ (eat s).1.length ≤ s.length ∧ ∀ g ∈ (eat s).1, g.Pairs.length ≤ s.length := by
  refine eat_ind (P := fun s => ((eat s).2.2 = 0 → (getF (eat s).2.1).2.2 = 3 ∧ (eat s).2.1.length ≤ s.length) ∧ ((eat s).2.2 ≠ 0 → (eat s).2.1 = []) ∧ (eat s).1.length ≤ s.length ∧ ∀ g ∈ (eat s).1, g.Pairs.length ≤ s.length) ?_ s
  intro s ih
  by_cases h : (getF s).2.2 = 0
  · have h3 := get_again h
    have hp := getF_pairs s
    obtain ⟨i1, i2, i3, i4⟩ := ih h
    have hd : (s.drop (getF s).2.1.toNat).length = s.length - (getF s).2.1.toNat := List.length_drop
    rw [hd] at i3 i4
    rw [eat_ok h]
    refine ⟨fun e => ⟨(i1 e).1, by have := (i1 e).2; rw [hd] at this; exact Nat.le_trans this (Nat.sub_le _ _)⟩, i2, by rw [List.length_cons]; omega, fun g hg => ?_⟩
    rcases List.mem_cons.1 hg with rfl | hg
    · exact hp.1
    · have := i4 g hg; omega
  · by_cases h3 : (getF s).2.2 = 3
    · rw [eat_cut h3]; simp [h3]
    · rw [eat_bad h h3]; simp [h]

/-- The state behind some bytes. -/
def stOf (s : List UInt8) : T_deframe_State := ⟨(eat s).2.1, (eat s).2.2, ((eat s).1.length : Int)⟩
theorem check_stOf {s : List UInt8} (hs : s.length ≤ 1000000) : deframe_Check (stOf s) = some 0 := by
  obtain ⟨h1, h2, h3, _⟩ := eat_facts s
  unfold deframe_Check stOf
  simp only [bnd_d]
  by_cases hb : (eat s).2.2 = 0
  · obtain ⟨h4, h5⟩ := h1 hb
    have h6 := getF_cut_len h4
    rw [decide_eq_true hb, get_F (by omega), bno_s, h4, decide_eq_false (show ¬ 80 < ((eat s).2.1.length : Int) by omega), decide_eq_false (show ¬ ((eat s).1.length : Int) < 0 by omega)]
    rfl
  · rw [decide_eq_false hb, h2 hb, get_F (by simp), bno_s, decide_eq_false (show ¬ ((eat s).1.length : Int) < 0 by omega)]
    rfl
theorem feed_loop (a : T_deframe_State) : ∀ (k : Nat) (s : List UInt8) (n : Nat) (acc : List T_frame_Frame), s.length < k → acc.length + s.length ≤ 1000000 → n + s.length ≤ 1000000 →
    deframe_Feed_L2 a k s (n : Int) acc = some (⟨(eat s).2.1, if (eat s).2.2 = 0 then a.Bad else (eat s).2.2, ((n + (eat s).1.length : Nat) : Int)⟩, acc ++ (eat s).1) := by
  intro k
  induction k with
  | zero => intro s n acc h; omega
  | succ k ih =>
    intro s n acc hk hl hn
    unfold deframe_Feed_L2 deframe_Feed_J1
    rw [get_F (by omega), bno_s]
    simp only [bnd_d]
    by_cases h : (getF s).2.2 = 0
    · have h3 := get_again h
      have hd : (s.drop (getF s).2.1.toNat).length = s.length - (getF s).2.1.toNat := List.length_drop
      rw [decide_eq_true h, cond_true, cut_to (by omega) h3.2.2.1, bno_s, w64 (by omega) (by omega), app_ok (by simp; omega) (by simp; omega), bno_s]
      simp only [Bool.not_true, cond_false]
      rw [show (n : Int) + 1 = ((n + 1 : Nat) : Int) by omega, ih _ (n + 1) _ (by omega) (by simp; omega) (by omega), eat_ok h]
      simp only [List.append_assoc, List.cons_append, List.nil_append, List.length_cons]
      congr 3; congr 1; omega
    · rw [decide_eq_false h, cond_false]
      by_cases h3 : (getF s).2.2 = 3
      · rw [decide_eq_true h3, eat_cut h3]; simp
      · rw [decide_eq_false h3, eat_bad h h3]; simp [h]
theorem feed_of {s t : List UInt8} (hs : s.length + t.length ≤ 1000) : ∃ l, deframe_Feed (stOf s) t = some (stOf (s ++ t), l) ∧ (eat (s ++ t)).1 = (eat s).1 ++ l ∧ ((eat s).2.2 ≠ 0 → l = []) ∧ ((eat s).2.2 = 0 → l = (eat ((eat s).2.1 ++ t)).1) := by
  obtain ⟨h1, h2, h3, _⟩ := eat_facts s
  have ha := eat_append s t
  unfold deframe_Feed
  rw [check_stOf (by omega)]
  by_cases hb : (eat s).2.2 = 0
  · rw [if_pos hb] at ha
    have hl := h1 hb
    have hbad : (stOf s).Bad = 0 := hb
    refine ⟨(eat ((eat s).2.1 ++ t)).1, ?_, by rw [ha], fun h => absurd hb h, fun _ => rfl⟩
    simp only [bnd_d]
    rw [decide_eq_true hbad]
    simp only [Bool.not_true, show (false == false) = true from rfl, gd_tt, bno_s, decide_true, Bool.or_false, cond_false]
    rw [cat_ok (by show (eat s).2.1.length + _ ≤ _; omega), bno_s]
    have := feed_loop (stOf s) fuel ((eat s).2.1 ++ t) (eat s).1.length [] (fuel_gt (by rw [List.length_append]; omega)) (by simp; omega) (by simp; omega)
    have e1 : (stOf s).Buf = (eat s).2.1 := rfl
    have e2 : (stOf s).Seen = ((eat s).1.length : Int) := rfl
    rw [e1, e2, this, List.nil_append, hbad]
    unfold stOf
    rw [ha]
    simp only [List.length_append]
    congr 3
    split
    · rename_i h; exact h.symm
    · rfl
  · rw [if_neg hb] at ha
    have hbad : ¬ (stOf s).Bad = 0 := hb
    refine ⟨[], ?_, by rw [ha]; simp, fun _ => rfl, fun h => absurd h hb⟩
    have e3 : stOf (s ++ t) = stOf s := by unfold stOf; rw [ha]
    rw [e3]
    simp only [bnd_d]
    rw [decide_eq_false hbad]
    rfl
theorem st0 : (⟨[], 0, 0⟩ : T_deframe_State) = stOf [] := by
  unfold stOf; rw [eat_cut rfl]; rfl
theorem feed_first {t : List UInt8} (ht : t.length ≤ 1000) : deframe_Feed ⟨[], 0, 0⟩ t = some (stOf t, (eat t).1) := by
  obtain ⟨l, h1, h2, _⟩ := feed_of (s := []) (t := t) (by simpa using ht)
  rw [st0, h1]
  have e : (eat ([] : List UInt8)).1 = [] := by rw [eat_cut rfl]
  rw [e, List.nil_append, List.nil_append] at h2
  rw [List.nil_append, h2]
theorem frames_loop {a : List T_frame_Frame} (ha : a.length ≤ 1000000) : ∀ (k i : Nat), a.length - i < k → i ≤ a.length → sennitlaw16_Frames_L0 a k (a.take i) (i : Int) = some a := by
  intro k
  induction k with
  | zero => intro i h; omega
  | succ k ih =>
    intro i hk hi
    unfold sennitlaw16_Frames_L0
    simp only [bnd_d]
    by_cases hc : i < a.length
    · rw [decide_eq_true (by omega), cond_true, gix_nat, List.getElem?_eq_getElem hc, bno_s, app_ok (by simp; omega) (by simp; omega), bno_s, step64 hc (by omega), ← List.take_succ_eq_append_getElem hc]
      exact ih (i + 1) (by omega) (by omega)
    · have : i = a.length := by omega
      subst this
      rw [decide_eq_false (by omega), cond_false, List.take_length]
theorem frames_is {a : List T_frame_Frame} (ha : a.length ≤ 1000000) : sennitlaw16_Frames a = some a := frames_loop ha fuel 0 (fuel_gt (by omega)) (Nat.zero_le _)
theorem sameAll_loop {a : List T_frame_Frame} (ha : a.length ≤ 1000000) (hp : ∀ g ∈ a, g.Pairs.length ≤ 1000000) : ∀ (k i : Nat), a.length - i < k → i ≤ a.length → sennitref15_SameAll_L0 a a k (i : Int) = some true := by
  intro k
  induction k with
  | zero => intro i h; omega
  | succ k ih =>
    intro i hk hi
    unfold sennitref15_SameAll_L0
    simp only [bnd_d]
    by_cases hc : i < a.length
    · have hm := hp _ (List.getElem_mem hc)
      rw [decide_eq_true (by omega), cond_true, gix_nat, List.getElem?_eq_getElem hc, bno_s, bno_s, rsame_is hm hm, bno_s]
      simp only [decide_true, Bool.not_true, cond_false]
      rw [step64 hc (by omega)]
      exact ih (i + 1) (by omega) (by omega)
    · rw [decide_eq_false (by omega), cond_false]
theorem sameAll_is {a : List T_frame_Frame} (ha : a.length ≤ 1000000) (hp : ∀ g ∈ a, g.Pairs.length ≤ 1000000) : sennitref15_SameAll a a = some true := by
  unfold sennitref15_SameAll
  simp only [bnd_d, decide_true, Bool.not_true, cond_false]
  exact sameAll_loop ha hp fuel 0 (fuel_gt (by omega)) (Nat.zero_le _)
set_option maxRecDepth 100000 in
theorem awake16 : sennitlaw16_awake = some true := by kernel_rfl
end Go.Fn
