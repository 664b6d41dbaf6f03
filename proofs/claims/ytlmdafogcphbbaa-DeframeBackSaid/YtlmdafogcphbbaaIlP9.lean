/-
  A part of the proof: rules and plain facts. No condition.
-/
import Derived.Test.YtlmdafogcphbbaaIlP8
set_option linter.all false
set_option linter.unusedSimpArgs false
set_option linter.unusedVariables false
open Go Go.IL
namespace Go.Fn

theorem eat_one {s : List UInt8} (h : (getF s).2.2 = 3) (c : UInt8) : (eat (s ++ [c])).1.length ≤ 1 := by
  by_cases h0 : (getF (s ++ [c])).2.2 = 0
  · have h3 := get_again h0
    have hn : (getF (s ++ [c])).2.1 = ((s ++ [c]).length : Int) := by
      by_cases hlt : (getF (s ++ [c])).2.1 ≤ (s.length : Int)
      · exfalso
        have ht := getF_take h0
        rw [List.take_append_of_le_length (by omega)] at ht
        have hm := getF_more (s := s.take (getF (s ++ [c])).2.1.toNat) (by rw [ht]; simp) (s.drop (getF (s ++ [c])).2.1.toNat)
        rw [List.take_append_drop, ht] at hm
        rw [hm] at h; simp at h
      · have := h3.2.2.1
        simp only [List.length_append, List.length_cons, List.length_nil] at this ⊢
        omega
    rw [eat_ok h0, hn, Int.toNat_natCast, List.drop_length, eat_cut rfl]
    simp
  · by_cases h3 : (getF (s ++ [c])).2.2 = 3
    · rw [eat_cut h3]; simp
    · rw [eat_bad h0 h3]; simp
theorem stOf_eq {s t : List UInt8} (h : s = t) : stOf s = stOf t := by rw [h]
theorem gdT {α β : Type} {o : Option α} {x d : α} {f : α → Option β} (h : o = some x) : bno (gd (true == true) o d) f = f x := by subst h; rfl
theorem same_st (x : T_deframe_State) : (decide (x.Buf = x.Buf) && (decide (x.Bad = x.Bad) && (decide (x.Seen = x.Seen) && true))) = true := by simp
theorem pieces_loop {b : List UInt8} {x y z : T_deframe_State × List T_frame_Frame} (hb : b.length ≤ 200) (hx : x = (stOf b, (eat b).1)) (hz : z.1 = stOf b) (hyz : (eat b).1 = y.2 ++ z.2) : ∀ (k i : Nat), b.length - i < k → i ≤ b.length →
    sennitlaw16_DeframePieces_L0 b x y z k (eat (b.take i)).1 (i : Int) (stOf (b.take i)).Buf (stOf (b.take i)).Bad (stOf (b.take i)).Seen = some true := by
  obtain ⟨_, _, hl, hp⟩ := eat_facts b
  intro k
  induction k with
  | zero => intro i h; omega
  | succ k ih =>
    intro i hk hi
    unfold sennitlaw16_DeframePieces_L0
    simp only [bnd_d]
    by_cases hc : i < b.length
    · obtain ⟨h1, h2, h3, h4⟩ := eat_facts (b.take i)
      have hlt : (b.take i).length = i := by rw [List.length_take]; omega
      rw [decide_eq_true (by omega), cond_true, w64 (n := (i : Int) + 1) (by omega) (by omega), cut_ok (by omega) (by omega) (by omega), bno_s]
      have e1 : ((b.take ((i : Int) + 1).toNat).drop (i : Int).toNat) = [b[i]] := by
        rw [show ((i : Int) + 1).toNat = i + 1 by omega, Int.toNat_natCast, List.take_succ_eq_append_getElem hc, List.drop_left' hlt]
      rw [e1]
      obtain ⟨l, f1, f2, f3, f4⟩ := feed_of (s := b.take i) (t := [b[i]]) (by rw [hlt]; simp; omega)
      have e2 : (⟨(stOf (b.take i)).Buf, (stOf (b.take i)).Bad, (stOf (b.take i)).Seen⟩ : T_deframe_State) = stOf (b.take i) := rfl
      rw [e2, f1, bno_s]
      have e3 : b.take i ++ [b[i]] = b.take (i + 1) := (List.take_succ_eq_append_getElem hc).symm
      rw [e3] at f2
      have hl1 : l.length ≤ 1 := by
        by_cases h0 : (eat (b.take i)).2.2 = 0
        · rw [f4 h0]; exact eat_one (h1 h0).1 _
        · rw [f3 h0]; simp
      rw [e3, decide_eq_false (show ¬ 1 < (l.length : Int) by omega), check_stOf (by rw [List.length_take]; omega)]
      simp only [show (false == false) = true from rfl, gd_tt, bno_s, decide_true, Bool.not_true, Bool.or_false, cond_false]
      rw [app_ok (by omega) (by omega), bno_s, ← f2, show (i : Int) + 1 = ((i + 1 : Nat) : Int) by omega]
      exact ih (i + 1) (by omega) (by omega)
    · have : i = b.length := by omega
      subst this
      rw [decide_eq_false (by omega), cond_false, List.take_length]
      have hlen := congrArg List.length hyz
      rw [List.length_append] at hlen
      have a1 := frames_is (a := (eat b).1) (by omega)
      have a2 := sameAll_is (a := (eat b).1) (by omega) (fun g hg => by have := hp g hg; omega)
      rw [app_ok (by simp; omega) (by simp; omega), bno_s, List.nil_append, app_ok (by omega) (by omega), bno_s, ← hyz, hx, hz]
      have e5 : (stOf b).Seen = ((eat b).1.length : Int) := rfl
      dsimp only
      rw [same_st (stOf b)]
      rw [show (true && true) = true from rfl, gdT a1, gdT a1, gdT a2, show (true && true) = true from rfl, gdT a1, gdT a1, gdT a2, show (true && true) = true from rfl, e5, decide_eq_true (rfl : ((eat b).1.length : Int) = ((eat b).1.length : Int)), show (true && true) = true from rfl, gdT awake16]
      rfl
theorem deframePieces {b : List UInt8} {c : Int} (hc : 0 ≤ c ∧ c ≤ 255) : sennitlaw16_DeframePieces b c = some true := by
  unfold sennitlaw16_DeframePieces
  simp only [bnd_d, awake16, bno_s]
  by_cases h : 200 < (b.length : Int)
  · rw [decide_eq_true h]; rfl
  · rw [decide_eq_false h, cond_false, w64 (n := c) (by omega) (by omega), w64 (n := (b.length : Int) + 1) (by omega) (by omega), rem_ok hc.1 (by omega), bno_s]
    have hk0 := Int.emod_nonneg c (b := (b.length : Int) + 1) (by omega)
    have hk1 := Int.emod_lt_of_pos c (b := (b.length : Int) + 1) (by omega)
    generalize c % ((b.length : Int) + 1) = k at hk0 hk1
    rw [feed_first (by omega), bno_s, cut_of hk0 (by omega), bno_s, feed_first (by rw [List.length_take]; omega), bno_s, cut_to hk0 (by omega), bno_s]
    obtain ⟨l, f1, f2, _⟩ := feed_of (s := b.take k.toNat) (t := b.drop k.toNat) (by rw [List.length_take, List.length_drop]; omega)
    rw [List.take_append_drop] at f1 f2
    rw [f1, bno_s]
    have := pieces_loop (b := b) (x := (stOf b, (eat b).1)) (y := (stOf (b.take k.toNat), (eat (b.take k.toNat)).1)) (z := (stOf b, l)) (by omega) rfl rfl f2 fuel 0 (fuel_gt (by omega)) (Nat.zero_le _)
    have e0 : eat ([] : List UInt8) = ([], [], 0) := eat_cut rfl
    simpa [stOf, e0] using this
theorem all_of {s : List UInt8} (hs : s.length ≤ 1000) : deframe_All s = some (if (eat s).2.2 = 0 then (if (eat s).2.1 = [] then ((eat s).1, 0) else ([], 3)) else ([], (eat s).2.2)) := by
  unfold deframe_All
  rw [feed_first hs, bno_s]
  simp only [bnd_d]
  have e1 : (stOf s).Bad = (eat s).2.2 := rfl
  have e2 : (stOf s).Buf = (eat s).2.1 := rfl
  rw [e1, e2]
  by_cases h : (eat s).2.2 = 0
  · rw [decide_eq_true h, if_pos h]
    by_cases h2 : (eat s).2.1 = []
    · rw [decide_eq_true h2, if_pos h2]; rfl
    · rw [decide_eq_false h2, if_neg h2]; rfl
  · rw [decide_eq_false h, if_neg h]; rfl
theorem deframeBad {s t : List UInt8} {c : Int} (hc : 0 ≤ c ∧ c ≤ 255) : sennitlaw16_DeframeBad s t c = some true := by
  unfold sennitlaw16_DeframeBad
  simp only [bnd_d, awake16, bno_s]
  by_cases h1 : 100 < (s.length : Int)
  · rw [decide_eq_true h1]; rfl
  by_cases h2 : 100 < (t.length : Int)
  · rw [decide_eq_true h2, Bool.or_true]; rfl
  rw [decide_eq_false h1, decide_eq_false h2, Bool.or_false, cond_false, cat_ok (by simp; omega), bno_s, cat_ok (by simp; omega), bno_s, feed_first (by simp; omega), bno_s, w64 (n := c) (by omega) (by omega), w64 (n := (s.length : Int) + 1) (by omega) (by omega), rem_ok hc.1 (by omega), bno_s]
  have hk0 := Int.emod_nonneg c (b := (s.length : Int) + 1) (by omega)
  have hk1 := Int.emod_lt_of_pos c (b := (s.length : Int) + 1) (by omega)
  generalize c % ((s.length : Int) + 1) = k at hk0 hk1
  rw [cut_of hk0 (by omega), bno_s, feed_first (by rw [List.length_take]; omega), bno_s, cut_to hk0 (by omega), bno_s, cat_ok (by simp; omega), bno_s, cat_ok (by simp; omega), bno_s]
  obtain ⟨l, f1, f2, _⟩ := feed_of (s := s.take k.toNat) (t := s.drop k.toNat ++ [5] ++ t) (by simp; omega)
  have e1 : s.take k.toNat ++ (s.drop k.toNat ++ [5] ++ t) = s ++ [5] ++ t := by rw [← List.append_assoc, ← List.append_assoc, List.take_append_drop]
  rw [e1] at f1 f2
  rw [f1, bno_s]
  have hlen := congrArg List.length f2
  rw [List.length_append] at hlen
  obtain ⟨_, _, hl, _⟩ := eat_facts (s ++ [5] ++ t)
  have hl' : (s ++ [5] ++ t).length ≤ 201 := by simp; omega
  dsimp only
  rw [w64 (by omega) (by omega), decide_eq_true (show ((eat (s ++ [5] ++ t)).1.length : Int) = ((eat (s.take k.toNat)).1.length : Int) + (l.length : Int) by omega)]
  simp only [decide_true, Bool.and_true, Bool.not_true, Bool.or_false, cond_false]
  obtain ⟨l2, g1, g2, g3, g4⟩ := feed_of (s := s ++ [5] ++ t) (t := t) (by omega)
  rw [g1, bno_s, all_of (by omega)]
  have ha := eat_append s ([5] ++ t)
  rw [← List.append_assoc] at ha
  have h5 : eat ([5] ++ t) = ([], [], 12) := by
    have : getF ([5] ++ t) = (zF, 0, 12) := getF_bad (r := t) (k := 5) rfl
    have hz : (getF ([5] ++ t)).2.2 = 12 := by rw [this]
    rw [eat_bad (by rw [hz]; decide) (by rw [hz]; decide), hz]
  have key : (!decide ((if (eat s).2.2 = 0 then (if (eat s).2.1 = [] then ((eat s).1, (0 : Int)) else ([], 3)) else ([], (eat s).2.2)).2 = 0) || decide ((stOf (s ++ [5] ++ t)).Bad = 12)) = true := by
    by_cases h0 : (eat s).2.2 = 0
    · rw [if_pos h0]
      by_cases hb : (eat s).2.1 = []
      · rw [if_pos hb]
        rw [if_pos h0, hb, List.nil_append, h5] at ha
        have : (stOf (s ++ [5] ++ t)).Bad = 12 := by show (eat (s ++ [5] ++ t)).2.2 = 12; rw [ha]
        rw [decide_eq_true this, Bool.or_true]
      · rw [if_neg hb]; rfl
    · rw [if_neg h0]; simp [h0]
  have hgoal : ∀ q : Bool, q = false → (bif q then some false else
      bno (some (if (eat s).2.2 = 0 then (if (eat s).2.1 = [] then ((eat s).1, (0 : Int)) else ([], 3)) else ([], (eat s).2.2))) fun x37 =>
      bno (gd ((!decide (x37.2 = 0) || decide ((stOf (s ++ [5] ++ t)).Bad = 12)) == true) (some true) default) fun x41 =>
      some ((!decide (x37.2 = 0) || decide ((stOf (s ++ [5] ++ t)).Bad = 12)) && x41)) = some true := by
    rintro q rfl
    rw [cond_false, bno_s, key]
    rfl
  by_cases hb : (stOf (s ++ [5] ++ t)).Bad = 0
  · rw [decide_eq_true hb]
    simp only [Bool.not_true, Bool.false_and, show (false == true) = false from rfl, gd_ff, bno_s]
    exact hgoal _ rfl
  · have e0 : (eat (s ++ [5] ++ t)).2.2 ≠ 0 := hb
    have hbuf : (stOf (s ++ [5] ++ t)).Buf = [] := (eat_facts (s ++ [5] ++ t)).2.1 e0
    have hl2 := g3 e0
    have hst : stOf (s ++ [5] ++ t ++ t) = stOf (s ++ [5] ++ t) := by
      have := eat_append (s ++ [5] ++ t) t
      rw [if_neg e0] at this
      unfold stOf; rw [this]
    have hneed : deframe_Need (stOf (s ++ [5] ++ t)) = some 0 := by
      unfold deframe_Need
      simp only [bnd_d]
      rw [decide_eq_false hb]; rfl
    rw [hst, hl2, decide_eq_false hb, hbuf]
    have hseen : (stOf (s ++ [5] ++ t)).Seen = ((eat (s ++ [5] ++ t)).1.length : Int) := rfl
    rw [hseen]
    simp only [decide_true, Bool.and_true, Bool.not_true, Bool.not_false, List.length_nil, Bool.or_false, show decide (((0 : Nat) : Int) = 0) = true from rfl, Bool.true_and, show (true == true) = true from rfl, show (false == false) = true from rfl, gd_tt, hneed, bno_s, show decide ((0 : Int) = 0) = true from rfl, Bool.and_false]
    exact hgoal _ rfl
end Go.Fn
