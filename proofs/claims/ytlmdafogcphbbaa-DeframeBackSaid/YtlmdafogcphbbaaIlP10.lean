/-
  A part of the proof: rules and plain facts. No condition.
-/
import Derived.Test.YtlmdafogcphbbaaIlP9
set_option linter.all false
set_option linter.unusedSimpArgs false
set_option linter.unusedVariables false
open Go Go.IL
namespace Go.Fn

/-! Frames that were put, one behind the other. -/
structure Fine (f : T_frame_Frame) : Prop where
  k0 : 0 ≤ f.Kind
  k1 : f.Kind ≤ 255
  ok : chkF f = 0
def cats (l : List T_frame_Frame) : List UInt8 := l.flatMap fun f => (putF f).1
theorem put_pos {f : T_frame_Frame} (h : Fine f) : 0 < (putF f).1.length ∧ (putF f).1.length ≤ 76 := by
  have hg := chk_good h.ok
  have hl := hg.pay_le
  have hv := vput_le8 ((pay f).length : Int)
  unfold putF
  rw [if_pos h.ok]
  simp
  omega
theorem put_pre {f : T_frame_Frame} (h : Fine f) {m : Nat} (hm : m < (putF f).1.length) : (getF ((putF f).1.take m)).2.2 = 3 := by
  have hb := get_back h.k0 h.k1 h.ok []
  rw [List.append_nil] at hb
  have hlt : ((putF f).1.take m).length = m := by rw [List.length_take]; omega
  have h0 : ¬ (getF ((putF f).1.take m)).2.2 ≠ 3 := fun h3 => by
    have hm2 := getF_more h3 ((putF f).1.drop m)
    rw [List.take_append_drop, hb] at hm2
    have hz : (getF ((putF f).1.take m)).2.2 = 0 := by rw [← hm2]
    have := (get_again hz).2.2.1
    rw [← hm2, hlt] at this
    simp only at this
    omega
  exact Decidable.not_not.1 h0
theorem eat_put {f : T_frame_Frame} (h : Fine f) (t : List UInt8) : eat ((putF f).1 ++ t) = (f :: (eat t).1, (eat t).2) := by
  have hb := get_back h.k0 h.k1 h.ok t
  rw [eat_ok (by rw [hb]), hb]
  simp only [Int.toNat_natCast, List.drop_left]
theorem eat_cats : ∀ (l : List T_frame_Frame), (∀ f ∈ l, Fine f) → eat (cats l) = (l, [], 0)
  | [], _ => eat_cut rfl
  | f :: l, h => by
    have : cats (f :: l) = (putF f).1 ++ cats l := rfl
    rw [this, eat_put (h f (by simp)), eat_cats l (fun g hg => h g (by simp [hg]))]
/-- Where a place within the bytes is: in which frame. -/
theorem eat_at : ∀ (l : List T_frame_Frame), (∀ f ∈ l, Fine f) → ∀ (i : Nat), i < (cats l).length →
    ∃ f m, Fine f ∧ m < (putF f).1.length ∧ (eat ((cats l).take i)).2 = ((putF f).1.take m, 0) ∧ i + ((putF f).1.length - m) ≤ (cats l).length
  | [], _, i, hi => by simp [cats] at hi
  | f :: l, h, i, hi => by
    have hc : cats (f :: l) = (putF f).1 ++ cats l := rfl
    have hf := h f (by simp)
    rw [hc] at hi ⊢
    rw [List.length_append] at hi
    by_cases hlt : i < (putF f).1.length
    · refine ⟨f, i, hf, hlt, ?_, by rw [List.length_append]; omega⟩
      rw [List.take_append_of_le_length (by omega), eat_cut (put_pre hf hlt)]
    · obtain ⟨g, m, h1, h2, h3, h4⟩ := eat_at l (fun g hg => h g (by simp [hg])) (i - (putF f).1.length) (by omega)
      refine ⟨g, m, h1, h2, ?_, by rw [List.length_append]; omega⟩
      rw [List.take_append, List.take_of_length_le (by omega), eat_put hf, h3]
theorem need_at {f : T_frame_Frame} (h : Fine f) {m : Nat} (hm : m < (putF f).1.length) {s : List UInt8} (hs : s.length ≤ 1000) (he : (eat s).2 = ((putF f).1.take m, 0)) :
    ∃ n : Nat, deframe_Need (stOf s) = some (n : Int) ∧ 1 ≤ n ∧ n ≤ (putF f).1.length - m := by
  have hg := chk_good h.ok
  have hl := hg.pay_le
  have hv := vput_ne hg.vpay
  have hpp := put_pos h
  have hbad : (stOf s).Bad = 0 := by show (eat s).2.2 = 0; rw [he]
  have hbuf : (stOf s).Buf = (putF f).1.take m := by show (eat s).2.1 = _; rw [he]
  have hlt : ((putF f).1.take m).length = m := by rw [List.length_take]; omega
  unfold deframe_Need
  rw [check_stOf (by omega), hbad]
  simp only [bnd_d, decide_true, Bool.not_true, show (false == false) = true from rfl, gd_tt, bno_s, Bool.or_false, cond_false]
  rw [hbuf, hlt]
  by_cases h2 : (m : Int) ≤ 2
  · rw [decide_eq_true h2]; exact ⟨1, rfl, by omega, by omega⟩
  · rw [decide_eq_false h2, cond_false]
    have hcut : cut ((putF f).1.take m) 2 (m : Int) = some (((putF f).1.take m).drop 2) := by
      have := cut_to (l := (putF f).1.take m) (a := 2) (by decide) (by rw [hlt]; omega)
      rw [hlt] at this; exact this
    rw [hcut, bno_s, get_is, bno_s]
    have hsplit : (putF f).1 = [UInt8.ofNat f.Kind.toNat, if f.Flag then 1 else 0] ++ (vput ((pay f).length : Int) ++ pay f) := by
      unfold putF; rw [if_pos h.ok]; simp
    have hd : (putF f).1.drop 2 = vput ((pay f).length : Int) ++ pay f := by rw [hsplit]; rfl
    have hlen : (putF f).1.length = 2 + (vput ((pay f).length : Int)).length + (pay f).length := by rw [hsplit]; simp; omega
    by_cases h0 : (vget (((putF f).1.take m).drop 2)).2.2 = 0
    · have hmore := vget_more (s := ((putF f).1.take m).drop 2) (by rw [h0]; decide) ((putF f).1.drop m)
      have e : ((putF f).1.take m).drop 2 ++ (putF f).1.drop m = (putF f).1.drop 2 := by
        have e1 := congrArg (List.drop 2) (List.take_append_drop m (putF f).1)
        rw [List.drop_append_of_le_length (by omega)] at e1
        exact e1
      rw [e, hd, vget_vput hg.vpay] at hmore
      rw [decide_eq_true h0, ← hmore]
      simp only [Bool.not_true, cond_false]
      rw [w64 (n := 2 + vsize _) (by omega) (by omega), w64 (n := 2 + vsize _ + _) (by omega) (by omega), w64 (by omega) (by omega)]
      exact ⟨(putF f).1.length - m, by congr 1; omega, by omega, by omega⟩
    · rw [decide_eq_false h0]; exact ⟨1, rfl, by omega, by omega⟩
theorem back_loop {l : List T_frame_Frame} {x : List T_frame_Frame × Int} (hx1 : x.1 = l) (hx2 : x.2 = 0) (hf : ∀ f ∈ l, Fine f) (hs : (cats l).length ≤ 1000) (hl : l.length ≤ 12) (hp : ∀ f ∈ l, f.Pairs.length ≤ 1000) : ∀ (k i : Nat), (cats l).length - i < k → i ≤ (cats l).length →
    sennitlaw16_DeframeBack_L1 (cats l) l x k (eat ((cats l).take i)).1 (i : Int) (stOf ((cats l).take i)).Buf (stOf ((cats l).take i)).Bad (stOf ((cats l).take i)).Seen = some true := by
  intro k
  induction k with
  | zero => intro i h; omega
  | succ k ih =>
    intro i hk hi
    unfold sennitlaw16_DeframeBack_L1
    simp only [bnd_d]
    have e2 : (⟨(stOf ((cats l).take i)).Buf, (stOf ((cats l).take i)).Bad, (stOf ((cats l).take i)).Seen⟩ : T_deframe_State) = stOf ((cats l).take i) := rfl
    have hlt : ((cats l).take i).length = i := by rw [List.length_take]; omega
    by_cases hc : i < (cats l).length
    · obtain ⟨f, m, h1, h2, h3, h4⟩ := eat_at l hf i hc
      obtain ⟨n, n1, n2, n3⟩ := need_at h1 h2 (s := (cats l).take i) (by omega) h3
      rw [decide_eq_true (by omega), cond_true, e2, n1, bno_s, w64 (n := ((cats l).length : Int) - (i : Int)) (by omega) (by omega), decide_eq_false (show ¬ (n : Int) < 1 by omega), decide_eq_false (show ¬ ((cats l).length : Int) - (i : Int) < (n : Int) by omega)]
      simp only [Bool.or_false, cond_false]
      rw [w64 (n := (i : Int) + (n : Int)) (by omega) (by omega), cut_ok (by omega) (by omega) (by omega), bno_s]
      have e1 : ((cats l).take ((i : Int) + (n : Int)).toNat).drop (i : Int).toNat = ((cats l).drop i).take n := by
        rw [show ((i : Int) + (n : Int)).toNat = i + n by omega, Int.toNat_natCast, List.take_drop, Nat.add_comm]
      have e3 : (cats l).take i ++ ((cats l).drop i).take n = (cats l).take (i + n) := by rw [List.take_add]
      obtain ⟨q, f1, f2, _⟩ := feed_of (s := (cats l).take i) (t := ((cats l).drop i).take n) (by rw [hlt, List.length_take, List.length_drop]; omega)
      rw [e3] at f1 f2
      obtain ⟨_, _, g3, _⟩ := eat_facts ((cats l).take (i + n))
      have hlen := congrArg List.length f2
      rw [List.length_append] at hlen
      have hlt2 : ((cats l).take (i + n)).length ≤ 1000 := by rw [List.length_take]; omega
      rw [e1, f1, bno_s]
      dsimp only
      rw [app_ok (by omega) (by omega), bno_s, ← f2, show (i : Int) + (n : Int) = ((i + n : Nat) : Int) by omega]
      exact ih (i + n) (by omega) (by omega)
    · have : i = (cats l).length := by omega
      subst this
      rw [decide_eq_false (by omega), cond_false, List.take_length, eat_cats l hf]
      have a1 := frames_is (a := l) (by omega)
      have a2 := sameAll_is (a := l) (by omega) (fun g hg => by have := hp g hg; omega)
      have hbuf : (stOf (cats l)).Buf = [] := by show (eat (cats l)).2.1 = []; rw [eat_cats l hf]
      rw [hbuf, hx1, hx2, decide_eq_true (rfl : (0 : Int) = 0), gdT a1, gdT a2, show (true && true) = true from rfl, gdT a1, gdT a2, show (true && true) = true from rfl, decide_eq_true (rfl : ([] : List UInt8) = []), show (true && true) = true from rfl, gdT awake16]
      rfl
theorem puts_loop {a : List T_frame_Frame} (ha : a.length ≤ 12) (hk : ∀ f ∈ a, 0 ≤ f.Kind ∧ f.Kind ≤ 255) : ∀ (k i : Nat) (l : List T_frame_Frame), a.length - i < k → i ≤ a.length → (∀ f ∈ l, Fine f ∧ f.Pairs.length ≤ 1000) → l.length ≤ i →
    sennitlaw16_DeframeBack_L0 a k (cats l) l (i : Int) = some true := by
  have hcl : ∀ l : List T_frame_Frame, (∀ f ∈ l, Fine f ∧ f.Pairs.length ≤ 1000) → (cats l).length ≤ 76 * l.length := by
    intro l
    induction l with
    | nil => intro _; simp [cats]
    | cons f l ih =>
      intro h
      have h1 := (put_pos (h f (by simp)).1).2
      have h2 := ih (fun g hg => h g (by simp [hg]))
      have : cats (f :: l) = (putF f).1 ++ cats l := rfl
      rw [this, List.length_append, List.length_cons]; omega
  intro k
  induction k with
  | zero => intro i l h; omega
  | succ k ih =>
    intro i l hk' hi hl hli
    have hc := hcl l hl
    unfold sennitlaw16_DeframeBack_L0
    simp only [bnd_d]
    by_cases hlt : i < a.length
    · have hm := List.getElem_mem hlt
      have hki := hk _ hm
      rw [decide_eq_true (by omega), cond_true, gix_nat, List.getElem?_eq_getElem hlt, bno_s, light_is, bno_s]
      cases h1 : (decide ((a[i].Pairs.length : Int) ≤ 10) && decide ((a[i].Data.length : Int) ≤ 100)) with
      | false => rw [awake16]; rfl
      | true =>
        have l1 := light_lite h1
        simp only [Bool.not_true, cond_false, bno_s]
        rw [put_F hki.1 hki.2 l1, bno_s]
        by_cases hc0 : chkF a[i] = 0
        · have hfine : Fine a[i] := ⟨hki.1, hki.2, hc0⟩
          have hpp := put_pos hfine
          have hz : (putF a[i]).2 = 0 := by unfold putF; rw [if_pos hc0]
          have e : cats l ++ (putF a[i]).1 = cats (l ++ [a[i]]) := by unfold cats; rw [List.flatMap_append]; simp
          rw [hz, decide_eq_true rfl, cond_true, cat_ok (by omega), bno_s, app_ok (by simp; omega) (by simp; omega), bno_s, step64 hlt (by omega), e]
          refine ih (i + 1) (l ++ [a[i]]) (by omega) (by omega) (fun f hf => ?_) (by simp; omega)
          rcases List.mem_append.1 hf with hf | hf
          · exact hl f hf
          · have : f = a[i] := by simpa using hf
            subst this; exact ⟨hfine, l1.1⟩
        · have hz : (putF a[i]).2 = chkF a[i] := by unfold putF; rw [if_neg hc0]
          rw [hz, decide_eq_false hc0, cond_false, step64 hlt (by omega)]
          exact ih (i + 1) l (by omega) (by omega) hl (by omega)
    · rw [decide_eq_false (by omega), cond_false, all_of (by omega), eat_cats l (fun f hf => (hl f hf).1), bno_s, if_pos rfl, if_pos rfl]
      have := back_loop (l := l) (x := (l, 0)) rfl rfl (fun f hf => (hl f hf).1) (by omega) (by omega) (fun f hf => (hl f hf).2) fuel 0 (fuel_gt (by omega)) (Nat.zero_le _)
      have e0 : eat ([] : List UInt8) = ([], [], 0) := eat_cut rfl
      simpa [stOf, e0] using this
theorem deframeBack {a : List T_frame_Frame} (hk : ∀ f ∈ a, 0 ≤ f.Kind ∧ f.Kind ≤ 255) : sennitlaw16_DeframeBack a = some true := by
  unfold sennitlaw16_DeframeBack
  simp only [bnd_d]
  by_cases h : 12 < (a.length : Int)
  · rw [decide_eq_true h, awake16]; rfl
  · rw [decide_eq_false h, cond_false]
    exact puts_loop (a := a) (by omega) hk fuel 0 [] (fuel_gt (by omega)) (Nat.zero_le _) (by simp) (by simp)
end Go.Fn
