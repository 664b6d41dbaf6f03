/-
  A part of the proof: rules and plain facts. No condition.
-/
import Derived.Test.YtkmnhcjjaadmbaaIlP13
set_option linter.all false
set_option linter.unusedSimpArgs false
set_option linter.unusedVariables false
open Go Go.IL Go.Fl
namespace Go.Fn

/-! Merging in place. -/
structure Pre (l : List Nat) (D : List Int) (a m b : Nat) : Prop where
  am : a < m
  mb : m < b
  bl : b ≤ D.length
  few : D.length ≤ 1000
  rng : Rng l D
  lo : Srt l D a m
  hi : Srt l D m b
  less : ∀ i j, a ≤ i → i < m → m ≤ j → j < b → dg D i < dg D j
structure Post (l : List Nat) (D D' : List Int) (a b : Nat) : Prop where
  len : D'.length = D.length
  srt : Srt l D' a b
  out : ∀ k, k < a ∨ b ≤ k → dg D' k = dg D k
  mem : ∀ k, a ≤ k → k < b → ∃ k', a ≤ k' ∧ k' < b ∧ dg D' k = dg D k'
theorem half {x y : Nat} (h : x + y ≤ 4000) : IntKind.wrap .i64 ((x : Int) + (y : Int)) = ((x + y : Nat) : Int) ∧ IntKind.wrap .u64 ((x + y : Nat) : Int) = ((x + y : Nat) : Int) ∧ shrI .u64 ((x + y : Nat) : Int) 1 = some (((x + y) / 2 : Nat) : Int) ∧ IntKind.wrap .i64 (((x + y) / 2 : Nat) : Int) = (((x + y) / 2 : Nat) : Int) := by
  refine ⟨by rw [w64 (by omega) (by omega)]; omega, wU64 (by omega) (by omega), ?_, w64 (by omega) (by omega)⟩
  have := shr_ok (k := .u64) (a := ((x + y : Nat) : Int)) (n := 1) (by decide)
  rw [show ((1 : Nat) : Int) = 1 from rfl] at this
  rw [this]; congr 1
theorem wk_mono {l : List Nat} {D : List Int} {a b i j : Nat} (h : Srt l D a b) (hi : a ≤ i) (hij : i ≤ j) (hj : j < b) : wk l (dg D j) ≤ wk l (dg D i) := by
  by_cases e : i = j
  · subst e; omega
  · have := h i j hi (by omega) hj
    unfold R at this; omega

/-- One element ahead: where it goes. -/
theorem find0 {l : List Nat} {D : List Int} {a m b : Nat} (hm : m ≤ b) (hb : b ≤ D.length) (hf : D.length ≤ 1000) (hr : Rng l D) (ha : a < D.length) (hs : Srt l D m b) : ∀ (n i j : Nat), j - i < n → m ≤ i → i ≤ j → j ≤ b → (∀ k, m ≤ k → k < i → wk l (dg D a) < wk l (dg D k)) → (∀ k, j ≤ k → k < b → wk l (dg D k) ≤ wk l (dg D a)) →
    ∃ s, m ≤ s ∧ s ≤ b ∧ (∀ k, m ≤ k → k < s → wk l (dg D a) < wk l (dg D k)) ∧ (∀ k, s ≤ k → k < b → wk l (dg D k) ≤ wk l (dg D a)) ∧ slices_symMergeCmpFunc_int_h_Order_1_L0 (a : Int) D l n (i : Int) (j : Int) = slices_symMergeCmpFunc_int_h_Order_1_L1 (s : Int) fuel D (a : Int) := by
  intro n
  induction n with
  | zero => intro i j h; omega
  | succ n ih =>
    intro i j hn hi hij hj h1 h2
    unfold slices_symMergeCmpFunc_int_h_Order_1_L0
    by_cases c : i < j
    · obtain ⟨e1, e2, e3, e4⟩ := half (x := i) (y := j) (by omega)
      have hh : (i + j) / 2 < D.length := by omega
      have wh : IntKind.wrap .i64 ((((i + j) / 2 : Nat) : Int) + 1) = (((i + j) / 2 + 1 : Nat) : Int) := by rw [w64 (by omega) (by omega)]; omega
      obtain ⟨v, hv, hd⟩ := order1_eq (l := l) (i := dg D ((i + j) / 2)) (j := dg D a) (hr _ hh) (hr _ ha)
      simp only [bndD, decide_eq_true (show (i : Int) < (j : Int) by omega), cond_true, e1, e2, e3, e4, bnoS, gix_dg hh, get_dg hh, gix_dg ha, get_dg ha, hv, hd]
      by_cases hw : wk l (dg D a) < wk l (dg D ((i + j) / 2))
      · rw [decide_eq_true hw, cond_true, wh]
        refine ih _ j (by omega) (by omega) (by omega) hj (fun k hk1 hk2 => ?_) h2
        have := wk_mono hs hk1 (show k ≤ (i + j) / 2 by omega) (by omega)
        omega
      · rw [decide_eq_false hw, cond_false]
        refine ih i _ (by omega) hi (by omega) (by omega) h1 (fun k hk1 hk2 => ?_)
        have := wk_mono hs (show m ≤ (i + j) / 2 by omega) hk1 hk2
        omega
    · have : i = j := by omega
      subst this
      simp only [bndD, decide_eq_false (show ¬ (i : Int) < (i : Int) by omega), cond_false]
      exact ⟨i, hi, hj, h1, h2, rfl⟩
theorem shift_up {D0 : List Int} {a s : Nat} (hs : s ≤ D0.length) (hf : D0.length ≤ 1000) (has : a < s) : ∀ (n k : Nat) (D : List Int), s - k < n → a ≤ k → k < s → D.length = D0.length → (∀ p, dg D p = if a ≤ p ∧ p < k then dg D0 (p + 1) else if p = k then dg D0 a else dg D0 p) →
    ∃ D', slices_symMergeCmpFunc_int_h_Order_1_L1 (s : Int) n D (k : Int) = some D' ∧ D'.length = D0.length ∧ ∀ p, dg D' p = if a ≤ p ∧ p < s - 1 then dg D0 (p + 1) else if p = s - 1 then dg D0 a else dg D0 p := by
  intro n
  induction n with
  | zero => intro k D h; omega
  | succ n ih =>
    intro k D hn hak hks hl hD
    have w0 : IntKind.wrap .i64 ((s : Int) - 1) = ((s - 1 : Nat) : Int) := by rw [w64 (by omega) (by omega)]; omega
    unfold slices_symMergeCmpFunc_int_h_Order_1_L1
    by_cases c : k < s - 1
    · have w1 : IntKind.wrap .i64 ((k : Int) + 1) = ((k + 1 : Nat) : Int) := by rw [w64 (by omega) (by omega)]; omega
      have h1 : k < D.length := by omega
      have h2 : k + 1 < D.length := by omega
      have e1 : ∀ u, (D.set k u).length = D.length := fun u => List.length_set
      simp only [bndD, w0, decide_eq_true (show (k : Int) < ((s - 1 : Nat) : Int) by omega), cond_true, w1, gix_dg h1, gix_dg h2, get_dg h1, get_dg h2, bnoS, Int.toNat_natCast, dg_some h1, dg_some h2]
      rw [gix_dg (D := D.set k (dg D (k + 1))) (by rw [e1]; exact h2), bnoS, dg_some (D := D.set k (dg D (k + 1))) (by rw [e1]; exact h2), bnoS]
      refine ih (k + 1) _ (by omega) (by omega) (by omega) (by simp [hl]) fun p => ?_
      rw [dg_set (by rw [e1]; exact h2), dg_set h1]
      simp only [hD]
      (repeat' split) <;> first | rfl | (congr 1; omega) | (exfalso; omega) | (exfalso; simp at *; done)
    · have : k = s - 1 := by omega
      simp only [bndD, w0, decide_eq_false (show ¬ (k : Int) < ((s - 1 : Nat) : Int) by omega), cond_false]
      exact ⟨D, rfl, hl, by rw [← this]; exact hD⟩
theorem sym_one {l : List Nat} {D : List Int} {a m b : Nat} (h : Pre l D a m b) (h1 : m - a = 1) : ∃ D', slices_symMergeCmpFunc_int_h_Order_1_L0 (a : Int) D l fuel (m : Int) (b : Int) = some D' ∧ Post l D D' a b := by
  obtain ⟨ham, hmb, hbl, hfew, hrng, hlo, hhi, hless⟩ := h
  obtain ⟨s, s1, s2, s3, s4, s5⟩ := find0 (l := l) (a := a) (by omega) hbl hfew hrng (by omega) hhi fuel m b (fuel_gt (by omega)) (Nat.le_refl _) (by omega) (Nat.le_refl _) (fun k _ _ => by omega) (fun k _ _ => by omega)
  obtain ⟨D', e1, e2, e3⟩ := shift_up (D0 := D) (a := a) (s := s) (by omega) hfew (by omega) fuel a D (fuel_gt (by omega)) (Nat.le_refl _) (by omega) rfl (fun p => by
    rw [if_neg (by omega)]; by_cases c : p = a
    · rw [if_pos c, c]
    · rw [if_neg c])
  refine ⟨D', by rw [s5]; exact e1, e2, ?_, fun k hk => by rw [e3, if_neg (by omega), if_neg (by omega)], fun k hk1 hk2 => ?_⟩
  · intro i j hi hij hj
    rw [e3 i, e3 j]
    by_cases c1 : j < s - 1
    · rw [if_pos (by omega), if_pos (by omega)]; exact hhi _ _ (by omega) (by omega) (by omega)
    · rw [if_neg (c := a ≤ j ∧ j < s - 1) (by omega)]
      by_cases c2 : j = s - 1
      · rw [if_pos c2, if_pos (by omega)]
        left; exact s3 _ (by omega) (by omega)
      · rw [if_neg c2]
        by_cases c3 : i < s - 1
        · rw [if_pos (by omega)]; exact hhi _ _ (by omega) (by omega) hj
        · rw [if_neg (by omega)]
          by_cases c4 : i = s - 1
          · rw [if_pos c4]
            have := s4 j (by omega) hj
            have := hless a j (Nat.le_refl _) (by omega) (by omega) hj
            unfold R; omega
          · rw [if_neg c4]; exact hhi _ _ (by omega) hij hj
  · rw [e3]
    by_cases c1 : a ≤ k ∧ k < s - 1
    · rw [if_pos c1]; exact ⟨k + 1, by omega, by omega, rfl⟩
    · rw [if_neg c1]
      by_cases c2 : k = s - 1
      · rw [if_pos c2]; exact ⟨a, by omega, by omega, rfl⟩
      · rw [if_neg c2]; exact ⟨k, hk1, hk2, rfl⟩

/-- One element behind. -/
theorem find2 {l : List Nat} {D : List Int} {a m : Nat} (hm : m < D.length) (hf : D.length ≤ 1000) (hr : Rng l D) (hs : Srt l D a m) : ∀ (n i j : Nat), j - i < n → a ≤ i → i ≤ j → j ≤ m → (∀ k, a ≤ k → k < i → wk l (dg D m) ≤ wk l (dg D k)) → (∀ k, j ≤ k → k < m → wk l (dg D k) < wk l (dg D m)) →
    ∃ s, a ≤ s ∧ s ≤ m ∧ (∀ k, a ≤ k → k < s → wk l (dg D m) ≤ wk l (dg D k)) ∧ (∀ k, s ≤ k → k < m → wk l (dg D k) < wk l (dg D m)) ∧ slices_symMergeCmpFunc_int_h_Order_1_L2 (m : Int) D l n (i : Int) (j : Int) = slices_symMergeCmpFunc_int_h_Order_1_L3 (s : Int) fuel D (m : Int) := by
  intro n
  induction n with
  | zero => intro i j h; omega
  | succ n ih =>
    intro i j hn hi hij hj h1 h2
    unfold slices_symMergeCmpFunc_int_h_Order_1_L2
    by_cases c : i < j
    · obtain ⟨e1, e2, e3, e4⟩ := half (x := i) (y := j) (by omega)
      have hh : (i + j) / 2 < D.length := by omega
      have wh : IntKind.wrap .i64 ((((i + j) / 2 : Nat) : Int) + 1) = (((i + j) / 2 + 1 : Nat) : Int) := by rw [w64 (by omega) (by omega)]; omega
      obtain ⟨v, hv, hd⟩ := order1_eq (l := l) (i := dg D m) (j := dg D ((i + j) / 2)) (hr _ hm) (hr _ hh)
      simp only [bndD, decide_eq_true (show (i : Int) < (j : Int) by omega), cond_true, e1, e2, e3, e4, bnoS, gix_dg hh, get_dg hh, gix_dg hm, get_dg hm, hv, hd]
      by_cases hw : wk l (dg D ((i + j) / 2)) < wk l (dg D m)
      · rw [decide_eq_true hw, Bool.not_true, cond_false]
        refine ih i _ (by omega) hi (by omega) (by omega) h1 (fun k hk1 hk2 => ?_)
        have := wk_mono hs (show a ≤ (i + j) / 2 by omega) hk1 hk2
        omega
      · rw [decide_eq_false hw, Bool.not_false, cond_true, wh]
        refine ih _ j (by omega) (by omega) (by omega) hj (fun k hk1 hk2 => ?_) h2
        have := wk_mono hs hk1 (show k ≤ (i + j) / 2 by omega) (by omega)
        omega
    · have : i = j := by omega
      subst this
      simp only [bndD, decide_eq_false (show ¬ (i : Int) < (i : Int) by omega), cond_false]
      exact ⟨i, hi, hj, h1, h2, rfl⟩
theorem shift_down {D0 : List Int} {m s : Nat} (hm : m < D0.length) (hf : D0.length ≤ 1000) (hsm : s ≤ m) : ∀ (n k : Nat) (D : List Int), k - s < n → s ≤ k → k ≤ m → D.length = D0.length → (∀ p, dg D p = if k < p ∧ p ≤ m then dg D0 (p - 1) else if p = k then dg D0 m else dg D0 p) →
    ∃ D', slices_symMergeCmpFunc_int_h_Order_1_L3 (s : Int) n D (k : Int) = some D' ∧ D'.length = D0.length ∧ ∀ p, dg D' p = if s < p ∧ p ≤ m then dg D0 (p - 1) else if p = s then dg D0 m else dg D0 p := by
  intro n
  induction n with
  | zero => intro k D h; omega
  | succ n ih =>
    intro k D hn hsk hkm hl hD
    unfold slices_symMergeCmpFunc_int_h_Order_1_L3
    by_cases c : s < k
    · have w1 : IntKind.wrap .i64 ((k : Int) - 1) = ((k - 1 : Nat) : Int) := by rw [w64 (by omega) (by omega)]; omega
      have h1 : k < D.length := by omega
      have h2 : k - 1 < D.length := by omega
      have e1 : ∀ u, (D.set k u).length = D.length := fun u => List.length_set
      simp only [bndD, decide_eq_true (show (s : Int) < (k : Int) by omega), cond_true, w1, gix_dg h1, gix_dg h2, get_dg h1, get_dg h2, bnoS, Int.toNat_natCast, dg_some h1, dg_some h2]
      rw [gix_dg (D := D.set k (dg D (k - 1))) (by rw [e1]; exact h2), bnoS, dg_some (D := D.set k (dg D (k - 1))) (by rw [e1]; exact h2), bnoS]
      refine ih (k - 1) _ (by omega) (by omega) (by omega) (by simp [hl]) fun p => ?_
      rw [dg_set (by rw [e1]; exact h2), dg_set h1]
      simp only [hD]
      (repeat' split) <;> first | rfl | (congr 1; omega) | (exfalso; omega) | (exfalso; simp at *; done)
    · have : k = s := by omega
      subst this
      simp only [bndD, decide_eq_false (show ¬ (k : Int) < (k : Int) by omega), cond_false]
      exact ⟨D, rfl, hl, hD⟩
theorem sym_two {l : List Nat} {D : List Int} {a m b : Nat} (h : Pre l D a m b) (h1 : b - m = 1) : ∃ D', slices_symMergeCmpFunc_int_h_Order_1_L2 (m : Int) D l fuel (a : Int) (m : Int) = some D' ∧ Post l D D' a b := by
  obtain ⟨ham, hmb, hbl, hfew, hrng, hlo, hhi, hless⟩ := h
  obtain ⟨s, s1, s2, s3, s4, s5⟩ := find2 (l := l) (a := a) (m := m) (by omega) hfew hrng hlo fuel a m (fuel_gt (by omega)) (Nat.le_refl _) (by omega) (Nat.le_refl _) (fun k _ _ => by omega) (fun k _ _ => by omega)
  obtain ⟨D', e1, e2, e3⟩ := shift_down (D0 := D) (m := m) (s := s) (by omega) hfew s2 fuel m D (fuel_gt (by omega)) s2 (Nat.le_refl _) rfl (fun p => by
    rw [if_neg (by omega)]; by_cases c : p = m
    · rw [if_pos c, c]
    · rw [if_neg c])
  refine ⟨D', by rw [s5]; exact e1, e2, ?_, fun k hk => by rw [e3, if_neg (by omega), if_neg (by omega)], fun k hk1 hk2 => ?_⟩
  · intro i j hi hij hj
    rw [e3 i, e3 j]
    by_cases c1 : j < s
    · rw [if_neg (by omega), if_neg (by omega), if_neg (by omega), if_neg (by omega)]; exact hlo _ _ hi hij (by omega)
    · by_cases c2 : j = s
      · rw [if_neg (c := s < i ∧ i ≤ m) (by omega), if_neg (c := i = s) (by omega), if_neg (by omega), if_pos c2]
        have := s3 i hi (by omega)
        have := hless i m hi (by omega) (Nat.le_refl _) (by omega)
        unfold R; omega
      · rw [if_pos (c := s < j ∧ j ≤ m) (by omega)]
        by_cases c3 : i < s
        · rw [if_neg (by omega), if_neg (by omega)]
          by_cases c5 : i = j - 1
          · omega
          · exact hlo _ _ hi (by omega) (by omega)
        · by_cases c4 : i = s
          · rw [if_neg (by omega), if_pos c4]; left; exact s4 _ (by omega) (by omega)
          · rw [if_pos (by omega)]; exact hlo _ _ (by omega) (by omega) (by omega)
  · rw [e3]
    by_cases c1 : s < k ∧ k ≤ m
    · rw [if_pos c1]; exact ⟨k - 1, by omega, by omega, rfl⟩
    · rw [if_neg c1]
      by_cases c2 : k = s
      · rw [if_pos c2]; exact ⟨m, by omega, by omega, rfl⟩
      · rw [if_neg c2]; exact ⟨k, hk1, hk2, rfl⟩

/-- Where both parts are cut. -/
theorem find5 {l : List Nat} {D : List Int} {a m b p s0 r0 : Nat} {rec0 : Int → Int → Int → List Int → List Nat → Option (List Int)} {x195 x196 : Int} (hb : b ≤ D.length) (hf : D.length ≤ 1000) (hr : Rng l D) (hlo : Srt l D a m) (hhi : Srt l D m b) (ha0 : a ≤ s0) (hr0 : r0 ≤ m) (hp1 : ∀ c, s0 ≤ c → c < r0 → m + c ≤ p) (hp2 : ∀ c, s0 ≤ c → c < r0 → p < b + c) (hmb : m ≤ b) :
    ∀ (n i j : Nat), j - i < n → s0 ≤ i → i ≤ j → j ≤ r0 → (∀ c, s0 ≤ c → c < i → wk l (dg D (p - c)) ≤ wk l (dg D c)) → (∀ c, j ≤ c → c < r0 → wk l (dg D c) < wk l (dg D (p - c))) →
    ∃ s, s0 ≤ s ∧ s ≤ r0 ∧ (∀ c, s0 ≤ c → c < s → wk l (dg D (p - c)) ≤ wk l (dg D c)) ∧ (∀ c, s ≤ c → c < r0 → wk l (dg D c) < wk l (dg D (p - c))) ∧
      slices_symMergeCmpFunc_int_h_Order_1_L5 rec0 (a : Int) (m : Int) (b : Int) D l x195 x196 (p : Int) n (i : Int) (j : Int) = slices_symMergeCmpFunc_int_h_Order_1_L5 rec0 (a : Int) (m : Int) (b : Int) D l x195 x196 (p : Int) 1 (s : Int) (s : Int) := by
  intro n
  induction n with
  | zero => intro i j h; omega
  | succ n ih =>
    intro i j hn hi hij hj h1 h2
    by_cases c : i < j
    · obtain ⟨e1, e2, e3, e4⟩ := half (x := i) (y := j) (by omega)
      have q1 := hp1 ((i + j) / 2) (by omega) (by omega)
      have q2 := hp2 ((i + j) / 2) (by omega) (by omega)
      have hh : (i + j) / 2 < D.length := by omega
      have hq : p - (i + j) / 2 < D.length := by omega
      have wh : IntKind.wrap .i64 ((((i + j) / 2 : Nat) : Int) + 1) = (((i + j) / 2 + 1 : Nat) : Int) := by rw [w64 (by omega) (by omega)]; omega
      have wp : IntKind.wrap .i64 ((p : Int) - (((i + j) / 2 : Nat) : Int)) = ((p - (i + j) / 2 : Nat) : Int) := by rw [w64 (by omega) (by omega)]; omega
      obtain ⟨v, hv, hd⟩ := order1_eq (l := l) (i := dg D (p - (i + j) / 2)) (j := dg D ((i + j) / 2)) (hr _ hq) (hr _ hh)
      have step : slices_symMergeCmpFunc_int_h_Order_1_L5 rec0 (a : Int) (m : Int) (b : Int) D l x195 x196 (p : Int) (n + 1) (i : Int) (j : Int) = if wk l (dg D ((i + j) / 2)) < wk l (dg D (p - (i + j) / 2)) then slices_symMergeCmpFunc_int_h_Order_1_L5 rec0 (a : Int) (m : Int) (b : Int) D l x195 x196 (p : Int) n (i : Int) (((i + j) / 2 : Nat) : Int) else slices_symMergeCmpFunc_int_h_Order_1_L5 rec0 (a : Int) (m : Int) (b : Int) D l x195 x196 (p : Int) n (((i + j) / 2 + 1 : Nat) : Int) (j : Int) := by
        rw [slices_symMergeCmpFunc_int_h_Order_1_L5]
        simp only [bndD, decide_eq_true (show (i : Int) < (j : Int) by omega), cond_true, e1, e2, e3, e4, bnoS, wp, gix_dg hh, get_dg hh, gix_dg hq, get_dg hq, hv, hd, wh]
        by_cases hw : wk l (dg D ((i + j) / 2)) < wk l (dg D (p - (i + j) / 2))
        · rw [decide_eq_true hw, if_pos hw]; rfl
        · rw [decide_eq_false hw, if_neg hw]; rfl
      rw [step]
      by_cases hw : wk l (dg D ((i + j) / 2)) < wk l (dg D (p - (i + j) / 2))
      · rw [if_pos hw]
        refine ih i _ (by omega) hi (by omega) (by omega) h1 (fun c' hc1 hc2 => ?_)
        have k1 := hp1 c' (by omega) hc2
        have k2 := hp2 c' (by omega) hc2
        have g1 := wk_mono hlo (show a ≤ (i + j) / 2 by omega) hc1 (by omega)
        have g2 := wk_mono hhi (show m ≤ p - c' by omega) (show p - c' ≤ p - (i + j) / 2 by omega) (by omega)
        omega
      · rw [if_neg hw]
        refine ih _ j (by omega) (by omega) (by omega) hj (fun c' hc1 hc2 => ?_) h2
        have k1 := hp1 c' hc1 (by omega)
        have k2 := hp2 c' hc1 (by omega)
        have g1 := wk_mono hlo (show a ≤ c' by omega) (show c' ≤ (i + j) / 2 by omega) (by omega)
        have g2 := wk_mono hhi (show m ≤ p - (i + j) / 2 by omega) (show p - (i + j) / 2 ≤ p - c' by omega) (by omega)
        omega
    · have : i = j := by omega
      subst this
      refine ⟨i, hi, hj, h1, h2, ?_⟩
      rw [slices_symMergeCmpFunc_int_h_Order_1_L5, slices_symMergeCmpFunc_int_h_Order_1_L5]
      simp only [bndD, decide_eq_false (show ¬ (i : Int) < (i : Int) by omega), cond_false]
end Go.Fn
