/-
  A part of the proof: rules and plain facts. No condition.
-/
import Derived.Test.YtkmnhcjjaadmbaaIlP14
set_option linter.all false
set_option linter.unusedSimpArgs false
set_option linter.unusedVariables false
open Go Go.IL Go.Fl
namespace Go.Fn

def RecOk (l : List Nat) (rec0 : Int → Int → Int → List Int → List Nat → Option (List Int)) (w : Nat) : Prop :=
  ∀ (a m b : Nat) (D : List Int), b - a < w → Pre l D a m b → ∃ D', rec0 (a : Int) (m : Int) (b : Int) D l = some D' ∧ Post l D D' a b
theorem rot_mem {D : List Int} {s m e : Nat} (h1 : s ≤ m) (h2 : m ≤ e) (h3 : e ≤ D.length) (k : Nat) (hk : k < D.length) : ∃ k', k' < D.length ∧ rot D s m e k = dg D k' := by
  unfold rot
  by_cases c1 : s ≤ k ∧ k < s + (e - m)
  · rw [if_pos c1]; exact ⟨_, by omega, rfl⟩
  · rw [if_neg c1]
    by_cases c2 : s + (e - m) ≤ k ∧ k < e
    · rw [if_pos c2]; exact ⟨_, by omega, rfl⟩
    · rw [if_neg c2]; exact ⟨k, hk, rfl⟩
theorem sym_gen {l : List Nat} {D : List Int} {a m b mid s0 r0 : Nat} {rec0 : Int → Int → Int → List Int → List Nat → Option (List Int)} (hrec : RecOk l rec0 (b - a)) (h : Pre l D a m b) (hmid1 : a < mid) (hmid2 : mid < b)
    (ha0 : a ≤ s0) (hsr : s0 ≤ r0) (hr0 : r0 ≤ m) (hrm : r0 ≤ mid) (hsb : mid + m ≤ b + s0) (he : s0 = a ∨ mid + m = b + s0) (hf : r0 = m ∨ r0 = mid) :
    ∃ D', slices_symMergeCmpFunc_int_h_Order_1_J4 rec0 (a : Int) (m : Int) (b : Int) D l (mid : Int) ((mid + m : Nat) : Int) (s0 : Int) (r0 : Int) = some D' ∧ Post l D D' a b := by
  obtain ⟨ham, hmb, hbl, hfew, hrng, hlo, hhi, hless⟩ := h
  have wp : IntKind.wrap .i64 (((mid + m : Nat) : Int) - 1) = ((mid + m - 1 : Nat) : Int) := by rw [w64 (by omega) (by omega)]; omega
  obtain ⟨s, s1, s2, s3, s4, s5⟩ := find5 (l := l) (D := D) (a := a) (m := m) (b := b) (p := mid + m - 1) (s0 := s0) (r0 := r0) (rec0 := rec0) (x195 := (mid : Int)) (x196 := ((mid + m : Nat) : Int)) hbl hfew hrng hlo hhi ha0 hr0 (fun c h1 h2 => by omega) (fun c h1 h2 => by omega) (by omega)
    fuel s0 r0 (fuel_gt (by omega)) (Nat.le_refl _) hsr (Nat.le_refl _) (fun c h1 h2 => by omega) (fun c h1 h2 => by omega)
  unfold slices_symMergeCmpFunc_int_h_Order_1_J4
  simp only [bndD, wp]
  rw [s5]
  obtain ⟨e, hee⟩ : ∃ e, e = mid + m - s := ⟨_, rfl⟩
  have hs : a ≤ s ∧ s ≤ m ∧ s ≤ mid := by omega
  have hem : m ≤ e ∧ e ≤ b := by omega
  have hmide : mid = s + (e - m) := by omega
  have we : IntKind.wrap .i64 (((mid + m : Nat) : Int) - (s : Int)) = (e : Int) := by rw [w64 (by omega) (by omega)]; omega
  -- the left parts are ahead of the right parts
  have F1 : ∀ x y, a ≤ x → x < s → e ≤ y → y < b → R l (dg D x) (dg D y) := by
    intro x y hx1 hx2 hy1 hy2
    by_cases c : s0 < s
    · have h1 := s3 (s - 1) (by omega) (by omega)
      rw [show mid + m - 1 - (s - 1) = e by omega] at h1
      have h2 := wk_mono hlo hx1 (show x ≤ s - 1 by omega) (by omega)
      have h3 := wk_mono hhi hem.1 hy1 hy2
      have h4 := hless x y hx1 (by omega) (by omega) hy2
      unfold R; omega
    · rcases he with he | he <;> omega
  have F2 : ∀ y x, m ≤ y → y < e → s ≤ x → x < m → R l (dg D y) (dg D x) := by
    intro y x hy1 hy2 hx1 hx2
    by_cases c : s < r0
    · have h1 := s4 s (Nat.le_refl _) c
      rw [show mid + m - 1 - s = e - 1 by omega] at h1
      have h2 := wk_mono hlo hs.1 hx1 hx2
      have h3 := wk_mono hhi hy1 (show y ≤ e - 1 by omega) (by omega)
      unfold R; omega
    · rcases hf with hf | hf <;> omega
  have rotd : ∃ D1, slices_symMergeCmpFunc_int_h_Order_1_L5 rec0 (a : Int) (m : Int) (b : Int) D l (mid : Int) ((mid + m : Nat) : Int) ((mid + m - 1 : Nat) : Int) 1 (s : Int) (s : Int) = slices_symMergeCmpFunc_int_h_Order_1_J6 rec0 (a : Int) (b : Int) l (mid : Int) (s : Int) (e : Int) D1 ∧ D1.length = D.length ∧ ∀ k, dg D1 k = rot D s m e k := by
    rw [slices_symMergeCmpFunc_int_h_Order_1_L5]
    simp only [bndD, decide_eq_false (show ¬ (s : Int) < (s : Int) by omega), cond_false, we]
    by_cases c : s < m ∧ m < e
    · obtain ⟨D1, e1, e2, e3⟩ := rot_eq (l := l) hfew c.1 c.2 (by omega : e ≤ D.length)
      simp only [decide_eq_true (show (s : Int) < (m : Int) by omega), decide_eq_true (show (m : Int) < (e : Int) by omega), Bool.and_self, cond_true, e1, bnoS, chk_t e2]
      exact ⟨D1, rfl, e2, e3⟩
    · have : (decide ((s : Int) < (m : Int)) && decide ((m : Int) < (e : Int))) = false := by
        by_cases c1 : s < m
        · rw [decide_eq_false (show ¬ (m : Int) < (e : Int) by omega), Bool.and_false]
        · rw [decide_eq_false (show ¬ (s : Int) < (m : Int) by omega), Bool.false_and]
      simp only [this, cond_false]
      refine ⟨D, rfl, rfl, fun k => ?_⟩
      unfold rot
      by_cases c1 : s ≤ k ∧ k < s + (e - m)
      · rw [if_pos c1]; congr 1; omega
      · rw [if_neg c1]
        by_cases c2 : s + (e - m) ≤ k ∧ k < e
        · rw [if_pos c2]; congr 1; omega
        · rw [if_neg c2]
  obtain ⟨D1, g1, g2, g3⟩ := rotd
  rw [g1]
  have A1 : ∀ k, k < s ∨ e ≤ k → dg D1 k = dg D k := fun k hk => by rw [g3]; unfold rot; rw [if_neg (by omega), if_neg (by omega)]
  have A2 : ∀ k, s ≤ k → k < mid → dg D1 k = dg D (k + (m - s)) := fun k h1 h2 => by rw [g3]; unfold rot; rw [if_pos (by omega)]
  have A3 : ∀ k, mid ≤ k → k < e → dg D1 k = dg D (k - (e - m)) := fun k h1 h2 => by rw [g3]; unfold rot; rw [if_neg (by omega), if_pos (by omega)]
  have hr1 : Rng l D1 := fun k hk => by
    obtain ⟨k', h1, h2⟩ := rot_mem hs.2.1 hem.1 (by omega : e ≤ D.length) k (by omega)
    rw [g3, h2]; exact hrng k' h1
  -- the left half
  have st2 : ∃ D2, slices_symMergeCmpFunc_int_h_Order_1_J6 rec0 (a : Int) (b : Int) l (mid : Int) (s : Int) (e : Int) D1 = slices_symMergeCmpFunc_int_h_Order_1_J7 rec0 (b : Int) l (mid : Int) (e : Int) D2 ∧ Post l D1 D2 a mid := by
    unfold slices_symMergeCmpFunc_int_h_Order_1_J6
    by_cases c : a < s ∧ s < mid
    · obtain ⟨D2, e1, e2⟩ := hrec a s mid D1 (by omega) ⟨c.1, c.2, by omega, by omega, hr1, fun i j h1 h2 h3 => by
          rw [A1 i (by omega), A1 j (by omega)]; exact hlo i j h1 h2 (by omega), fun i j h1 h2 h3 => by
          rw [A2 i h1 (by omega), A2 j (by omega) h3]; exact hhi _ _ (by omega) (by omega) (by omega), fun i j h1 h2 h3 h4 => by
          rw [A1 i (by omega), A2 j h3 h4]; exact hless _ _ h1 (by omega) (by omega) (by omega)⟩
      simp only [bndD, decide_eq_true (show (a : Int) < (s : Int) by omega), decide_eq_true (show (s : Int) < (mid : Int) by omega), Bool.and_self, cond_true, e1, bnoS, chk_t e2.len]
      exact ⟨D2, rfl, e2⟩
    · have : (decide ((a : Int) < (s : Int)) && decide ((s : Int) < (mid : Int))) = false := by
        by_cases c1 : a < s
        · rw [decide_eq_false (show ¬ (s : Int) < (mid : Int) by omega), Bool.and_false]
        · rw [decide_eq_false (show ¬ (a : Int) < (s : Int) by omega), Bool.false_and]
      simp only [bndD, this, cond_false]
      refine ⟨D1, rfl, rfl, fun i j h1 h2 h3 => ?_, fun _ _ => rfl, fun k h1 h2 => ⟨k, h1, h2, rfl⟩⟩
      by_cases c1 : a < s
      · rw [A1 i (by omega), A1 j (by omega)]; exact hlo i j h1 h2 (by omega)
      · rw [A2 i (by omega) (by omega), A2 j (by omega) h3]; exact hhi _ _ (by omega) (by omega) (by omega)
  obtain ⟨D2, k1, k2⟩ := st2
  rw [k1]
  have hr2 : Rng l D2 := fun k hk => by
    by_cases c : a ≤ k ∧ k < mid
    · obtain ⟨k', h1, h2, h3⟩ := k2.mem k c.1 c.2
      rw [h3]; exact hr1 k' (by omega)
    · rw [k2.out k (by omega)]; exact hr1 k (by rw [← k2.len]; exact hk)
  have B3 : ∀ k, mid ≤ k → k < e → dg D2 k = dg D (k - (e - m)) := fun k h1 h2 => by rw [k2.out k (.inr h1), A3 k h1 h2]
  have B4 : ∀ k, e ≤ k → dg D2 k = dg D k := fun k h1 => by rw [k2.out k (.inr (by omega)), A1 k (.inr h1)]
  have l2 : D2.length = D.length := by rw [k2.len, g2]
  -- the right half
  have st3 : ∃ D3, slices_symMergeCmpFunc_int_h_Order_1_J7 rec0 (b : Int) l (mid : Int) (e : Int) D2 = some D3 ∧ Post l D2 D3 mid b := by
    unfold slices_symMergeCmpFunc_int_h_Order_1_J7
    by_cases c : mid < e ∧ e < b
    · obtain ⟨D3, e1, e2⟩ := hrec mid e b D2 (by omega) ⟨c.1, c.2, by omega, by omega, hr2, fun i j h1 h2 h3 => by
          rw [B3 i h1 (by omega), B3 j (by omega) h3]; exact hlo _ _ (by omega) (by omega) (by omega), fun i j h1 h2 h3 => by
          rw [B4 i h1, B4 j (by omega)]; exact hhi _ _ (by omega) h2 h3, fun i j h1 h2 h3 h4 => by
          rw [B3 i h1 h2, B4 j h3]; exact hless _ _ (by omega) (by omega) (by omega) h4⟩
      simp only [bndD, decide_eq_true (show (mid : Int) < (e : Int) by omega), decide_eq_true (show (e : Int) < (b : Int) by omega), Bool.and_self, cond_true, e1, bnoS, chk_t e2.len]
      exact ⟨D3, rfl, e2⟩
    · have : (decide ((mid : Int) < (e : Int)) && decide ((e : Int) < (b : Int))) = false := by
        by_cases c1 : mid < e
        · rw [decide_eq_false (show ¬ (e : Int) < (b : Int) by omega), Bool.and_false]
        · rw [decide_eq_false (show ¬ (mid : Int) < (e : Int) by omega), Bool.false_and]
      simp only [bndD, this, cond_false]
      refine ⟨D2, rfl, rfl, fun i j h1 h2 h3 => ?_, fun _ _ => rfl, fun k h1 h2 => ⟨k, h1, h2, rfl⟩⟩
      by_cases c1 : mid < e
      · rw [B3 i h1 (by omega), B3 j (by omega) (by omega)]; exact hlo _ _ (by omega) (by omega) (by omega)
      · rw [B4 i (by omega), B4 j (by omega)]; exact hhi _ _ (by omega) h2 h3
  obtain ⟨D3, n1, n2⟩ := st3
  -- what stands in the halves
  have inL : ∀ k, a ≤ k → k < mid → ∃ k', ((a ≤ k' ∧ k' < s) ∨ (m ≤ k' ∧ k' < e)) ∧ dg D2 k = dg D k' := by
    intro k h1 h2
    obtain ⟨k', h3, h4, h5⟩ := k2.mem k h1 h2
    by_cases c : k' < s
    · exact ⟨k', .inl ⟨h3, c⟩, by rw [h5, A1 k' (.inl c)]⟩
    · exact ⟨k' + (m - s), .inr ⟨by omega, by omega⟩, by rw [h5, A2 k' (by omega) h4]⟩
  have inR : ∀ k, mid ≤ k → k < b → ∃ k', ((s ≤ k' ∧ k' < m) ∨ (e ≤ k' ∧ k' < b)) ∧ dg D3 k = dg D k' := by
    intro k h1 h2
    obtain ⟨k', h3, h4, h5⟩ := n2.mem k h1 h2
    by_cases c : k' < e
    · exact ⟨k' - (e - m), .inl ⟨by omega, by omega⟩, by rw [h5, B3 k' h3 c]⟩
    · exact ⟨k', .inr ⟨by omega, h4⟩, by rw [h5, B4 k' (by omega)]⟩
  refine ⟨D3, n1, by rw [n2.len, l2], fun i j h1 h2 h3 => ?_, fun k hk => ?_, fun k h1 h2 => ?_⟩
  · by_cases c1 : j < mid
    · rw [n2.out i (.inl (by omega)), n2.out j (.inl c1)]; exact k2.srt i j h1 h2 c1
    · by_cases c2 : mid ≤ i
      · exact n2.srt i j c2 h2 h3
      · obtain ⟨x, hx, ex⟩ := inL i h1 (by omega)
        obtain ⟨y, hy, ey⟩ := inR j (by omega) h3
        rw [n2.out i (.inl (by omega)), ex, ey]
        rcases hx with ⟨hx1, hx2⟩ | ⟨hx1, hx2⟩ <;> rcases hy with ⟨hy1, hy2⟩ | ⟨hy1, hy2⟩
        · exact hlo x y hx1 (by omega) hy2
        · exact F1 x y hx1 hx2 hy1 hy2
        · exact F2 x y hx1 hx2 hy1 hy2
        · exact hhi x y hx1 (by omega) hy2
  · rcases hk with hk | hk
    · rw [n2.out k (.inl (by omega)), k2.out k (.inl hk), A1 k (.inl (by omega))]
    · rw [n2.out k (.inr hk), B4 k (by omega)]
  · by_cases c : k < mid
    · obtain ⟨x, hx, ex⟩ := inL k h1 c
      exact ⟨x, by omega, by omega, by rw [n2.out k (.inl c), ex]⟩
    · obtain ⟨y, hy, ey⟩ := inR k (by omega) h2
      exact ⟨y, by omega, by omega, ey⟩
theorem sym_eq {l : List Nat} : ∀ (n a m b : Nat) (D : List Int), b - a < n → Pre l D a m b → ∃ D', slices_symMergeCmpFunc_int_h_Order_1 n (a : Int) (m : Int) (b : Int) D l = some D' ∧ Post l D D' a b := by
  intro n
  induction n with
  | zero => intro a m b D h; omega
  | succ n ih =>
    intro a m b D hn h
    have hrec : RecOk l (slices_symMergeCmpFunc_int_h_Order_1 n) (b - a) := fun a' m' b' D' h1 h2 => ih a' m' b' D' (by omega) h2
    have h' := h
    obtain ⟨ham, hmb, hbl, hfew, hrng, hlo, hhi, hless⟩ := h
    show ∃ D', slices_symMergeCmpFunc_int_h_Order_1_B (slices_symMergeCmpFunc_int_h_Order_1 n) (a : Int) (m : Int) (b : Int) D l = some D' ∧ Post l D D' a b
    unfold slices_symMergeCmpFunc_int_h_Order_1_B
    have w1 : IntKind.wrap .i64 ((m : Int) - (a : Int)) = ((m - a : Nat) : Int) := by rw [w64 (by omega) (by omega)]; omega
    have w2 : IntKind.wrap .i64 ((b : Int) - (m : Int)) = ((b - m : Nat) : Int) := by rw [w64 (by omega) (by omega)]; omega
    simp only [bndD, w1, w2]
    by_cases h1 : m - a = 1
    · simp only [decide_eq_true (show ((m - a : Nat) : Int) = 1 by omega), cond_true]
      exact sym_one h' h1
    · simp only [decide_eq_false (show ¬ ((m - a : Nat) : Int) = 1 by omega), cond_false]
      by_cases h2 : b - m = 1
      · simp only [decide_eq_true (show ((b - m : Nat) : Int) = 1 by omega), cond_true]
        exact sym_two h' h2
      · obtain ⟨e1, e2, e3, e4⟩ := half (x := a) (y := b) (by omega)
        obtain ⟨mid, hmid⟩ : ∃ mid, mid = (a + b) / 2 := ⟨_, rfl⟩
        rw [← hmid] at e3 e4
        have w3 : IntKind.wrap .i64 (((mid : Nat) : Int) + (m : Int)) = ((mid + m : Nat) : Int) := by rw [w64 (by omega) (by omega)]; omega
        simp only [decide_eq_false (show ¬ ((b - m : Nat) : Int) = 1 by omega), cond_false, e1, e2, e3, e4, bnoS, w3]
        by_cases c : mid < m
        · have w4 : IntKind.wrap .i64 (((mid + m : Nat) : Int) - (b : Int)) = ((mid + m - b : Nat) : Int) := by rw [w64 (by omega) (by omega)]; omega
          rw [decide_eq_true (show (mid : Int) < (m : Int) by omega), cond_true, w4]
          exact sym_gen hrec h' (by omega) (by omega) (by omega) (by omega) (by omega) (by omega) (by omega) (by omega) (.inr rfl)
        · rw [decide_eq_false (show ¬ (mid : Int) < (m : Int) by omega), cond_false]
          exact sym_gen hrec h' (by omega) (by omega) (by omega) (by omega) (by omega) (by omega) (by omega) (.inl rfl) (.inl rfl)

/-! The blocks. -/
theorem blk_merge {l : List Nat} {D : List Int} {a m b : Nat} (ham : a < m) (hmb : m < b) (hbl : b ≤ D.length) (hfew : D.length ≤ 1000) (hrng : Rng l D) (h1 : Blk l D a m) (h2 : Blk l D m b) :
    ∃ D', slices_symMergeCmpFunc_int_h_Order_1 fuel (a : Int) (m : Int) (b : Int) D l = some D' ∧ D'.length = D.length ∧ Blk l D' a b ∧ (∀ k, k < a ∨ b ≤ k → dg D' k = dg D k) ∧ Rng l D' := by
  obtain ⟨D', e1, e2⟩ := sym_eq (l := l) fuel a m b D (fuel_gt (by omega)) ⟨ham, hmb, hbl, hfew, hrng, h1.1, h2.1, fun i j c1 c2 c3 c4 => by
    have := h1.2 i c1 c2
    have := h2.2 j c3 c4
    omega⟩
  refine ⟨D', e1, e2.len, ⟨e2.srt, fun k c1 c2 => ?_⟩, e2.out, fun k hk => ?_⟩
  · obtain ⟨k', d1, d2, d3⟩ := e2.mem k c1 c2
    rw [d3]
    by_cases c : k' < m
    · have := h1.2 k' d1 c; omega
    · have := h2.2 k' (by omega) d2; omega
  · by_cases c : a ≤ k ∧ k < b
    · obtain ⟨k', d1, d2, d3⟩ := e2.mem k c.1 c.2
      rw [d3]; exact hrng k' (by omega)
    · rw [e2.out k (by omega)]; exact hrng k (by rw [← e2.len]; exact hk)
theorem blk_out {l : List Nat} {D D' : List Int} {a b p q : Nat} (h : Blk l D p q) (ho : ∀ k, k < a ∨ b ≤ k → dg D' k = dg D k) (hd : q ≤ a ∨ b ≤ p) : Blk l D' p q :=
  ⟨fun i j h1 h2 h3 => by rw [ho i (by omega), ho j (by omega)]; exact h.1 i j h1 h2 h3, fun k h1 h2 => by rw [ho k (by omega)]; exact h.2 k h1 h2⟩
/-- All blocks of a size, from a place on, are in order. -/
def Bls (l : List Nat) (D : List Int) (s n : Nat) (from' : Nat) : Prop := ∀ c, from' ≤ c * s → c * s < n → Blk l D (c * s) (min (c * s + s) n)
theorem mul_two_pos {c s a : Nat} (h : a = 2 * c * s) : a + 2 * s = 2 * (c + 1) * s := by subst h; rw [Nat.mul_add, Nat.add_mul]
theorem merge_in {l : List Nat} {n s : Nat} {kk1 : List Int → Int → Option (List Int)} (hs : 0 < s) (hn : n ≤ 1000) (hsn : s < 1000) : ∀ (f c : Nat) (D : List Int), n - 2 * c * s < f → D.length = n → Rng l D → (∀ d, d < c → Blk l D (2 * d * s) (min (2 * d * s + 2 * s) n)) → Bls l D s n (2 * c * s) → 2 * c * s ≤ n →
    ∃ D', slices_stableCmpFunc_int_h_Order_1_L2 (n : Int) l (s : Int) kk1 f D ((2 * c * s : Nat) : Int) ((2 * c * s + 2 * s : Nat) : Int) = kk1 D' ((s * 2 : Nat) : Int) ∧ D'.length = n ∧ Rng l D' ∧ Bls l D' (s * 2) n 0 := by
  intro f
  induction f with
  | zero => intro c D h; omega
  | succ f ih =>
    intro c D hf hl hr hdone hrest hcn
    obtain ⟨a, ha⟩ : ∃ a, a = 2 * c * s := ⟨_, rfl⟩
    rw [← ha] at hf hrest hcn ⊢
    have e2s : (2 : Int) * (s : Int) = ((2 * s : Nat) : Int) := by omega
    have w1 : IntKind.wrap .i64 ((a : Int) + (s : Int)) = ((a + s : Nat) : Int) := by rw [w64 (by omega) (by omega)]; omega
    have w2 : IntKind.wrap .i64 (2 * (s : Int)) = ((2 * s : Nat) : Int) := by rw [w64 (by omega) (by omega)]; omega
    have w3 : IntKind.wrap .i64 ((s : Int) * 2) = ((s * 2 : Nat) : Int) := by rw [w64 (by omega) (by omega)]; omega
    have b0 : a < n → Blk l D a (min (a + s) n) := fun h => by
      have := hrest (2 * c) (by omega) (by omega); rwa [← ha] at this
    have e1 : (2 * c + 1) * s = a + s := by rw [Nat.add_mul, Nat.one_mul, ← ha]
    have b1 : a + s < n → Blk l D (a + s) (min (a + s + s) n) := fun h => by
      have := hrest (2 * c + 1) (by omega) (by omega); rwa [e1] at this
    unfold slices_stableCmpFunc_int_h_Order_1_L2
    by_cases h1 : a + 2 * s ≤ n
    · have h2 := b0 (by omega)
      have h3 := b1 (by omega)
      rw [show min (a + s) n = a + s by omega] at h2
      rw [show min (a + s + s) n = a + 2 * s by omega] at h3
      obtain ⟨D', f1, f2, f3, f4, f5⟩ := blk_merge (by omega) (by omega) (by omega) (by omega) hr h2 h3
      have w4 : IntKind.wrap .i64 (((a + 2 * s : Nat) : Int) + ((2 * s : Nat) : Int)) = ((a + 2 * s + 2 * s : Nat) : Int) := by rw [w64 (by omega) (by omega)]; omega
      simp only [bndD, decide_eq_true (show ((a + 2 * s : Nat) : Int) ≤ (n : Int) by omega), cond_true, w1, f1, bnoS, chk_t f2, w2, w4]
      have e3 : a + 2 * s = 2 * (c + 1) * s := mul_two_pos ha
      rw [e3]
      refine ih (c + 1) D' (by omega) (by omega) f5 (fun d hd => ?_) (fun d h4 h5 => ?_) (by omega)
      · by_cases hdc : d = c
        · subst hdc; rw [← ha, show min (a + 2 * s) n = a + 2 * s by omega]; exact f3
        · have h6 : 2 * d * s + 2 * s ≤ a := by
            have : (2 * d + 2) * s ≤ 2 * c * s := Nat.mul_le_mul_right _ (by omega)
            rw [Nat.add_mul] at this; omega
          exact blk_out (hdone d (by omega)) f4 (by omega)
      · exact blk_out (hrest d (by omega) h5) f4 (by omega)
    · simp only [bndD, decide_eq_false (show ¬ ((a + 2 * s : Nat) : Int) ≤ (n : Int) by omega), cond_false, w1, w3]
      have fin : ∀ D', D'.length = n → Blk l D' a n ∨ a = n → (∀ d, d < c → Blk l D' (2 * d * s) (min (2 * d * s + 2 * s) n)) → Bls l D' (s * 2) n 0 := by
        intro D' _ h2 h3 d _ h5
        have e4 : d * (s * 2) = 2 * d * s := by rw [Nat.mul_comm s 2, ← Nat.mul_assoc, Nat.mul_comm d 2]
        rw [e4] at h5 ⊢
        by_cases hdc : d < c
        · have := h3 d hdc; rwa [Nat.mul_comm s 2]
        · have h6 : a ≤ 2 * d * s := by rw [ha]; exact Nat.mul_le_mul_right _ (by omega)
          by_cases hdc2 : d = c
          · subst hdc2
            rw [← ha] at h5 ⊢
            rcases h2 with h2 | h2
            · rw [show min (a + s * 2) n = n by omega]; exact h2
            · omega
          · have : (2 * c + 2) * s ≤ 2 * d * s := Nat.mul_le_mul_right _ (by omega)
            rw [Nat.add_mul, ← ha] at this; omega
      by_cases h2 : a + s < n
      · have h3 := b0 (by omega)
        have h4 := b1 h2
        rw [show min (a + s) n = a + s by omega] at h3
        rw [show min (a + s + s) n = n by omega] at h4
        obtain ⟨D', f1, f2, f3, f4, f5⟩ := blk_merge (by omega) h2 (by omega) (by omega) hr h3 h4
        simp only [decide_eq_true (show ((a + s : Nat) : Int) < (n : Int) by omega), cond_true, f1, bnoS, chk_t f2]
        refine ⟨D', rfl, by omega, f5, fin D' (by omega) (.inl f3) fun d hd => ?_⟩
        have h6 : 2 * d * s + 2 * s ≤ a := by
          have : (2 * d + 2) * s ≤ 2 * c * s := Nat.mul_le_mul_right _ (by omega)
          rw [Nat.add_mul] at this; omega
        exact blk_out (hdone d hd) f4 (by omega)
      · simp only [decide_eq_false (show ¬ ((a + s : Nat) : Int) < (n : Int) by omega), cond_false]
        refine ⟨D, rfl, hl, hr, fin D hl ?_ hdone⟩
        by_cases h3 : a < n
        · left; have := b0 h3; rwa [show min (a + s) n = n by omega] at this
        · right; omega
theorem merge_out {l : List Nat} {n : Nat} (hn : n ≤ 400) : ∀ (f s : Nat) (D : List Int), n - s < f → 0 < s → s < 1000 → D.length = n → Rng l D → Bls l D s n 0 →
    ∃ D', slices_stableCmpFunc_int_h_Order_1_L1 (n : Int) l f D (s : Int) = some D' ∧ D'.length = n ∧ Rng l D' ∧ Blk l D' 0 n := by
  intro f
  induction f with
  | zero => intro s D h; omega
  | succ f ih =>
    intro s D hf hs hs' hl hr hb
    have w2 : IntKind.wrap .i64 (2 * (s : Int)) = ((2 * s : Nat) : Int) := by rw [w64 (by omega) (by omega)]; omega
    unfold slices_stableCmpFunc_int_h_Order_1_L1
    by_cases h : s < n
    · simp only [bndD, decide_eq_true (show (s : Int) < (n : Int) by omega), cond_true, w2]
      obtain ⟨D', e1, e2, e3, e4⟩ := merge_in (kk1 := slices_stableCmpFunc_int_h_Order_1_L1 (n : Int) l f) hs (by omega) hs' fuel 0 D (fuel_gt (by omega)) hl hr (fun d hd => by omega) (fun c h1 h2 => hb c (Nat.zero_le _) h2) (by omega)
      rw [show 2 * 0 * s = 0 by simp, Nat.zero_add] at e1
      rw [show ((0 : Nat) : Int) = 0 from rfl] at e1
      rw [e1]
      exact ih (s * 2) D' (by omega) (by omega) (by omega) e2 e3 e4
    · simp only [bndD, decide_eq_false (show ¬ (s : Int) < (n : Int) by omega), cond_false]
      refine ⟨D, rfl, hl, hr, ?_⟩
      by_cases h0 : n = 0
      · subst h0; exact ⟨fun i j h1 h2 h3 => by omega, fun k h1 h2 => by omega⟩
      · have := hb 0 (by omega) (by omega)
        rw [Nat.zero_mul, Nat.zero_add, show min s n = n by omega] at this
        exact this
theorem ins_blocks {l : List Nat} {n : Nat} (hn : n ≤ 400) : ∀ (f c : Nat) (D : List Int), n - 20 * c < f → D.length = n → 20 * c ≤ n → Rng l D → (∀ d, d < c → Blk l D (d * 20) (d * 20 + 20)) → (∀ k, 20 * c ≤ k → k < n → dg D k = k) →
    ∃ D', slices_stableCmpFunc_int_h_Order_1_L0 (n : Int) l f D ((20 * c : Nat) : Int) ((20 * c + 20 : Nat) : Int) = some D' ∧ D'.length = n ∧ Rng l D' ∧ Blk l D' 0 n := by
  intro f
  induction f with
  | zero => intro c D h; omega
  | succ f ih =>
    intro c D hf hl hcn hr hdone hid
    unfold slices_stableCmpFunc_int_h_Order_1_L0
    by_cases h1 : 20 * c + 20 ≤ n
    · obtain ⟨D', e1, e2, e3, e4, e5⟩ := ins_eq (l := l) (a := 20 * c) (b := 20 * c + 20) (D := D) (by omega) (by omega) (by omega) hr (fun k h2 h3 => hid k h2 (by omega))
      have w1 : IntKind.wrap .i64 (((20 * c + 20 : Nat) : Int) + 20) = ((20 * (c + 1) + 20 : Nat) : Int) := by rw [w64 (by omega) (by omega)]; omega
      simp only [bndD, decide_eq_true (show ((20 * c + 20 : Nat) : Int) ≤ (n : Int) by omega), cond_true, e1, bnoS, chk_t e2, w1]
      rw [show 20 * c + 20 = 20 * (c + 1) by omega]
      refine ih (c + 1) D' (by omega) (by omega) (by omega) e5 (fun d hd => ?_) (fun k h2 h3 => by rw [e4 k (.inr (by omega))]; exact hid k (by omega) h3)
      by_cases hdc : d = c
      · subst hdc; rw [Nat.mul_comm]; exact e3
      · exact blk_out (hdone d (by omega)) e4 (by omega)
    · simp only [bndD, decide_eq_false (show ¬ ((20 * c + 20 : Nat) : Int) ≤ (n : Int) by omega), cond_false]
      have last : ∃ D', slices_insertionSortCmpFunc_int_h_Order_1 ((20 * c : Nat) : Int) (n : Int) D l = some D' ∧ D'.length = D.length ∧ (20 * c < n → Blk l D' (20 * c) n) ∧ (∀ k, k < 20 * c ∨ n ≤ k → dg D' k = dg D k) ∧ Rng l D' := by
        by_cases h2 : 20 * c < n
        · obtain ⟨D', e1, e2, e3, e4, e5⟩ := ins_eq (l := l) (a := 20 * c) (b := n) (D := D) (by omega) h2 (by omega) hr hid
          exact ⟨D', e1, e2, fun _ => e3, e4, e5⟩
        · refine ⟨D, ?_, rfl, fun h => by omega, fun _ _ => rfl, hr⟩
          unfold slices_insertionSortCmpFunc_int_h_Order_1
          have w : IntKind.wrap .i64 (((20 * c : Nat) : Int) + 1) = ((20 * c + 1 : Nat) : Int) := by rw [w64 (by omega) (by omega)]; omega
          simp only [bndD, w]
          show slices_insertionSortCmpFunc_int_h_Order_1_L0 _ _ _ (18446744073709551615 + 1) _ _ = _
          unfold slices_insertionSortCmpFunc_int_h_Order_1_L0
          simp only [bndD, decide_eq_false (show ¬ ((20 * c + 1 : Nat) : Int) < (n : Int) by omega), cond_false]
      obtain ⟨D', e1, e2, e3, e4, e5⟩ := last
      simp only [e1, bnoS, chk_t e2]
      refine merge_out hn fuel 20 D' (fuel_gt (by omega)) (by omega) (by omega) (by omega) e5 fun d _ h3 => ?_
      by_cases hdc : d < c
      · rw [show min (d * 20 + 20) n = d * 20 + 20 by omega]; exact blk_out (hdone d hdc) e4 (by omega)
      · have : d = c := by omega
        subst this
        rw [show min (d * 20 + 20) n = n by omega, Nat.mul_comm]; exact e3 (by omega)
end Go.Fn
