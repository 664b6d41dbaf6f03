/-
  A part of the proof: rules and plain facts. No condition.
-/
import Derived.Test.YtkkpkabamlabdaaIlSl
import Derived.KernelRfl
import Derived.Test.YtkkpkabamlabdaaIlA28dD
set_option linter.all false
set_option linter.unusedSimpArgs false
set_option linter.unusedVariables false
open Go Go.IL
namespace Go.Fn
/-! Loops over lists, at any functions that are as the library's. -/
theorem gix_at {α : Type} {l p r : List α} {x : α} (h : l = p ++ x :: r) : gix l (p.length : Int) = some x := by
  subst h; rw [gix_nat, List.getElem?_append_right (Nat.le_refl _)]; simp
theorem lt_at {α : Type} {l p r : List α} {x : α} (h : l = p ++ x :: r) : decide ((p.length : Int) < (l.length : Int)) = true := by
  subst h; simp; omega
theorem lt_end {α : Type} {l p : List α} (h : l = p ++ []) : decide ((p.length : Int) < (l.length : Int)) = false := by
  subst h; simp
theorem lt_len {α : Type} {l : List α} : decide ((l.length : Int) < (l.length : Int)) = false := by simp
theorem w_at {α : Type} {l p r : List α} {x : α} (h : l = p ++ x :: r) (hl : l.length ≤ 1000000) : IntKind.wrap .i64 ((p.length : Int) + 1) = ((p ++ [x]).length : Int) := by
  subst h; simp only [List.length_append, List.length_cons, List.length_nil] at hl ⊢; rw [w64 (by omega) (by omega)]; omega
theorem next_at {α : Type} {l p r : List α} {x : α} (h : l = p ++ x :: r) : l = (p ++ [x]) ++ r := by rw [h]; simp
theorem tf : (true == false) = false := rfl
theorem ft : (false == true) = false := rfl
theorem gix_prev {α : Type} {l p r : List α} {x y : α} (h : l = (p ++ [x]) ++ y :: r) (hl : l.length ≤ 1000000) : gix l (IntKind.wrap .i64 (((p ++ [x]).length : Int) - 1)) = some x := by
  have hp : p.length ≤ 1000000 := by rw [h] at hl; simp at hl; omega
  rw [show ((p ++ [x]).length : Int) - 1 = (p.length : Int) by simp, w64 (by omega) (by omega)]
  exact gix_at (r := y :: r) (by rw [h]; simp)
theorem cut_at {α : Type} {l p r : List α} (h : l = p ++ r) : cut l 0 (p.length : Int) = some p := by
  subst h; unfold cut; rw [if_pos (by simp; omega)]; simp
theorem idxf_gen {α : Type} {L : Nat → Int → Option Int} {l : List α} {q : α → Bool}
    (h1 : ∀ p x r f, l = p ++ x :: r → L (f + 1) (p.length : Int) = bif q x then some (p.length : Int) else L f ((p ++ [x]).length : Int)) (h0 : ∀ f, L (f + 1) (l.length : Int) = some (-1)) :
    ∀ (r p : List α) (f : Nat), l = p ++ r → r.length < f → (∀ y ∈ p, q y = false) →
      (L f (p.length : Int) = some (-1) ∧ ∀ y ∈ l, q y = false) ∨ ∃ a x t, l = a ++ x :: t ∧ (∀ y ∈ a, q y = false) ∧ q x = true ∧ L f (p.length : Int) = some (a.length : Int)
  | [], p, f + 1, h, _, ha => by
    left
    rw [List.append_nil] at h
    subst h
    exact ⟨h0 f, ha⟩
  | y :: r, p, f + 1, h, hf, ha => by
    rw [h1 p y r f h]
    rcases Bool.eq_false_or_eq_true (q y) with hb | hb
    · right; exact ⟨p, y, r, h, ha, hb, by rw [hb]; rfl⟩
    · rw [hb, bif_ff]
      exact idxf_gen h1 h0 r (p ++ [y]) f (next_at h) (by simpa using hf) (fun z hz => by
        rcases List.mem_append.1 hz with hz | hz
        · exact ha z hz
        · rw [List.mem_singleton.1 hz]; exact hb)
theorem idxf_any {α : Type} {L : Nat → Int → Option Int} {l : List α} {q : α → Bool} (hl : l.length ≤ 1000000)
    (h1 : ∀ p x r f, l = p ++ x :: r → L (f + 1) (p.length : Int) = bif q x then some (p.length : Int) else L f ((p ++ [x]).length : Int)) (h0 : ∀ f, L (f + 1) (l.length : Int) = some (-1)) :
    ∃ k : Int, L fuel 0 = some k ∧ decide (0 ≤ k) = l.any q := by
  rcases idxf_gen h1 h0 l [] fuel rfl (fuel_gt (by omega)) (fun _ h => (List.not_mem_nil h).elim) with ⟨h2, h3⟩ | ⟨a, x, t, h2, h3, h4, h5⟩
  · refine ⟨-1, h2, ?_⟩
    symm
    have : l.any q = false := by rw [List.any_eq_false]; intro y hy; rw [h3 y hy]; decide
    rw [this]; rfl
  · refine ⟨a.length, h5, ?_⟩
    have : l.any q = true := List.any_eq_true.2 ⟨x, by rw [h2]; simp, h4⟩
    rw [this]; exact decide_eq_true (by omega)
theorem delf_gen {α : Type} {L : Nat → List α → Int → Int → Option (List α)} {q : α → Bool}
    (h1 : ∀ (f : Nat) (l : List α) (i j : Nat) (x : α), l.length ≤ 100000 → i ≤ j → j < l.length → l[j]? = some x → L (f + 1) l (i : Int) (j : Int) = bif !q x then L f (l.set i x) ((i + 1 : Nat) : Int) ((j + 1 : Nat) : Int) else L f l (i : Int) ((j + 1 : Nat) : Int))
    (h0 : ∀ (f : Nat) (l : List α) (i : Nat), i ≤ l.length → L (f + 1) l (i : Int) (l.length : Int) = some (l.take i)) :
    ∀ (r k m : List α) (f : Nat), k.length + m.length + r.length ≤ 100000 → r.length < f →
      L f (k ++ m ++ r) (k.length : Int) ((k.length + m.length : Nat) : Int) = some (k ++ r.filter fun y => !q y)
  | [], k, m, f + 1, hl, _ => by
    have := h0 f (k ++ m) k.length (by simp)
    rw [List.append_nil, show ((k.length + m.length : Nat) : Int) = ((k ++ m).length : Int) by simp, this]; simp
  | y :: r, k, m, f + 1, hl, hf => by
    simp only [List.length_cons] at hl hf
    have hy : (k ++ m ++ y :: r)[k.length + m.length]? = some y := by
      rw [List.getElem?_append_right (by simp)]; simp
    have hlen : (k ++ m ++ y :: r).length = k.length + m.length + (r.length + 1) := by simp; omega
    rw [h1 f (k ++ m ++ y :: r) k.length (k.length + m.length) y (by omega) (by omega) (by omega) hy]
    rcases Bool.eq_false_or_eq_true (q y) with hb | hb
    · rw [hb, Bool.not_true, bif_ff, List.filter_cons_of_neg (by simp [hb])]
      have := delf_gen h1 h0 r k (m ++ [y]) f (by simp; omega) (by omega)
      rw [show k ++ m ++ y :: r = k ++ (m ++ [y]) ++ r by simp, ← this]; congr 1; simp; omega
    · rw [hb, Bool.not_false, bif_tt, List.filter_cons_of_pos (by simp [hb])]
      obtain ⟨m2, h3, h2⟩ : ∃ m2 : List α, m2.length = m.length ∧ (k ++ m ++ y :: r).set k.length y = k ++ [y] ++ m2 ++ r := by
        rw [List.append_assoc k m, List.set_append_right _ _ (Nat.le_refl _), Nat.sub_self]
        cases m with
        | nil => exact ⟨[], rfl, by simp⟩
        | cons a m => exact ⟨m ++ [y], by simp, by simp⟩
      rw [h2]
      have := delf_gen h1 h0 r (k ++ [y]) m2 f (by simp; omega) (by omega)
      rw [show k ++ y :: List.filter (fun y => !q y) r = k ++ [y] ++ List.filter (fun y => !q y) r by simp, ← this]
      congr 1 <;> simp <;> omega
theorem delf_all {α : Type} {I : Nat → Int → Option Int} {L : Nat → List α → Int → Int → Option (List α)} {l : List α} {q : α → Bool} (hl : l.length ≤ 100000)
    (i1 : ∀ p x r f, l = p ++ x :: r → I (f + 1) (p.length : Int) = bif q x then some (p.length : Int) else I f ((p ++ [x]).length : Int)) (i0 : ∀ f, I (f + 1) (l.length : Int) = some (-1))
    (h1 : ∀ (f : Nat) (l : List α) (i j : Nat) (x : α), l.length ≤ 100000 → i ≤ j → j < l.length → l[j]? = some x → L (f + 1) l (i : Int) (j : Int) = bif !q x then L f (l.set i x) ((i + 1 : Nat) : Int) ((j + 1 : Nat) : Int) else L f l (i : Int) ((j + 1 : Nat) : Int))
    (h0 : ∀ (f : Nat) (l : List α) (i : Nat), i ≤ l.length → L (f + 1) l (i : Int) (l.length : Int) = some (l.take i)) :
    (bno (I fuel 0) fun x1 => bnd (decide (x1 = (-1))) fun x2 => bif x2 then some l else bnd (IntKind.wrap .i64 (x1 + 1)) fun x4 => L fuel l x1 x4) = some (l.filter fun y => !q y) := by
  rcases idxf_gen i1 i0 l [] fuel rfl (fuel_gt (by omega)) (fun _ h => (List.not_mem_nil h).elim) with ⟨e1, e2⟩ | ⟨a, x, t, e1, e2, e3, e4⟩
  · have e1 : I fuel 0 = some (-1) := e1
    rw [e1, bnoS]
    simp only [bndD, decide_true, bif_tt]
    rw [List.filter_eq_self.2 (fun y hy => by rw [e2 y hy]; rfl)]
  · have e4 : I fuel 0 = some (a.length : Int) := e4
    have hql : a.length + (t.length + 1) ≤ 100000 := by rw [e1] at hl; simpa using hl
    rw [e4, bnoS]
    simp only [bndD, decide_eq_false (show ¬ (a.length : Int) = -1 by omega), bif_ff]
    rw [w64 (by omega) (by omega)]
    have := delf_gen h1 h0 t a [x] fuel (by simp; omega) (fuel_gt (by omega))
    rw [e1, List.filter_append, List.filter_cons_of_neg (by simp [e3]), List.filter_eq_self.2 (fun y hy => by rw [e2 y hy]; rfl), ← this]
    congr 1; simp
theorem bsf_gen {α : Type} {L : Nat → Int → Int → Option (Int × Bool)} {l : List α} {key : α → Int} {x : Int} (hl : l.length ≤ 1000000)
    (h1 : ∀ (f lo hi m : Nat) (y : α), lo < hi → hi ≤ l.length → m = (lo + hi) / 2 → l[m]? = some y → L (f + 1) (lo : Int) (hi : Int) = bif decide (key y < x) then L f ((m + 1 : Nat) : Int) (hi : Int) else L f (lo : Int) (m : Int))
    (h0 : ∀ (f lo : Nat), lo ≤ l.length → L (f + 1) (lo : Int) (lo : Int) = some ((lo : Int), decide ((l[lo]?).map key = some x))) :
    ∀ (f lo hi : Nat), hi - lo < f → lo ≤ hi → hi ≤ l.length → ∃ p : Nat, p ≤ l.length ∧ L f lo hi = some ((p : Int), decide ((l[p]?).map key = some x)) ∧
    (l.Pairwise (fun a b => key a < key b) → (∀ y ∈ l.take lo, key y < x) → (∀ y ∈ l.drop hi, x ≤ key y) → (∀ y ∈ l.take p, key y < x) ∧ (∀ y ∈ l.drop p, x ≤ key y)) := by
  intro f
  induction f with
  | zero => intro lo hi h; omega
  | succ f ih =>
    intro lo hi hf h2 h3
    by_cases hc : lo < hi
    · have hm : (lo + hi) / 2 < l.length := by omega
      rw [h1 f lo hi _ l[(lo + hi) / 2] hc h3 rfl (List.getElem?_eq_getElem hm)]
      generalize hmm : (lo + hi) / 2 = m at hm ⊢
      have hml : lo ≤ m := by omega
      have hmh : m < hi := by omega
      by_cases hx : key l[m] < x
      · rw [decide_eq_true hx, bif_tt]
        obtain ⟨p, i1, i2, i3⟩ := ih (m + 1) hi (by omega) (by omega) h3
        refine ⟨p, i1, i2, fun hp ha hb => i3 hp (fun y hy => ?_) hb⟩
        obtain ⟨j, hj, rfl⟩ := List.mem_iff_getElem.1 hy
        rw [List.length_take] at hj
        rw [List.getElem_take]
        rcases Nat.lt_or_ge j m with hjm | hjm
        · exact Int.lt_trans (List.pairwise_iff_getElem.1 hp j m (by omega) (by omega) hjm) hx
        · have : j = m := by omega
          subst this; exact hx
      · rw [decide_eq_false hx, bif_ff]
        obtain ⟨p, i1, i2, i3⟩ := ih lo m (by omega) (by omega) (by omega)
        refine ⟨p, i1, i2, fun hp ha hb => i3 hp ha (fun y hy => ?_)⟩
        obtain ⟨j, hj, rfl⟩ := List.mem_iff_getElem.1 hy
        rw [List.length_drop] at hj
        rw [List.getElem_drop]
        rcases Nat.eq_zero_or_pos j with rfl | hj0
        · simp only [Nat.add_zero]; omega
        · have := List.pairwise_iff_getElem.1 hp m (m + j) (by omega) (by omega) (by omega)
          omega
    · have : lo = hi := by omega
      subst this
      exact ⟨lo, h3, h0 f lo h3, fun _ ha hb => ⟨ha, hb⟩⟩
theorem split_key {α : Type} {l a b : List α} {key : α → Int} {x : Int} (h : l = a ++ b) (ha : ∀ y ∈ a, key y < x) (hb : ∀ y ∈ b, x ≤ key y) : a = l.filter (fun y => decide (key y < x)) ∧ b = l.filter (fun y => decide (x ≤ key y)) := by
  subst h
  rw [List.filter_append, List.filter_append, List.filter_eq_self.2 (fun y hy => decide_eq_true (ha y hy)), List.filter_eq_nil_iff.2 (fun y hy => by have := hb y hy; simp; omega), List.filter_eq_nil_iff.2 (fun y hy => by have := ha y hy; simp; omega), List.filter_eq_self.2 (fun y hy => decide_eq_true (hb y hy))]
  simp
theorem bsf_all {α : Type} {L : Nat → Int → Int → Option (Int × Bool)} {l : List α} {key : α → Int} {x : Int} (hl : l.length ≤ 1000000)
    (h1 : ∀ (f lo hi m : Nat) (y : α), lo < hi → hi ≤ l.length → m = (lo + hi) / 2 → l[m]? = some y → L (f + 1) (lo : Int) (hi : Int) = bif decide (key y < x) then L f ((m + 1 : Nat) : Int) (hi : Int) else L f (lo : Int) (m : Int))
    (h0 : ∀ (f lo : Nat), lo ≤ l.length → L (f + 1) (lo : Int) (lo : Int) = some ((lo : Int), decide ((l[lo]?).map key = some x))) (hp : l.Pairwise (fun a b => key a < key b)) :
    ∃ a b : List α, l = a ++ b ∧ a = l.filter (fun y => decide (key y < x)) ∧ b = l.filter (fun y => decide (x ≤ key y)) ∧
      ((∃ y c, b = y :: c ∧ key y = x ∧ L fuel 0 (l.length : Int) = some ((a.length : Int), true)) ∨ ((∀ y ∈ l, key y ≠ x) ∧ L fuel 0 (l.length : Int) = some ((a.length : Int), false))) := by
  obtain ⟨p, e1, e2, e3⟩ := bsf_gen hl h1 h0 fuel 0 l.length (fuel_gt (by omega)) (Nat.zero_le _) (Nat.le_refl _)
  obtain ⟨e4, e5⟩ := e3 hp (by simp) (by simp)
  obtain ⟨e6, e7⟩ := split_key (List.take_append_drop p l).symm e4 e5
  have hpl : (l.take p).length = p := by rw [List.length_take]; omega
  have e2 : L fuel 0 (l.length : Int) = _ := e2
  refine ⟨l.take p, l.drop p, (List.take_append_drop p l).symm, e6, e7, ?_⟩
  rw [hpl, e2]
  by_cases hx : (l[p]?).map key = some x
  · left
    obtain ⟨y, hy, hk⟩ := Option.map_eq_some_iff.1 hx
    have hlt : p < l.length := (List.getElem?_eq_some_iff.1 hy).1
    have hye : l[p] = y := (List.getElem?_eq_some_iff.1 hy).2
    exact ⟨y, l.drop (p + 1), by rw [← hye]; exact List.drop_eq_getElem_cons hlt, hk, by rw [decide_eq_true hx]⟩
  · right
    refine ⟨fun y hy hk => ?_, by rw [decide_eq_false hx]⟩
    rw [← List.take_append_drop p l] at hy
    rcases List.mem_append.1 hy with hy | hy
    · have := e4 y hy; omega
    · obtain ⟨j, hj, hjx⟩ := List.mem_iff_getElem.1 hy
      rw [List.length_drop] at hj
      rw [List.getElem_drop] at hjx
      rcases Nat.eq_zero_or_pos j with rfl | hj0
      · apply hx; rw [List.getElem?_eq_getElem (by omega)]; simp only [Nat.add_zero] at hjx; rw [Option.map_some, hjx, hk]
      · have h8 := List.pairwise_iff_getElem.1 hp p (p + j) (by omega) (by omega) (by omega)
        have h9 := e5 l[p] (List.mem_iff_getElem.2 ⟨0, by rw [List.length_drop]; omega, by rw [List.getElem_drop]; simp⟩)
        rw [hjx, hk] at h8; omega
theorem deleteFunc_gen {α : Type} {P : α → Option Bool} {q : α → Bool} (hP : ∀ x, P x = some (q x)) {I : Nat → Int → Option Int} {L : Nat → List α → Int → Int → Option (List α)} {l : List α}
    (hI : ∀ f v, I (f + 1) v = bnd (decide (v < (l.length : Int))) fun x14 => bif x14 then (bno (gix l v) fun x16 => bno (P x16) fun x17 => bif x17 then some v else (bnd (IntKind.wrap .i64 (v + 1)) fun x19 => I f x19)) else some (-1))
    (hL : ∀ f a b c, L (f + 1) a b c = bnd (decide (c < (a.length : Int))) fun x32 => bif x32 then (bno (gix a c) fun x34 => bno (a[(c : Int).toNat]?) fun x35 => bno (P x35) fun x36 => bif (!x36) then (bno (gix a b) fun x38 => bno (a[(b : Int).toNat]?) fun x39 =>
      bnd (a.set ((b : Int).toNat) x35) fun x40 => bnd (IntKind.wrap .i64 (b + 1)) fun x41 => bnd (IntKind.wrap .i64 (c + 1)) fun x42 => L f x40 x41 x42) else (bnd (IntKind.wrap .i64 (c + 1)) fun x43 => L f a b x43)) else (bno (cut a 0 b) fun x44 => bno (cut x44 0 b) fun x45 => some x45))
    (hl : l.length ≤ 100000) : (bno (I fuel 0) fun x1 => bnd (decide (x1 = (-1))) fun x2 => bif x2 then some l else bnd (IntKind.wrap .i64 (x1 + 1)) fun x4 => L fuel l x1 x4) = some (l.filter fun y => !q y) := by
  refine delf_all hl (fun p x r f h => by
    rw [hI]; simp only [bndD, lt_at h, bif_tt, gix_at h, bnoS, hP, w_at h (show l.length ≤ 1000000 by omega)]) (fun f => by rw [hI]; simp only [bndD, lt_len, bif_ff]) (fun f a i j x ha hij hj hx => ?_) (fun f a i hi => ?_)
  · rw [hL]
    have hi : i < a.length := by omega
    simp only [bndD, decide_eq_true (show (j : Int) < (a.length : Int) by omega), bif_tt, gix_nat, hx, bnoS, Int.toNat_natCast, hP, List.getElem?_eq_getElem hi, w64 (show -9223372036854775808 ≤ (j : Int) + 1 by omega) (by omega), w64 (show -9223372036854775808 ≤ (i : Int) + 1 by omega) (by omega)]
    rfl
  · rw [hL]
    have e : (a.take i).length = i := by rw [List.length_take]; omega
    simp only [bndD, lt_len, bif_ff]
    have h1 := cut_at (l := a) (List.take_append_drop i a).symm
    have h2 := cut_at (l := a.take i) (p := a.take i) (r := []) (by simp)
    rw [e] at h1 h2
    rw [h1, bnoS, h2, bnoS]
theorem binaryFunc_gen {α : Type} {dflt : α} {C : α → Option Int} {c : α → Int} {key : α → Int} {x : Int} {L : Nat → Int → Int → Option (Int × Bool)} {l : List α} (hC : ∀ y ∈ l, C y = some (c y)) (hc : ∀ y ∈ l, (c y < 0 ↔ key y < x) ∧ (c y = 0 ↔ key y = x))
    (hL : ∀ f a b, L (f + 1) a b = bnd (decide (a < b)) fun x25 => bif x25 then (bnd (IntKind.wrap .i64 (a + b)) fun x27 => bnd (IntKind.wrap .u64 x27) fun x28 => bno (shrI .u64 x28 1) fun x29 => bnd (IntKind.wrap .i64 x29) fun x30 => bno (gix l x30) fun x31 => bno (C x31) fun x32 =>
      bnd (decide (x32 < 0)) fun x33 => bif x33 then (bnd (IntKind.wrap .i64 (x30 + 1)) fun x35 => L f x35 b) else (L f a x30)) else (bnd (decide (a < (l.length : Int))) fun x36 => bno (gd (x36 == true) (gix l a) (dflt : α)) fun x37 => bno (gd (x36 == true) (C x37) (default : Int)) fun x38 =>
      bnd (decide (x38 = 0)) fun x39 => bnd (x36 && x39) fun x40 => some (a, x40)))
    (hl : l.length ≤ 1000000) (hp : l.Pairwise (fun a b => key a < key b)) :
    ∃ a b : List α, l = a ++ b ∧ a = l.filter (fun y => decide (key y < x)) ∧ b = l.filter (fun y => decide (x ≤ key y)) ∧
      ((∃ y c, b = y :: c ∧ key y = x ∧ L fuel 0 (l.length : Int) = some ((a.length : Int), true)) ∨ ((∀ y ∈ l, key y ≠ x) ∧ L fuel 0 (l.length : Int) = some ((a.length : Int), false))) := by
  refine bsf_all hl (fun f lo hi m y h1 h2 h3 h4 => ?_) (fun f lo h1 => ?_) hp
  · rw [hL]
    have hy : y ∈ l := List.mem_of_getElem? h4
    have e1 : shrI .u64 ((lo : Int) + (hi : Int)) 1 = some ((m : Nat) : Int) := by
      rw [shr_at (k := .u64) (b := 1) 1 rfl (by decide), h3]; congr 1
    simp only [bndD, decide_eq_true (show (lo : Int) < (hi : Int) by omega), bif_tt, w64 (show -9223372036854775808 ≤ (lo : Int) + (hi : Int) by omega) (by omega), wU64 (show 0 ≤ (lo : Int) + (hi : Int) by omega) (by omega), e1, bnoS,
      w64 (show -9223372036854775808 ≤ ((m : Nat) : Int) by omega) (by omega), gix_nat, h4, hC y hy, w64 (show -9223372036854775808 ≤ (m : Int) + 1 by omega) (by omega)]
    by_cases hx : key y < x
    · rw [decide_eq_true hx, decide_eq_true ((hc y hy).1.2 hx)]; rfl
    · rw [decide_eq_false hx, decide_eq_false (fun h => hx ((hc y hy).1.1 h))]; rfl
  · rw [hL]
    simp only [bndD, decide_eq_false (show ¬ (lo : Int) < (lo : Int) by omega), bif_ff]
    by_cases hl' : lo < l.length
    · have hy : l[lo] ∈ l := List.getElem_mem hl'
      simp only [decide_eq_true (show (lo : Int) < (l.length : Int) by omega), beq_self_eq_true, gdtt, gix_nat, List.getElem?_eq_getElem hl', bnoS, hC _ hy, Bool.true_and, Option.map_some, Option.some.injEq]
      by_cases hx : key l[lo] = x
      · rw [decide_eq_true hx, decide_eq_true ((hc _ hy).2.2 hx)]
      · rw [decide_eq_false hx, decide_eq_false (fun h => hx ((hc _ hy).2.1 h))]
    · rw [List.getElem?_eq_none (by omega)]
      simp only [decide_eq_false (show ¬ (lo : Int) < (l.length : Int) by omega), ft, gdff, bnoS, Bool.false_and, Option.map_none]
      rfl
end Go.Fn
set_option linter.unusedSimpArgs false
set_option linter.unusedVariables false
open Go Go.IL
namespace Go.Fn
/-! Chapter 28: paths, in plain words. -/
theorem awake28 : sennitlaw28_awake = some true := by kernel_rfl
abbrev S28 := T_paths_State
abbrev L28 := T_paths_Line
abbrev B28 := T_paths_Bind
def bet (a b c : Int) : Bool := decide (b ≤ a) && decide (a ≤ c)
theorem bet_iff {a b c : Int} : bet a b c = true ↔ b ≤ a ∧ a ≤ c := by simp [bet]
theorem pin_eq (a b c : Int) : paths_in a b c = some (bet a b c) := rfl
theorem path_eq (a : Int) : paths_path a = some (bet a 0 3) := rfl
theorem four {k : Int} (h : bet k 0 3 = true) : k = 0 ∨ k = 1 ∨ k = 2 ∨ k = 3 := by have := bet_iff.1 h; omega
def lineAt (s : S28) (k : Int) : L28 := if k = 0 then s.Lines.c0 else if k = 1 then s.Lines.c1 else if k = 2 then s.Lines.c2 else s.Lines.c3
def setL (s : S28) (k : Int) (x : L28) : S28 := ⟨⟨if k = 0 then x else s.Lines.c0, if k = 1 then x else s.Lines.c1, if k = 2 then x else s.Lines.c2, if k = 3 then x else s.Lines.c3⟩, s.Pinned, s.Binds⟩
theorem gixL {β : Type} (f : L28 → β) (s : S28) {k : Int} (h : bet k 0 3 = true) : gix [f s.Lines.c0, f s.Lines.c1, f s.Lines.c2, f s.Lines.c3] k = some (f (lineAt s k)) := by
  rcases four h with rfl | rfl | rfl | rfl <;> rfl
def upAt (s : S28) (k : Int) : Bool := bet k 0 3 && (lineAt s k).Up
theorem up_eq (s : S28) (k : Int) : paths_State_up s k = some (upAt s k) := by
  unfold paths_State_up upAt
  rw [path_eq, bnoS]
  cases h : bet k 0 3
  · rfl
  · have := bet_iff.1 h
    rw [chk_t (fun _ => by omega)]
    have hg := gixL T_paths_Line.Up s h
    simp only [beq_self_eq_true, gdtt, hg, bnoS, bndD]
theorem lt4_at {α : Type} {a b c d x : α} {p r : List α} (h : [a, b, c, d] = p ++ x :: r) : decide ((p.length : Int) < 4) = true := by
  have := congrArg List.length h; simp at this; exact decide_eq_true (by omega)
theorem lt4_end {α : Type} {a b c d : α} {p : List α} (h : [a, b, c, d] = p ++ []) : decide ((p.length : Int) < 4) = false := by
  have := congrArg List.length h; simp at this; exact decide_eq_false (by omega)
theorem gix4 {α β : Type} (f : α → β) {a b c d x : α} {p r : List α} (h : [a, b, c, d] = p ++ x :: r) : gix [f a, f b, f c, f d] (p.length : Int) = some (f x) := by
  have h2 : [f a, f b, f c, f d] = p.map f ++ f x :: r.map f := by have := congrArg (List.map f) h; simpa using this
  have := gix_at h2
  rwa [List.length_map] at this
theorem w4 {α : Type} {a b c d x : α} {p r : List α} (h : [a, b, c, d] = p ++ x :: r) : IntKind.wrap .i64 ((p.length : Int) + 1) = ((p ++ [x]).length : Int) := w_at h (by show 4 ≤ 1000000; decide)
abbrev lns (s : S28) : List L28 := [s.Lines.c0, s.Lines.c1, s.Lines.c2, s.Lines.c3]
def both (x : L28) : Bool := x.Up && x.Dead
def fits (x : L28) : Bool := bet x.Bytes 0 1099511627776 && bet x.Ticks 0 1099511627776
def wrongB (b : B28) : Bool := !bet b.Stream 1 1048576 || !bet b.Path 0 3
theorem wrong_eq (b : B28) : paths_State_numbers_1 b = some (wrongB b) := by
  unfold paths_State_numbers_1 wrongB
  rw [pin_eq, bnoS]
  cases bet b.Stream 1 1048576
  · rfl
  · simp only [Bool.not_true, beq_self_eq_true, gdtt, path_eq, bnoS, bndD]
theorem anyW {l : List B28} (hl : l.length ≤ 1000000) : slices_ContainsFunc_paths_Bind_paths_Bind_numbers_1 l = some (l.any wrongB) := by
  unfold slices_ContainsFunc_paths_Bind_paths_Bind_numbers_1 slices_IndexFunc_paths_Bind_paths_Bind_numbers_1
  obtain ⟨k, h1, h2⟩ := idxf_any (L := slices_IndexFunc_paths_Bind_paths_Bind_numbers_1_L0 l) (q := wrongB) hl (fun p x r f h => by
    rw [slices_IndexFunc_paths_Bind_paths_Bind_numbers_1_L0]
    simp only [bndD, lt_at h, bif_tt, gix_at h, bnoS, wrong_eq, w_at h hl]) (fun f => by
    rw [slices_IndexFunc_paths_Bind_paths_Bind_numbers_1_L0]
    simp only [bndD, lt_len, bif_ff])
  rw [h1, bnoS, bndD, h2]
def nums28 (s : S28) : Bool := (lns s).all fits && ((decide (s.Pinned = -1) || bet s.Pinned 0 3) && decide ((s.Binds.length : Int) ≤ 32) && !s.Binds.any wrongB)
theorem nums_L {s : S28} (hl : s.Binds.length ≤ 1000000) : ∀ (r p : List L28) (f : Nat), lns s = p ++ r → r.length < f → paths_State_numbers_L0 s f (p.length : Int) = some (r.all fits && ((decide (s.Pinned = -1) || bet s.Pinned 0 3) && decide ((s.Binds.length : Int) ≤ 32) && !s.Binds.any wrongB))
  | [], p, f + 1, h, _ => by
    unfold paths_State_numbers_L0
    simp only [bndD, lt4_end h, bif_ff, path_eq, anyW hl]
    cases decide (s.Pinned = -1)
    · simp only [beq_self_eq_true, gdtt, bnoS, Bool.false_or, bndD]
      cases bet s.Pinned 0 3 && decide ((s.Binds.length : Int) ≤ 32) <;> simp [ft, gdff, gdtt, bnoS, bndD]
    · simp only [tf, gdff, bnoS, Bool.true_or, bndD, Bool.true_and]
      cases decide ((s.Binds.length : Int) ≤ 32) <;> simp [ft, gdff, gdtt, bnoS, bndD]
  | x :: r, p, f + 1, h, hf => by
    unfold paths_State_numbers_L0
    have hg := gix4 id h
    simp only [id] at hg
    simp only [bndD, lt4_at h, bif_tt, hg, bnoS, pin_eq]
    rw [List.all_cons]
    have ih := nums_L hl r (p ++ [x]) f (next_at h) (by simpa using hf)
    rw [← w4 h] at ih
    cases h1 : bet x.Bytes 0 1099511627776
    · simp [fits, h1, tf, gdff, bnoS, bndD, bif_tt]
    · cases h2 : bet x.Ticks 0 1099511627776
      · simp [fits, h1, h2, gdtt, bnoS, bndD, bif_tt]
      · simp only [fits, h1, h2, Bool.not_true, beq_self_eq_true, gdtt, bnoS, bndD, Bool.or_self, bif_ff, Bool.and_self, Bool.true_and]
        exact ih
theorem nums_eq {s : S28} (hl : s.Binds.length ≤ 1000000) : paths_State_numbers s = some (nums28 s) := nums_L hl (lns s) [] fuel rfl (fuel_gt (by show 4 < _; decide))
def asc : Option B28 → List B28 → Bool
  | _, [] => true
  | none, b :: l => asc (some b) l
  | some a, b :: l => decide (a.Stream < b.Stream) && asc (some b) l
def upsOk (s : S28) : Bool := (decide (s.Pinned = -1) || upAt s s.Pinned) && s.Binds.all (fun b => upAt s b.Path)
def check28 (s : S28) : Int := if (lns s).any both = true then 4 else if nums28 s = false then 8 else if asc none s.Binds = false then 10 else if upsOk s = false then 9 else 0
theorem lostB_eq (s : S28) (b : B28) : paths_Check_1 b s = some (!upAt s b.Path) := by unfold paths_Check_1; rw [up_eq]; rfl
theorem anyLost {s : S28} {l : List B28} (hl : l.length ≤ 1000000) : slices_ContainsFunc_paths_Bind_paths_Bind_Check_1 l s = some (l.any (fun b => !upAt s b.Path)) := by
  unfold slices_ContainsFunc_paths_Bind_paths_Bind_Check_1 slices_IndexFunc_paths_Bind_paths_Bind_Check_1
  obtain ⟨k, h1, h2⟩ := idxf_any (L := slices_IndexFunc_paths_Bind_paths_Bind_Check_1_L0 l s) (q := fun b => !upAt s b.Path) hl (fun p x r f h => by
    rw [slices_IndexFunc_paths_Bind_paths_Bind_Check_1_L0]
    simp only [bndD, lt_at h, bif_tt, gix_at h, bnoS, lostB_eq, w_at h hl]) (fun f => by
    rw [slices_IndexFunc_paths_Bind_paths_Bind_Check_1_L0]
    simp only [bndD, lt_len, bif_ff])
  rw [h1, bnoS, bndD, h2]
theorem any_all {α : Type} (q : α → Bool) (l : List α) : l.any (fun b => !q b) = !l.all q := by
  induction l with
  | nil => rfl
  | cons a l ih => rw [List.any_cons, List.all_cons, ih]; cases q a <;> rfl
theorem ends28 {s : S28} (hl : s.Binds.length ≤ 1000000) : (bnd (!decide (s.Pinned = (-1))) fun x46 => bno (gd (x46 == true) (paths_State_up s s.Pinned) default) fun x47 => bnd (x46 && (!x47)) fun x48 =>
      bno (gd (x48 == false) (slices_ContainsFunc_paths_Bind_paths_Bind_Check_1 s.Binds s) default) fun x49 => bnd (x48 || x49) fun x50 => bif x50 then some (9 : Int) else some 0) = some (if upsOk s = false then 9 else 0) := by
  unfold upsOk
  rw [anyLost hl, any_all, up_eq]
  simp only [bndD]
  cases decide (s.Pinned = -1)
  · cases upAt s s.Pinned
    · rfl
    · cases s.Binds.all (fun b => upAt s b.Path) <;> rfl
  · cases s.Binds.all (fun b => upAt s b.Path) <;> rfl
theorem asc_L {s : S28} (hl : s.Binds.length ≤ 1000000) : ∀ (r p : List B28) (x : B28) (f : Nat), s.Binds = (p ++ [x]) ++ r → r.length < f → paths_Check_L1 s f ((p ++ [x]).length : Int) = some (if asc (some x) r = false then 10 else if upsOk s = false then 9 else 0)
  | [], p, x, f + 1, h, _ => by
    unfold paths_Check_L1
    simp only [bndD, lt_end h, bif_ff]
    rw [if_neg (by simp [asc])]
    exact ends28 hl
  | y :: r, p, x, f + 1, h, hf => by
    unfold paths_Check_L1
    simp only [bndD, lt_at h, bif_tt, gix_prev h hl, gix_at h, bnoS]
    by_cases hc : y.Stream ≤ x.Stream
    · rw [decide_eq_true hc, bif_tt, if_pos (by unfold asc; rw [decide_eq_false (by omega)]; rfl)]
    · rw [decide_eq_false hc, bif_ff, w_at h hl, asc_L hl r (p ++ [x]) y f (next_at h) (by simpa using hf)]
      have : asc (some x) (y :: r) = asc (some y) r := by rw [asc, decide_eq_true (by omega), Bool.true_and]
      rw [this]
theorem asc_eq {s : S28} (hl : s.Binds.length ≤ 1000000) : paths_Check_L1 s fuel 1 = some (if asc none s.Binds = false then 10 else if upsOk s = false then 9 else 0) := by
  cases h : s.Binds with
  | nil =>
    have hf : fuel = 18446744073709551615 + 1 := rfl
    rw [hf]
    unfold paths_Check_L1
    simp only [bndD, h, List.length_nil, show decide ((1 : Int) < ((0 : Nat) : Int)) = false from rfl, bif_ff]
    rw [if_neg (by simp [asc])]
    have := ends28 hl
    simp only [bndD, h] at this
    exact this
  | cons x r =>
    have h2 : s.Binds = ([] ++ [x]) ++ r := h
    have := asc_L hl r [] x fuel h2 (fuel_gt (by rw [h] at hl; simp at hl; omega))
    have this : paths_Check_L1 s fuel 1 = _ := this
    rw [this, asc]
theorem check_L {s : S28} (hl : s.Binds.length ≤ 1000000) : ∀ (r p : List L28) (f : Nat), lns s = p ++ r → r.length < f → paths_Check_L0 s f (p.length : Int) = some (if r.any both = true then 4 else if nums28 s = false then 8 else if asc none s.Binds = false then 10 else if upsOk s = false then 9 else 0)
  | [], p, f + 1, h, _ => by
    unfold paths_Check_L0
    simp only [bndD, lt4_end h, bif_ff, nums_eq hl, bnoS]
    rw [if_neg (by simp)]
    cases nums28 s
    · rfl
    · rw [Bool.not_true, bif_ff, if_neg (by decide)]; exact asc_eq hl
  | x :: r, p, f + 1, h, hf => by
    unfold paths_Check_L0
    have hg := gix4 id h
    simp only [id] at hg
    simp only [bndD, lt4_at h, bif_tt, hg, bnoS]
    have ih := check_L hl r (p ++ [x]) f (next_at h) (by simpa using hf)
    rw [← w4 h] at ih
    rw [List.any_cons]
    cases hb : both x
    · rw [show (x.Up && x.Dead) = false from hb, bif_ff, ih]; rfl
    · rw [show (x.Up && x.Dead) = true from hb, bif_tt]; rfl
theorem check_eq {s : S28} (hl : s.Binds.length ≤ 1000000) : paths_Check s = some (check28 s) := check_L hl (lns s) [] fuel rfl (fuel_gt (by show 4 < _; decide))
end Go.Fn
set_option linter.unusedSimpArgs false
set_option linter.unusedVariables false
open Go Go.IL
namespace Go.Fn
theorem wrong_bet {b : B28} (h : wrongB b = false) : bet b.Stream 1 1048576 = true ∧ bet b.Path 0 3 = true := by
  unfold wrongB at h; simpa using h
end Go.Fn
set_option linter.unusedSimpArgs false
set_option linter.unusedVariables false
open Go Go.IL
namespace Go.Fn
theorem chk_b {p : Prop} {k : Int} [Decidable (p → 0 ≤ k ∧ k < 4)] {β : Type} {o : Option β} (hb : bet k 0 3 = true) : chk (p → 0 ≤ k ∧ k < 4) o = o := chk_t (fun _ => by have := bet_iff.1 hb; omega)
theorem chk_k {k : Int} {β : Type} {o : Option β} (hb : bet k 0 3 = true) : chk (0 ≤ k ∧ k < 4) o = o := chk_t (by have := bet_iff.1 hb; omega)
theorem clone28 {l : List B28} (hl : l.length ≤ 100000) : slices_Clone_paths_Bind_paths_Bind_h l = some l := by
  unfold slices_Clone_paths_Bind_paths_Bind_h
  have h : (bno (app 16 ([] : (List B28)) l) fun x3 => some x3) = some l := by
    rw [app_ok (by simp; omega) (by simp; omega), bnoS, List.nil_append]
  rw [h, bothE_same]
  rintro rfl; rfl
theorem ownh28 {s : S28} (hl : s.Binds.length ≤ 1000) : paths_State_own_h s = some (s.Lines.c0.Up, s.Lines.c0.Dead, s.Lines.c0.Bytes, s.Lines.c0.Ticks, s.Lines.c1.Up, s.Lines.c1.Dead, s.Lines.c1.Bytes, s.Lines.c1.Ticks, s.Lines.c2.Up, s.Lines.c2.Dead, s.Lines.c2.Bytes, s.Lines.c2.Ticks, s.Lines.c3.Up, s.Lines.c3.Dead, s.Lines.c3.Bytes, s.Lines.c3.Ticks, s.Pinned, s.Binds) := by
  unfold paths_State_own_h
  rw [clone28 (by omega), bnoS]
/-! Rise. -/
def riseS (s : S28) (k : Int) : S28 × Bool :=
  if bet k 0 3 = true ∧ check28 s = 0 ∧ (lineAt s k).Up = false ∧ (lineAt s k).Dead = false then (setL s k ⟨true, (lineAt s k).Dead, (lineAt s k).Bytes, (lineAt s k).Ticks⟩, true) else (s, false)
theorem rise_eq {s : S28} (k : Int) (hl : s.Binds.length ≤ 1000) : paths_Rise s k = some (riseS s k) := by
  unfold paths_Rise riseS
  rw [ownh28 hl, bnoS, path_eq, bnoS, check_eq (by omega)]
  simp only [bndD]
  cases hb : bet k 0 3
  · rw [if_neg (by simp)]; rfl
  · by_cases hc : check28 s = 0
    · simp only [Bool.not_true, beq_self_eq_true, gdtt, bnoS, decide_eq_true hc, Bool.or_self, chk_b hb, chk_k hb, gixL T_paths_Line.Up s hb, gixL T_paths_Line.Dead s hb, Bool.false_or]
      cases hu : (lineAt s k).Up
      · cases hd : (lineAt s k).Dead
        · rw [if_pos (by simp [hc])]
          simp only [beq_self_eq_true, gdtt, bnoS, bif_ff]
          rcases four hb with rfl | rfl | rfl | rfl <;> (simp only [lineAt] at hd; unfold setL lineAt; simp [hd]) <;> (congr <;> first | exact hd.symm | rfl)
        · rw [if_neg (by simp)]; rfl
      · rw [if_neg (by simp)]; rfl
    · rw [if_neg (by simp [hc])]
      simp only [Bool.not_true, beq_self_eq_true, gdtt, bnoS, decide_eq_false hc, Bool.not_false, Bool.or_true, tf, gdff, Bool.true_or, bif_tt, chk_b hb]
end Go.Fn
set_option linter.unusedSimpArgs false
set_option linter.unusedVariables false
open Go Go.IL
namespace Go.Fn
/-! Fall. -/
def fallS (s : S28) (k : Int) : S28 × List Int × Bool :=
  if bet k 0 3 = true ∧ check28 s = 0 ∧ (lineAt s k).Up = true then
    (⟨(setL s k ⟨false, true, (lineAt s k).Bytes, (lineAt s k).Ticks⟩).Lines, if s.Pinned = k then -1 else s.Pinned, s.Binds.filter fun b => !decide (b.Path = k)⟩, (s.Binds.filter fun b => decide (b.Path = k)).map (·.Stream), true)
  else (s, [], false)
theorem delFall {l : List B28} (k : Int) (hl : l.length ≤ 100000) : slices_DeleteFunc_paths_Bind_paths_Bind_h_Fall_1 l k = some (l.filter fun b => !decide (b.Path = k)) :=
  deleteFunc_gen (P := fun x => paths_Fall_1 x k) (q := fun b => decide (b.Path = k)) (I := slices_IndexFunc_paths_Bind_paths_Bind_Fall_1_L0 l k) (L := slices_DeleteFunc_paths_Bind_paths_Bind_h_Fall_1_L0 k) (fun _ => rfl) (fun _ _ => rfl) (fun _ _ _ _ => rfl) hl
theorem fall_L {s : S28} {k : Int} {t} {l0 l1 l2 l3 : L28} (hl : s.Binds.length ≤ 1000) (h1 : t.2.2.2.2.2.2.2.2.2.2.2.2.2.2.2.2.2 = s.Binds) (h2 : t.2.2.2.2.2.2.2.2.2.2.2.2.2.2.2.2.1 = s.Pinned) : ∀ (r p : List B28) (f : Nat), s.Binds = p ++ r → r.length < f →
    paths_Fall_L0 s k t l0 l1 l2 l3 f ((p.filter fun b => decide (b.Path = k)).map (·.Stream)) (p.length : Int) = some (⟨⟨l0, l1, l2, l3⟩, if s.Pinned = k then -1 else s.Pinned, s.Binds.filter fun b => !decide (b.Path = k)⟩, (s.Binds.filter fun b => decide (b.Path = k)).map (·.Stream), true)
  | [], p, f + 1, h, _ => by
    unfold paths_Fall_L0
    simp only [bndD, lt_end h, bif_ff, h1, h2, delFall k (show s.Binds.length ≤ 100000 by omega), bnoS]
    rw [List.append_nil] at h
    rw [← h]
    by_cases hk : s.Pinned = k
    · rw [decide_eq_true hk, bif_tt, if_pos hk]; rfl
    · rw [decide_eq_false hk, bif_ff, if_neg hk]; rfl
  | x :: r, p, f + 1, h, hf => by
    unfold paths_Fall_L0
    have hp : p.length + (r.length + 1) = s.Binds.length := by rw [h]; simp
    have hq : (p.filter fun b => decide (b.Path = k)).length ≤ p.length := List.length_filter_le _ _
    have ih := fall_L (k := k) (l0 := l0) (l1 := l1) (l2 := l2) (l3 := l3) hl h1 h2 r (p ++ [x]) f (next_at h) (by simpa using hf)
    simp only [bndD, lt_at h, bif_tt, gix_at h, bnoS, w_at h (show s.Binds.length ≤ 1000000 by omega)]
    by_cases hx : x.Path = k
    · rw [decide_eq_true hx, bif_tt, app_ok (by simp; omega) (by simp; omega), bnoS, ← ih]; congr 1; simp [hx]
    · rw [decide_eq_false hx, bif_ff, ← ih]; congr 1; simp [hx]
theorem fall_eq {s : S28} (k : Int) (hl : s.Binds.length ≤ 1000) : paths_Fall s k = some (fallS s k) := by
  unfold paths_Fall fallS
  rw [ownh28 hl, bnoS, up_eq, bnoS, check_eq (by omega)]
  simp only [bndD]
  unfold upAt
  cases hb : bet k 0 3
  · rw [if_neg (by simp)]; rfl
  · cases hu : (lineAt s k).Up
    · rw [if_neg (by simp)]; rfl
    · by_cases hc : check28 s = 0
      · rw [if_pos (by simp [hc])]
        simp only [Bool.and_self, Bool.not_true, beq_self_eq_true, gdtt, bnoS, decide_eq_true hc, Bool.or_self, bif_ff, chk_k hb]
        have L := fun l0 l1 l2 l3 => fall_L (s := s) (k := k) (t := (s.Lines.c0.Up, s.Lines.c0.Dead, s.Lines.c0.Bytes, s.Lines.c0.Ticks, s.Lines.c1.Up, s.Lines.c1.Dead, s.Lines.c1.Bytes, s.Lines.c1.Ticks, s.Lines.c2.Up, s.Lines.c2.Dead, s.Lines.c2.Bytes, s.Lines.c2.Ticks, s.Lines.c3.Up, s.Lines.c3.Dead, s.Lines.c3.Bytes, s.Lines.c3.Ticks, s.Pinned, s.Binds)) (l0 := l0) (l1 := l1) (l2 := l2) (l3 := l3) hl rfl rfl s.Binds [] fuel rfl (fuel_gt (by omega))
        refine (L _ _ _ _).trans ?_
        rcases four hb with rfl | rfl | rfl | rfl <;> rfl
      · rw [if_neg (by simp [hc])]
        simp only [Bool.and_self, Bool.not_true, beq_self_eq_true, gdtt, bnoS, decide_eq_false hc, Bool.not_false, Bool.or_true, bif_tt]
/-! Free. -/
end Go.Fn
set_option linter.unusedSimpArgs false
set_option linter.unusedVariables false
open Go Go.IL
namespace Go.Fl

/-! How doubles stand to each other: by their rungs. -/
theorem sw : Ieee.double.signWeight = 9223372036854775808 := by decide +kernel
theorem ir : Ieee.double.infRung = 9218868437227405312 := by decide +kernel
theorem bn : Ieee.double.binade = 4503599627370496 := by decide +kernel
theorem lp : Ieee.double.leastPlace = -1074 := by decide +kernel
theorem fb : Ieee.double.fractionBits = 52 := by decide +kernel

/-- Great exponents, by names. -/
def e71 : Nat := 1071
def e74 : Nat := 1074
theorem e71_eq : e71 = 1071 := rfl
theorem e74_eq : e74 = 1074 := rfl

def rung (a : Nat) : Nat := a % 9223372036854775808
def sgn (a : Nat) : Bool := a / 9223372036854775808 % 2 == 1
def K (a : Nat) : Int := if sgn a then -(rung a : Int) else rung a
def INF : Nat := 9218868437227405312

/-- The magnitude of a rung, in the least unit. -/
def mg (r : Nat) : Nat := if r < 4503599627370496 then r else (4503599627370496 + r % 4503599627370496) * 2 ^ (r / 4503599627370496 - 1)

theorem mg_lt {r s : Nat} (h : r < s) : mg r < mg s := by
  unfold mg
  by_cases h1 : r < 4503599627370496
  · rw [if_pos h1]
    by_cases h2 : s < 4503599627370496
    · rw [if_pos h2]; exact h
    · rw [if_neg h2]
      have : 1 ≤ 2 ^ (s / 4503599627370496 - 1) := Nat.one_le_two_pow
      calc r < 4503599627370496 + s % 4503599627370496 := by omega
        _ = (4503599627370496 + s % 4503599627370496) * 1 := by omega
        _ ≤ _ := Nat.mul_le_mul_left _ this
  · have h2 : ¬ s < 4503599627370496 := by omega
    rw [if_neg h1, if_neg h2]
    have hq : r / 4503599627370496 ≤ s / 4503599627370496 := Nat.div_le_div_right (by omega)
    by_cases he : r / 4503599627370496 = s / 4503599627370496
    · rw [he]
      have : r % 4503599627370496 < s % 4503599627370496 := by omega
      exact Nat.mul_lt_mul_of_pos_right (by omega) (Nat.two_pow_pos _)
    · have h3 : 1 ≤ r / 4503599627370496 := by omega
      obtain ⟨k, hk⟩ : ∃ k, s / 4503599627370496 - 1 = (r / 4503599627370496 - 1) + 1 + k := ⟨s / 4503599627370496 - 1 - (r / 4503599627370496 - 1) - 1, by omega⟩
      rw [hk, Nat.pow_add, Nat.pow_succ]
      have hp : 0 < 2 ^ (r / 4503599627370496 - 1) := Nat.two_pow_pos _
      have h4 : 1 ≤ 2 ^ k := Nat.one_le_two_pow
      generalize 2 ^ (r / 4503599627370496 - 1) = p at *
      generalize 2 ^ k = q at *
      have h5 : r % 4503599627370496 < 4503599627370496 := Nat.mod_lt _ (by decide)
      calc (4503599627370496 + r % 4503599627370496) * p < (2 * 4503599627370496) * p := Nat.mul_lt_mul_of_pos_right (by omega) hp
        _ = 4503599627370496 * (p * 2 * 1) := by rw [Nat.mul_one, Nat.mul_comm p 2, ← Nat.mul_assoc, Nat.mul_comm 4503599627370496 2]
        _ ≤ 4503599627370496 * (p * 2 * q) := Nat.mul_le_mul_left _ (Nat.mul_le_mul_left _ h4)
        _ ≤ (4503599627370496 + s % 4503599627370496) * (p * 2 * q) := Nat.mul_le_mul_right _ (by omega)
theorem mg_inj {r s : Nat} (h : mg r = mg s) : r = s := by
  rcases Nat.lt_trichotomy r s with h1 | h1 | h1
  · exact absurd h (Nat.ne_of_lt (mg_lt h1))
  · exact h1
  · exact absurd h.symm (Nat.ne_of_lt (mg_lt h1))
theorem mg_cmp (r s : Nat) : compare (mg r) (mg s) = compare r s := by
  rcases Nat.lt_trichotomy r s with h | h | h
  · rw [Nat.compare_eq_lt.2 h, Nat.compare_eq_lt.2 (mg_lt h)]
  · rw [h, Nat.compare_eq_eq.2 rfl, Nat.compare_eq_eq.2 rfl]
  · rw [Nat.compare_eq_gt.2 h, Nat.compare_eq_gt.2 (mg_lt h)]
theorem mg_zero : mg 0 = 0 := by decide
/-- What a word reads as: finite numbers in the least unit. -/
theorem read_fin {a : Nat} (h : rung a < INF) : ∃ m p, Ieee.double.read a = .number (sgn a) m p ∧ -1074 ≤ p ∧ m * 2 ^ (p + 1074).toNat = mg (rung a) := by
  unfold Ieee.Format.read
  rw [sw, bn, ir, lp]
  show ∃ m p, (if rung a < 4503599627370496 then Ieee.Datum.number (sgn a) (rung a) (-1074) else if rung a < INF then _ else _) = _ ∧ _
  unfold mg
  by_cases h1 : rung a < 4503599627370496
  · rw [if_pos h1, if_pos h1]; exact ⟨rung a, -1074, rfl, by decide, by simp⟩
  · rw [if_neg h1, if_neg h1, if_pos h]
    refine ⟨_, _, rfl, by omega, ?_⟩
    show _ * 2 ^ ((-1074 : Int) + ((rung a / 4503599627370496 - 1 : Nat) : Int) + 1074).toNat = _
    rw [show ((-1074 : Int) + ((rung a / 4503599627370496 - 1 : Nat) : Int) + 1074).toNat = rung a / 4503599627370496 - 1 by omega]
    rfl
theorem read_inf {a : Nat} (h : rung a = INF) : Ieee.double.read a = .infinity (sgn a) := by
  unfold Ieee.Format.read
  rw [sw, bn, ir, lp]
  show (if rung a < 4503599627370496 then _ else if rung a < INF then _ else if rung a = INF then Ieee.Datum.infinity (sgn a) else _) = _
  rw [if_neg (by rw [h]; decide), if_neg (by omega), if_pos h]
theorem read_nan' {a : Nat} (h : INF < rung a) : ∃ f, Ieee.double.read a = .nan (sgn a) f := by
  unfold Ieee.Format.read
  rw [sw, bn, ir, lp]
  show ∃ f, (if rung a < 4503599627370496 then _ else if rung a < INF then _ else if rung a = INF then _ else Ieee.Datum.nan (sgn a) (rung a - INF)) = _
  exact ⟨_, by rw [if_neg (by unfold INF at h; omega), if_neg (by omega), if_neg (by omega)]⟩
theorem nan_iff (a : Nat) : isNan a = decide (INF < rung a) := by
  unfold isNan
  rcases Nat.lt_trichotomy (rung a) INF with h | h | h
  · obtain ⟨m, p, e, _⟩ := read_fin h; rw [e, decide_eq_false (by omega)]; rfl
  · rw [read_inf h, decide_eq_false (by omega)]; rfl
  · obtain ⟨f, e⟩ := read_nan' h; rw [e, decide_eq_true h]; rfl

theorem signed_eq (s : Bool) (m u : Nat) : Ieee.signed s m u = (if s then -((m * 2 ^ u : Nat) : Int) else ((m * 2 ^ u : Nat) : Int)) := by
  unfold Ieee.signed; rw [Nat.shiftLeft_eq]
theorem cmp_scale (x y : Int) (k : Nat) : compare (x * (2 ^ k : Nat)) (y * (2 ^ k : Nat)) = compare x y := by
  have hk : (0 : Int) < ((2 ^ k : Nat) : Int) := by exact_mod_cast Nat.two_pow_pos k
  rcases Int.lt_trichotomy x y with h | h | h
  · rw [Int.compare_eq_lt.2 h, Int.compare_eq_lt.2 (Int.mul_lt_mul_of_pos_right h hk)]
  · rw [h, Int.compare_eq_eq.2 rfl, Int.compare_eq_eq.2 rfl]
  · rw [Int.compare_eq_gt.2 h, Int.compare_eq_gt.2 (Int.mul_lt_mul_of_pos_right h hk)]
def sg (s : Bool) (n : Nat) : Int := if s then -(n : Int) else n
theorem sg_mul (s : Bool) (n k : Nat) : sg s n * (k : Int) = sg s (n * k) := by
  unfold sg; cases s <;> simp [Int.neg_mul]
theorem sg_cmp (s t : Bool) (a b c d : Nat) (h : compare a b = compare c d) (h0 : a = 0 ↔ c = 0) (h1 : b = 0 ↔ d = 0) : compare (sg s a) (sg t b) = compare (sg s c) (sg t d) := by
  have e : ∀ x y : Int, compare x y = if x < y then .lt else if x = y then .eq else .gt := by
    intro x y; rcases Int.lt_trichotomy x y with h | h | h
    · rw [Int.compare_eq_lt.2 h, if_pos h]
    · rw [if_neg (by omega), if_pos h]; exact Int.compare_eq_eq.2 h
    · rw [if_neg (by omega), if_neg (by omega)]; exact Int.compare_eq_gt.2 h
  have e' : ∀ x y : Nat, compare x y = if x < y then .lt else if x = y then .eq else .gt := by
    intro x y; rcases Nat.lt_trichotomy x y with h | h | h
    · rw [Nat.compare_eq_lt.2 h, if_pos h]
    · rw [if_neg (by omega), if_pos h]; exact Nat.compare_eq_eq.2 h
    · rw [if_neg (by omega), if_neg (by omega)]; exact Nat.compare_eq_gt.2 h
  rw [e', e'] at h
  rw [e, e]; unfold sg
  (repeat' split at h) <;> first | (cases h; done) | (cases s <;> cases t <;> simp <;> (repeat' split) <;> first | rfl | omega)
theorem ord_fin {a b : Nat} (ha : rung a < INF) (hb : rung b < INF) : fOrd a b = some (compare (sg (sgn a) (mg (rung a))) (sg (sgn b) (mg (rung b)))) := by
  obtain ⟨m, p, e, hp, h1⟩ := read_fin ha
  obtain ⟨n, q, f, hq, h2⟩ := read_fin hb
  unfold fOrd Ieee.Format.order
  rw [e, f]
  simp only [Ieee.Datum.order]
  rw [← h1, ← h2, signed_eq, signed_eq]
  have key : ∀ (i : Int) (m : Nat), min p q ≤ i → m * 2 ^ (i + 1074).toNat = (m * 2 ^ (i - min p q).toNat) * 2 ^ (min p q + 1074).toNat := by
    intro i m hi
    rw [Nat.mul_assoc, ← Nat.pow_add]; congr 2; omega
  rw [key p m (by omega), key q n (by omega), ← sg_mul _ (m * 2 ^ (p - min p q).toNat), ← sg_mul _ (n * 2 ^ (q - min p q).toNat), cmp_scale]
  rfl
theorem K_sg (a : Nat) : K a = sg (sgn a) (rung a) := rfl
theorem ord_K {a b : Nat} (ha : rung a ≤ INF) (hb : rung b ≤ INF) : fOrd a b = some (compare (K a) (K b)) := by
  by_cases h1 : rung a < INF
  · by_cases h2 : rung b < INF
    · rw [ord_fin h1 h2, K_sg, K_sg]
      congr 1
      refine sg_cmp _ _ _ _ _ _ (mg_cmp _ _) ?_ ?_ <;>
      · constructor
        · intro h
          apply mg_inj; rw [h, mg_zero]
        · intro h; rw [h, mg_zero]
    · have h2 : rung b = INF := by omega
      obtain ⟨m, p, e, hp, _⟩ := read_fin h1
      unfold fOrd Ieee.Format.order
      rw [e, read_inf h2]
      simp only [Ieee.Datum.order, K, h2]
      cases sgn b
      · simp only [Bool.false_eq_true, if_false]; congr 1; symm; apply Int.compare_eq_lt.2; split <;> omega
      · simp only [if_true]; congr 1; symm; apply Int.compare_eq_gt.2; split <;> omega
  · have h1 : rung a = INF := by omega
    by_cases h2 : rung b < INF
    · obtain ⟨m, p, e, hp, _⟩ := read_fin h2
      unfold fOrd Ieee.Format.order
      rw [e, read_inf h1]
      simp only [Ieee.Datum.order, K, h1]
      cases sgn a
      · simp only [Bool.false_eq_true, if_false]; congr 1; symm; apply Int.compare_eq_gt.2; split <;> omega
      · simp only [if_true]; congr 1; symm; apply Int.compare_eq_lt.2; split <;> omega
    · have h2 : rung b = INF := by omega
      unfold fOrd Ieee.Format.order
      rw [read_inf h1, read_inf h2]
      simp only [Ieee.Datum.order, K, h1, h2]
      cases sgn a <;> cases sgn b <;> rfl
theorem not_nan {a : Nat} (h : isNan a = false) : rung a ≤ INF := by
  rw [nan_iff] at h; simpa using h
theorem cmp_nan1 {op : BinOp} {a b : Nat} (h : isNan a = true) : fCmp op a b = (match op with | .neq => true | _ => false) := by
  cases op <;> simp [fCmp, ord_nan1 h]
theorem cmp_nan2 {op : BinOp} {a b : Nat} (h : isNan b = true) : fCmp op a b = (match op with | .neq => true | _ => false) := by
  cases op <;> simp [fCmp, ord_nan2 h]
theorem cmp_ite (x y : Int) : compare x y = if x < y then .lt else if x = y then .eq else .gt := by
  rcases Int.lt_trichotomy x y with h | h | h
  · rw [Int.compare_eq_lt.2 h, if_pos h]
  · rw [if_neg (by omega), if_pos h]; exact Int.compare_eq_eq.2 h
  · rw [if_neg (by omega), if_neg (by omega)]; exact Int.compare_eq_gt.2 h
theorem lss_K {a b : Nat} (ha : isNan a = false) (hb : isNan b = false) : fCmp .lss a b = (decide (K a < K b)) := by
  simp only [fCmp, ord_K (not_nan ha) (not_nan hb), cmp_ite]
  rcases Int.lt_trichotomy (K a) (K b) with h | h | h
  · rw [if_pos h]; simp [h, Int.ne_of_lt h, Int.not_lt.2 (Int.le_of_lt h)]
  · rw [if_neg (by omega), if_pos h]; simp [h]
  · rw [if_neg (by omega), if_neg (by omega)]; simp [h, Int.not_lt.2 (Int.le_of_lt h), Int.ne_of_gt h]
theorem gtr_K {a b : Nat} (ha : isNan a = false) (hb : isNan b = false) : fCmp .gtr a b = (decide (K b < K a)) := by
  simp only [fCmp, ord_K (not_nan ha) (not_nan hb), cmp_ite]
  rcases Int.lt_trichotomy (K a) (K b) with h | h | h
  · rw [if_pos h]; simp [h, Int.ne_of_lt h, Int.not_lt.2 (Int.le_of_lt h)]
  · rw [if_neg (by omega), if_pos h]; simp [h]
  · rw [if_neg (by omega), if_neg (by omega)]; simp [h, Int.not_lt.2 (Int.le_of_lt h), Int.ne_of_gt h]
theorem neq_K {a b : Nat} (ha : isNan a = false) (hb : isNan b = false) : fCmp .neq a b = (!decide (K a = K b)) := by
  simp only [fCmp, ord_K (not_nan ha) (not_nan hb), cmp_ite]
  rcases Int.lt_trichotomy (K a) (K b) with h | h | h
  · rw [if_pos h]; simp [h, Int.ne_of_lt h, Int.not_lt.2 (Int.le_of_lt h)]
  · rw [if_neg (by omega), if_pos h]; simp [h]
  · rw [if_neg (by omega), if_neg (by omega)]; simp [h, Int.not_lt.2 (Int.le_of_lt h), Int.ne_of_gt h]
theorem neq_self (a : Nat) : fCmp .neq a a = isNan a := by
  cases h : isNan a with
  | true => rw [cmp_nan1 h]
  | false => rw [neq_K h h]; simp
end Go.Fl
set_option linter.unusedSimpArgs false
set_option linter.unusedVariables false
open Go Go.IL
namespace Go.Fl

/-! Rounding: the nearest word, and where it is the number itself. -/
theorem mg_join {q k : Nat} (h : (q = 0 ∧ k ≤ 9007199254740992) ∨ (4503599627370496 ≤ k ∧ k ≤ 9007199254740992)) : mg (q * 4503599627370496 + k) = k * 2 ^ q := by
  unfold mg
  by_cases hc : k = 9007199254740992
  · subst hc
    rw [if_neg (by omega)]
    have e1 : (q * 4503599627370496 + 9007199254740992) % 4503599627370496 = 0 := by omega
    have e2 : (q * 4503599627370496 + 9007199254740992) / 4503599627370496 - 1 = q + 1 := by omega
    rw [e1, e2, Nat.pow_succ, Nat.mul_comm (2 ^ q) 2, ← Nat.mul_assoc]
  · rcases h with ⟨rfl, h⟩ | ⟨h1, h2⟩
    · by_cases hk : k < 4503599627370496
      · rw [if_pos (by omega)]; simp
      · rw [if_neg (by omega), show (0 * 4503599627370496 + k) % 4503599627370496 = k - 4503599627370496 by omega, show (0 * 4503599627370496 + k) / 4503599627370496 - 1 = 0 by omega, Nat.pow_zero, Nat.mul_one, Nat.mul_one]
        omega
    · rw [if_neg (by omega), show (q * 4503599627370496 + k) % 4503599627370496 = k - 4503599627370496 by omega, show (q * 4503599627370496 + k) / 4503599627370496 - 1 = q by omega, show 4503599627370496 + (k - 4503599627370496) = k by omega]
theorem rung_word (s : Bool) {r : Nat} (h : r < 9223372036854775808) : rung (Ieee.double.word s r) = r := by
  unfold rung Ieee.Format.word; rw [sw]; cases s <;> simp <;> omega
theorem sgn_word (s : Bool) {r : Nat} (h : r < 9223372036854775808) : sgn (Ieee.double.word s r) = s := by
  unfold sgn Ieee.Format.word; rw [sw]
  cases s
  · simp only [Bool.false_eq_true, if_false]; rw [Nat.div_eq_of_lt h]; rfl
  · simp only [if_true]; rw [show (9223372036854775808 + r) / 9223372036854775808 = 1 by omega]; rfl
theorem word_lt (s : Bool) {r : Nat} (h : r < 9223372036854775808) : Ieee.double.word s r < 18446744073709551616 := by
  unfold Ieee.Format.word; rw [sw]; cases s <;> simp <;> omega
theorem word_eq {a : Nat} (h : a < 18446744073709551616) : Ieee.double.word (sgn a) (rung a) = a := by
  unfold Ieee.Format.word sgn rung; rw [sw]
  by_cases h1 : a < 9223372036854775808
  · rw [Nat.div_eq_of_lt h1]; simp; omega
  · rw [show a / 9223372036854775808 = 1 by omega]; simp; omega
theorem word_inj {a b : Nat} (ha : a < 18446744073709551616) (hb : b < 18446744073709551616) (h1 : sgn a = sgn b) (h2 : rung a = rung b) : a = b := by
  rw [← word_eq ha, ← word_eq hb, h1, h2]

theorem cut_near (s : Bool) (n d : Nat) (hd : d ≤ n.log2 + 2) : 2 * n ≤ 2 * (Ieee.Toward.even.cut s n d * 2 ^ d) + 2 ^ d ∧ 2 * (Ieee.Toward.even.cut s n d * 2 ^ d) ≤ 2 * n + 2 ^ d := by
  unfold Ieee.Toward.cut
  rw [Nat.min_eq_left hd]
  simp only [Nat.shiftLeft_eq, Nat.one_mul]
  have hp : 0 < 2 ^ d := Nat.two_pow_pos _
  generalize 2 ^ d = g at *
  have h1 := Nat.div_add_mod n g
  have h2 := Nat.mod_lt n hp
  generalize n / g = l at *
  generalize n % g = r at *
  have e0 : (l + 0) * g = g * l := by rw [Nat.add_zero, Nat.mul_comm]
  have e1 : (l + 1) * g = g * l + g := by rw [Nat.add_mul, Nat.one_mul, Nat.mul_comm]
  cases hm : (decide (g < 2 * r) || g == 2 * r && l % 2 == 1) with
  | true =>
    rw [Bool.toNat_true, e1]
    have : g ≤ 2 * r := by
      simp only [Bool.or_eq_true, decide_eq_true_eq, Bool.and_eq_true, beq_iff_eq] at hm
      omega
    omega
  | false =>
    rw [Bool.toNat_false, e0]
    have : ¬ g < 2 * r := by
      simp only [Bool.or_eq_false_iff, decide_eq_false_iff_not] at hm
      exact hm.1
    omega
theorem cut_exact (s : Bool) {n d c : Nat} (hd : d ≤ n.log2 + 2) (h : n = c * 2 ^ d) : Ieee.Toward.even.cut s n d = c := by
  unfold Ieee.Toward.cut
  rw [Nat.min_eq_left hd]
  simp only [Nat.shiftLeft_eq, Nat.one_mul]
  have hp : 0 < 2 ^ d := Nat.two_pow_pos _
  rw [h, Nat.mul_mod_left, Nat.mul_div_cancel _ hp]
  simp
theorem log2_mul_pow {m k : Nat} (hm : m ≠ 0) : (m * 2 ^ k).log2 = m.log2 + k := by
  induction k with
  | zero => simp
  | succ k ih =>
    have h0 : m * 2 ^ k ≠ 0 := Nat.mul_ne_zero hm (Nat.ne_of_gt (Nat.two_pow_pos _))
    rw [Nat.pow_succ, ← Nat.mul_assoc, Nat.mul_comm _ 2, Nat.log2_two_mul h0, ih]; omega
theorem log2_lt' {m k : Nat} (hm : m ≠ 0) : m.log2 < k ↔ m < 2 ^ k := Nat.log2_lt hm
theorem log2_ge {m k : Nat} (hm : m ≠ 0) : k ≤ m.log2 ↔ 2 ^ k ≤ m := Nat.le_log2 hm

/-- A number of not more than 53 digits is written as it is. -/
theorem nearest_exact (s : Bool) {mag m k : Nat} {place : Int} (h0 : m ≠ 0) (hm : m < 9007199254740992) (he : mag = m * 2 ^ k) (hp : -1074 ≤ place) (ht : place + k ≤ 900) :
    rung (Ieee.double.nearest s mag place) < INF ∧ sgn (Ieee.double.nearest s mag place) = s ∧ mg (rung (Ieee.double.nearest s mag place)) = mag * 2 ^ (place + 1074).toNat := by
  have hmag : mag ≠ 0 := by rw [he]; exact Nat.mul_ne_zero h0 (Nat.ne_of_gt (Nat.two_pow_pos _))
  have hL : mag.log2 = m.log2 + k := by rw [he, log2_mul_pow h0]
  have hml : m.log2 < 53 := (log2_lt' h0).2 hm
  unfold Ieee.Format.nearest
  rw [if_neg hmag, fb, lp, bn, ir]
  simp only
  -- the last place, and what is kept
  have key : ∃ (last : Int) (kept : Nat), max (place + ((mag.log2 : Nat) : Int) - (52 : Nat)) (-1074) = last ∧ -1074 ≤ last ∧ last ≤ 900 ∧ ((last = -1074 ∧ kept ≤ 9007199254740992) ∨ (4503599627370496 ≤ kept ∧ kept ≤ 9007199254740992)) ∧
      Ieee.Toward.even.cut s (mag <<< (place - last).toNat) (last - place).toNat = kept ∧ kept * 2 ^ (last + 1074).toNat = mag * 2 ^ (place + 1074).toNat := by
    simp only [Nat.shiftLeft_eq, hL]
    by_cases h1 : place + ((m.log2 + k : Nat) : Int) - (52 : Nat) ≤ -1074
    · refine ⟨-1074, mag * 2 ^ (place + 1074).toNat, by omega, by omega, by omega, .inl ⟨rfl, ?_⟩, ?_, by simp⟩
      · have h2 : mag * 2 ^ (place + 1074).toNat = m * 2 ^ (k + (place + 1074).toNat) := by rw [he, Nat.mul_assoc, ← Nat.pow_add]
        have h3 : (m * 2 ^ (k + (place + 1074).toNat)).log2 < 53 := by rw [log2_mul_pow h0]; omega
        rw [h2]
        have := (log2_lt' (Nat.mul_ne_zero h0 (Nat.ne_of_gt (Nat.two_pow_pos _)))).1 h3
        omega
      · rw [show (place - -1074).toNat = (place + 1074).toNat by omega, show ((-1074 : Int) - place).toNat = 0 by omega]
        exact cut_exact s (by omega) (by simp)
    · by_cases h2 : (m.log2 + k : Nat) ≤ 52
      · -- the number is made longer
        refine ⟨place + ((m.log2 + k : Nat) : Int) - (52 : Nat), mag * 2 ^ (52 - (m.log2 + k)), by omega, by omega, by omega, .inr ?_, ?_, ?_⟩
        · have h3 : (mag * 2 ^ (52 - (m.log2 + k))).log2 = 52 := by rw [log2_mul_pow hmag, hL]; omega
          have hne : mag * 2 ^ (52 - (m.log2 + k)) ≠ 0 := Nat.mul_ne_zero hmag (Nat.ne_of_gt (Nat.two_pow_pos _))
          have h4 := (log2_ge hne (k := 52)).1 (by omega)
          have h5 := (log2_lt' hne (k := 53)).1 (by omega)
          omega
        · rw [show (place - (place + ((m.log2 + k : Nat) : Int) - (52 : Nat))).toNat = 52 - (m.log2 + k) by omega, show (place + ((m.log2 + k : Nat) : Int) - (52 : Nat) - place).toNat = 0 by omega]
          exact cut_exact s (by omega) (by simp)
        · rw [Nat.mul_assoc, ← Nat.pow_add]; congr 2; omega
      · -- noughts are struck
        have hd : m.log2 + k - 52 ≤ k := by omega
        refine ⟨place + ((m.log2 + k : Nat) : Int) - (52 : Nat), m * 2 ^ (k - (m.log2 + k - 52)), by omega, by omega, by omega, .inr ?_, ?_, ?_⟩
        · have h3 : (m * 2 ^ (k - (m.log2 + k - 52))).log2 = 52 := by rw [log2_mul_pow h0]; omega
          have hne : m * 2 ^ (k - (m.log2 + k - 52)) ≠ 0 := Nat.mul_ne_zero h0 (Nat.ne_of_gt (Nat.two_pow_pos _))
          have h4 := (log2_ge hne (k := 52)).1 (by omega)
          have h5 := (log2_lt' hne (k := 53)).1 (by omega)
          omega
        · rw [show (place - (place + ((m.log2 + k : Nat) : Int) - (52 : Nat))).toNat = 0 by omega, show (place + ((m.log2 + k : Nat) : Int) - (52 : Nat) - place).toNat = m.log2 + k - 52 by omega, Nat.pow_zero, Nat.mul_one]
          refine cut_exact s (by rw [hL]; omega) ?_
          rw [he, Nat.mul_assoc, ← Nat.pow_add]; congr 2; omega
        · rw [he, Nat.mul_assoc, Nat.mul_assoc, ← Nat.pow_add, ← Nat.pow_add]; congr 2; omega
  obtain ⟨last, kept, e1, e2, e3, e4, e5, e6⟩ := key
  rw [e1, e5]
  have hq : (last + 1074).toNat ≤ 1974 := by omega
  have hk : kept ≤ 9007199254740992 := by rcases e4 with ⟨_, h⟩ | ⟨_, h⟩ <;> exact h
  have hlt : (last + 1074).toNat * 4503599627370496 + kept < 9218868437227405312 :=
    Nat.lt_of_le_of_lt (Nat.add_le_add (Nat.mul_le_mul_right 4503599627370496 hq) hk) (by decide)
  have hr : min ((last - -1074).toNat * 4503599627370496 + kept) 9218868437227405312 = (last + 1074).toNat * 4503599627370496 + kept := by
    rw [show (last - -1074).toNat = (last + 1074).toNat by omega]
    exact Nat.min_eq_left (Nat.le_of_lt hlt)
  rw [hr, rung_word s (Nat.lt_trans hlt (by decide)), sgn_word s (Nat.lt_trans hlt (by decide))]
  have hj : ((last + 1074).toNat = 0 ∧ kept ≤ 9007199254740992) ∨ (4503599627370496 ≤ kept ∧ kept ≤ 9007199254740992) := by
    rcases e4 with ⟨h, h'⟩ | h
    · exact .inl ⟨by rw [h]; rfl, h'⟩
    · exact .inr h
  have hm2 := @mg_join (last + 1074).toNat kept hj
  rw [e6] at hm2
  exact ⟨hlt, rfl, hm2⟩
end Go.Fl
set_option linter.unusedSimpArgs false
set_option linter.unusedVariables false
open Go Go.IL
namespace Go.Fl

/-! Exact arithmetic: finite numbers in the least unit. -/
def V (a : Nat) : Int := sg (sgn a) (mg (rung a))
theorem read_fin' {a : Nat} (h : rung a < INF) : ∃ m p, Ieee.double.read a = .number (sgn a) m p ∧ -1074 ≤ p ∧ m * 2 ^ (p + 1074).toNat = mg (rung a) ∧ m < 9007199254740992 ∧ (m < 4503599627370496 → p = -1074) := by
  unfold Ieee.Format.read
  rw [sw, bn, ir, lp]
  show ∃ m p, (if rung a < 4503599627370496 then Ieee.Datum.number (sgn a) (rung a) (-1074) else if rung a < INF then _ else _) = _ ∧ _
  unfold mg
  by_cases h1 : rung a < 4503599627370496
  · rw [if_pos h1, if_pos h1]; exact ⟨rung a, -1074, rfl, by decide, by simp, by omega, fun _ => rfl⟩
  · rw [if_neg h1, if_neg h1, if_pos h]
    refine ⟨_, _, rfl, by omega, ?_, ?_, fun h => ?_⟩
    · show _ * 2 ^ ((-1074 : Int) + ((rung a / 4503599627370496 - 1 : Nat) : Int) + 1074).toNat = _
      rw [show ((-1074 : Int) + ((rung a / 4503599627370496 - 1 : Nat) : Int) + 1074).toNat = rung a / 4503599627370496 - 1 by omega]
      rfl
    · show 4503599627370496 + rung a % 4503599627370496 < _
      have := Nat.mod_lt (rung a) (show 0 < 4503599627370496 by decide)
      omega
    · have h : 4503599627370496 + rung a % 4503599627370496 < 4503599627370496 := h
      omega
theorem sg_abs (s : Bool) (n : Nat) : (sg s n).natAbs = n := by unfold sg; cases s <;> simp
/-- A word that was written. -/
structure Wr (a : Nat) (s : Bool) (r : Nat) : Prop where
  fin : rung a < INF
  sgn : sgn a = s
  mg : mg (rung a) = r
  lt : a < 18446744073709551616
theorem nearest_lt64 (s : Bool) (mag : Nat) (place : Int) : Ieee.double.nearest s mag place < 18446744073709551616 :=
  Nat.lt_of_lt_of_le (Ieee.Format.nearest_lt Ieee.double s mag place) (by decide +kernel)
theorem wr_exact (s : Bool) {mag m k : Nat} {place : Int} (h0 : m ≠ 0) (hm : m < 9007199254740992) (hp : -1074 ≤ place) (he : mag * 2 ^ (place + 1074).toNat = m * 2 ^ k) (hk : k ≤ 1900) : Wr (Ieee.double.nearest s mag place) s (m * 2 ^ k) := by
  by_cases hb : (place + 1074).toNat ≤ k
  · obtain ⟨h1, h2, h3⟩ := nearest_exact s (mag := mag) (m := m) (k := k - (place + 1074).toNat) (place := place) h0 hm (by
      have : m * 2 ^ k = m * 2 ^ (k - (place + 1074).toNat) * 2 ^ (place + 1074).toNat := by rw [Nat.mul_assoc, ← Nat.pow_add]; congr 2; omega
      rw [this] at he
      exact Nat.eq_of_mul_eq_mul_right (Nat.two_pow_pos _) he) hp (by omega)
    exact ⟨h1, h2, h3.trans he, nearest_lt64 _ _ _⟩
  · have hle : k ≤ (place + 1074).toNat := by omega
    have h4 : m = mag * 2 ^ ((place + 1074).toNat - k) := by
      have : mag * 2 ^ (place + 1074).toNat = mag * 2 ^ ((place + 1074).toNat - k) * 2 ^ k := by rw [Nat.mul_assoc, ← Nat.pow_add]; congr 2; omega
      rw [this] at he
      exact (Nat.eq_of_mul_eq_mul_right (Nat.two_pow_pos _) he).symm
    have hmag0 : mag ≠ 0 := by rintro rfl; rw [Nat.zero_mul] at h4; exact h0 h4
    have hmle : mag ≤ m := by rw [h4]; exact Nat.le_mul_of_pos_right _ (Nat.two_pow_pos _)
    have hpl : place ≤ 900 := by
      -- mag * 2 ^ (place + 1074) = m * 2 ^ k < 2 ^ 53 * 2 ^ 1900
      refine Decidable.byContradiction fun hn => ?_
      have h5 : (place + 1074).toNat - k < 53 := by
        have h6 : 2 ^ ((place + 1074).toNat - k) ≤ m := by rw [h4]; exact Nat.le_mul_of_pos_left _ (Nat.pos_of_ne_zero hmag0)
        refine Decidable.byContradiction fun h7 => ?_
        have h8 : 2 ^ 53 ≤ 2 ^ ((place + 1074).toNat - k) := Nat.pow_le_pow_right (by decide) (by omega)
        omega
      omega
    obtain ⟨h1, h2, h3⟩ := nearest_exact s (mag := mag) (m := mag) (k := 0) (place := place) hmag0 (by omega) (by simp) hp (by omega)
    exact ⟨h1, h2, h3.trans he, nearest_lt64 _ _ _⟩
theorem wr_zero (s : Bool) (place : Int) : Wr (Ieee.double.nearest s 0 place) s 0 := by
  have e : Ieee.double.nearest s 0 place = Ieee.double.word s 0 := by unfold Ieee.Format.nearest; rw [if_pos rfl]
  rw [e]
  exact ⟨by rw [rung_word s (by decide)]; decide, sgn_word s (by decide), by rw [rung_word s (by decide)]; rfl, word_lt s (by decide)⟩
theorem Wr.V {a : Nat} {s : Bool} {r : Nat} (h : Wr a s r) : V a = sg s r := by unfold Fl.V; rw [h.sgn, h.mg]

/-- Whole numbers of eighths. -/
structure E8 (a : Nat) (n : Int) : Prop where
  fin : rung a < INF
  V : V a = n * 2 ^ e71
  lt : a < 18446744073709551616
theorem sg_mul' (s : Bool) (n k : Nat) : sg s (n * k) = sg s n * (k : Int) := (sg_mul s n k).symm
theorem wr_e8 (s : Bool) {mag : Nat} {place : Int} {n : Nat} (hn : n < 9007199254740992) (hp : mag ≠ 0 → -1074 ≤ place) (he : n ≠ 0 → mag * 2 ^ (place + 1074).toNat = n * 2 ^ e71) (hz : n = 0 → mag = 0) : Wr (Ieee.double.nearest s mag place) s (n * 2 ^ e71) := by
  by_cases h0 : n = 0
  · rw [hz h0, h0, Nat.zero_mul]; exact wr_zero s place
  · have h1 := he h0
    have hmag : mag ≠ 0 := by
      rintro rfl
      rw [Nat.zero_mul] at h1
      exact Nat.mul_ne_zero h0 (Nat.ne_of_gt (Nat.two_pow_pos _)) h1.symm
    exact wr_exact s h0 hn (hp hmag) h1 (by decide)
theorem wr_to8 {a : Nat} {s : Bool} {n : Nat} (h : Wr a s (n * 2 ^ e71)) : E8 a (sg s n) := ⟨h.fin, by rw [h.V, sg_mul', Int.natCast_pow]; rfl, h.lt⟩
theorem toF8 {n : Int} (h : n.natAbs < 1125899906842624) : E8 (floatOfInt .f64 n) (8 * n) := by
  have h1 : Wr (Ieee.double.nearest (decide (n < 0)) n.natAbs 0) (decide (n < 0)) (8 * n.natAbs * 2 ^ e71) := by
    refine wr_e8 _ (by omega) (fun _ => by decide) (fun _ => ?_) (fun h => by omega)
    rw [show ((0 : Int) + 1074).toNat = 3 + e71 by decide, Nat.pow_add, ← Nat.mul_assoc]
    congr 1; omega
  have h2 := wr_to8 h1
  have e : sg (decide (n < 0)) (8 * n.natAbs) = 8 * n := by
    unfold sg
    by_cases hn : n < 0
    · rw [decide_eq_true hn]; simp; omega
    · rw [decide_eq_false hn]; simp; omega
  rw [e] at h2
  exact h2
/-- The mantissa and the place of eighths. -/
theorem E8.read {a : Nat} {n : Int} (h : E8 a n) : ∃ m p, Ieee.double.read a = .number (sgn a) m p ∧ -1074 ≤ p ∧ m * 2 ^ (p + 1074).toNat = n.natAbs * 2 ^ e71 ∧ m < 9007199254740992 ∧ sg (sgn a) (m * 2 ^ (p + 1074).toNat) = n * 2 ^ e71 := by
  obtain ⟨m, p, e, hp, h1, h2, _⟩ := read_fin' h.fin
  have hv := h.V
  unfold Fl.V at hv
  rw [← h1] at hv
  refine ⟨m, p, e, hp, ?_, h2, hv⟩
  have := congrArg Int.natAbs hv
  rw [sg_abs, Int.natAbs_mul, Int.natAbs_pow, show (2 : Int).natAbs = 2 from rfl] at this
  rw [this]
theorem E8.place {m : Nat} {p : Int} {n : Nat} (hn : n ≠ 0) (hm : m < 9007199254740992) (he : m * 2 ^ (p + 1074).toNat = n * 2 ^ e71) : -100 ≤ p := by
  refine Decidable.byContradiction fun h => ?_
  have e71' := e71_eq
  have h1 : (p + 1074).toNat ≤ e71 - 53 := by omega
  have h2 : m * 2 ^ (p + 1074).toNat < 2 ^ 53 * 2 ^ (e71 - 53) := by
    calc m * 2 ^ (p + 1074).toNat ≤ m * 2 ^ (e71 - 53) := Nat.mul_le_mul_left _ (Nat.pow_le_pow_right (by decide) h1)
      _ < 2 ^ 53 * 2 ^ (e71 - 53) := Nat.mul_lt_mul_of_pos_right (by exact hm) (Nat.two_pow_pos _)
  have h3 : 2 ^ e71 ≤ n * 2 ^ e71 := Nat.le_mul_of_pos_left _ (Nat.pos_of_ne_zero hn)
  rw [he, ← Nat.pow_add, show 53 + (e71 - 53) = e71 by omega] at h2
  omega
theorem fAr_some {op : BinOp} {x y r : Nat} (h : floatBits op .f64 x y = some r) : fAr op x y = r := by unfold fAr; rw [h]; rfl
end Go.Fl
set_option linter.unusedSimpArgs false
set_option linter.unusedVariables false
open Go Go.IL
namespace Go.Fl

theorem E8.sg {a : Nat} {n : Int} (h : E8 a n) : sg (sgn a) n.natAbs = n := by
  have hv := h.V
  unfold Fl.V at hv
  have h1 := congrArg Int.natAbs hv
  rw [sg_abs, Int.natAbs_mul] at h1
  have hpos : (0 : Int) < (2 : Int) ^ e71 := Int.pow_pos (by decide)
  unfold Fl.sg at hv ⊢
  cases hs : sgn a with
  | false =>
    rw [hs] at hv
    simp only [Bool.false_eq_true, if_false] at hv ⊢
    have : 0 ≤ n := by
      refine Decidable.byContradiction fun hn => ?_
      have := Int.mul_neg_of_neg_of_pos (show n < 0 by omega) hpos
      omega
    omega
  | true =>
    rw [hs] at hv
    simp only [if_true] at hv ⊢
    have : n ≤ 0 := by
      refine Decidable.byContradiction fun hn => ?_
      have := Int.mul_pos (show 0 < n by omega) hpos
      omega
    omega
theorem E8.nan {a : Nat} {n : Int} (h : E8 a n) : isNan a = false := by rw [nan_iff]; have := h.fin; exact decide_eq_false (by omega)
theorem E8.inj {a b : Nat} {n : Int} (ha : E8 a n) (hb : E8 b n) (hn : n ≠ 0) : a = b := by
  have h1 : Fl.V a = Fl.V b := by rw [ha.V, hb.V]
  have h2 : mg (rung a) = mg (rung b) := by have := congrArg Int.natAbs h1; unfold Fl.V at this; rwa [sg_abs, sg_abs] at this
  refine word_inj ha.lt hb.lt ?_ (mg_inj h2)
  have h3 : Fl.V a ≠ 0 := by
    rw [ha.V]
    have hpos : (0 : Int) < (2 : Int) ^ e71 := Int.pow_pos (by decide)
    intro h
    rcases Int.mul_eq_zero.1 h with h | h <;> omega
  unfold Fl.V at h1 h3
  rw [← h2] at h1
  unfold Fl.sg at h1 h3
  cases e1 : sgn a <;> cases e2 : sgn b <;> rw [e1] at h1 h3 <;> rw [e2] at h1 <;> simp at h1 h3 ⊢ <;> omega
end Go.Fl
set_option linter.unusedSimpArgs false
set_option linter.unusedVariables false
open Go Go.IL
namespace Go.Fl

/-! Quotients of whole numbers. -/
/-- A whole number above nothing, as a double: its mantissa has 53 digits. -/
theorem toN {n : Nat} (h0 : n ≠ 0) (h : n < 1125899906842624) : ∃ m p, Ieee.double.read (floatOfInt .f64 (n : Int)) = .number false m p ∧ m * 2 ^ (p + 1074).toNat = n * 2 ^ e74 ∧ 4503599627370496 ≤ m ∧ m < 9007199254740992 ∧ -52 ≤ p ∧ p ≤ 0 := by
  have h8 := toF8 (n := (n : Int)) (by omega)
  obtain ⟨m, p, e, hp, h1, h2, hn⟩ := read_fin' h8.fin
  have hs : sgn (floatOfInt .f64 (n : Int)) = false := by
    have := h8.sg
    cases hs : sgn (floatOfInt .f64 (n : Int)) with
    | false => rfl
    | true => rw [hs] at this; unfold sg at this; simp only [if_true] at this; omega
  have hv := h8.V
  unfold V at hv
  rw [hs] at hv
  have h3 : m * 2 ^ (p + 1074).toNat = n * 2 ^ e74 := by
    rw [h1]
    have := congrArg Int.natAbs hv
    rw [sg_abs, Int.natAbs_mul] at this
    rw [this, show (8 * (n : Int)).natAbs = n * 2 ^ 3 by omega, Int.natAbs_pow, show (2 : Int).natAbs = 2 from rfl, Nat.mul_assoc, ← Nat.pow_add, show 3 + e71 = e74 by decide]
  have hlow : 4503599627370496 ≤ m := by
    refine Decidable.byContradiction fun hlt => ?_
    have hp' := hn (by omega)
    rw [hp', show ((-1074 : Int) + 1074).toNat = 0 by decide, Nat.pow_zero, Nat.mul_one] at h3
    have h5 : 2 ^ e74 ≤ n * 2 ^ e74 := Nat.le_mul_of_pos_left _ (Nat.pos_of_ne_zero h0)
    have h6 : 2 ^ 53 ≤ 2 ^ e74 := Nat.pow_le_pow_right (by decide) (by decide)
    omega
  have hp1 : -52 ≤ p := by
    refine Decidable.byContradiction fun hlt => ?_
    have e74' := e74_eq
    have h5 : m * 2 ^ (p + 1074).toNat < 2 ^ 53 * 2 ^ (e74 - 53) := by
      calc m * 2 ^ (p + 1074).toNat ≤ m * 2 ^ (e74 - 53) := Nat.mul_le_mul_left _ (Nat.pow_le_pow_right (by decide) (by omega))
        _ < 2 ^ 53 * 2 ^ (e74 - 53) := Nat.mul_lt_mul_of_pos_right (by omega) (Nat.two_pow_pos _)
    have h6 : 2 ^ e74 ≤ n * 2 ^ e74 := Nat.le_mul_of_pos_left _ (Nat.pos_of_ne_zero h0)
    rw [h3, ← Nat.pow_add, show 53 + (e74 - 53) = e74 by omega] at h5
    omega
  have hp2 : p ≤ 0 := by
    refine Decidable.byContradiction fun hlt => ?_
    have e74' := e74_eq
    have h5 : 2 ^ 52 * 2 ^ (e74 + 1) ≤ m * 2 ^ (p + 1074).toNat := Nat.mul_le_mul (by omega) (Nat.pow_le_pow_right (by decide) (by omega))
    have h6 : n * 2 ^ e74 < 2 ^ 50 * 2 ^ e74 := Nat.mul_lt_mul_of_pos_right (by omega) (Nat.two_pow_pos _)
    rw [h3, ← Nat.pow_add] at h5
    rw [← Nat.pow_add] at h6
    have h7 : 2 ^ (50 + e74) ≤ 2 ^ (52 + (e74 + 1)) := Nat.pow_le_pow_right (by decide) (by omega)
    omega
  exact ⟨m, p, by rw [e, hs], h3, hlow, h2, hp1, hp2⟩
theorem log2_52 {m : Nat} (h1 : 4503599627370496 ≤ m) (h2 : m < 9007199254740992) : m.log2 = 52 := by
  have h0 : m ≠ 0 := by omega
  have a := (Nat.log2_lt h0 (k := 53)).2 h2
  have b := (Nat.le_log2 h0 (k := 52)).2 h1
  omega
theorem quo_eq {a b m n : Nat} {p q : Int} (ha : Ieee.double.read a = .number false m p) (hb : Ieee.double.read b = .number false n q) (hm1 : 4503599627370496 ≤ m) (hm2 : m < 9007199254740992) (hn1 : 4503599627370496 ≤ n) (hn2 : n < 9007199254740992) :
    fAr .quo a b = Ieee.double.nearest false (2 * (m * 2 ^ 54 / n) + (m * 2 ^ 54 % n != 0).toNat) (p - q - 54 - 1) := fAr_some (by
  unfold floatBits Ieee.Format.div
  rw [show FloatKind.format .f64 = Ieee.double from rfl, ha, hb, fb]
  simp only [Ieee.Datum.quotient]
  rw [if_neg (by omega), log2_52 hm1 hm2, log2_52 hn1 hn2, show 52 + 2 + 52 - 52 = 54 from rfl, Nat.shiftLeft_eq]
  rfl)
/-- Nothing, by something. -/
theorem read0 : Ieee.double.read 0 = .number false 0 (-1074) := by decide +kernel
theorem quo_zero {b n : Nat} {q : Int} (hb : Ieee.double.read b = .number false n q) (hn : n ≠ 0) : fAr .quo 0 b = 0 := fAr_some (by
  unfold floatBits Ieee.Format.div
  rw [show FloatKind.format .f64 = Ieee.double from rfl, read0, hb]
  simp only [Ieee.Datum.quotient]
  rw [if_neg hn]
  simp only [Nat.zero_shiftLeft, Nat.zero_div, Nat.zero_mod]
  show some (Ieee.double.nearest _ 0 _) = _
  unfold Ieee.Format.nearest
  rw [if_pos rfl]; rfl)
/-- The nearest word of a great whole number with a bit for the rest. -/
theorem nearest_near {mag : Nat} {place : Int} (h1 : 2 ^ 54 ≤ mag) (h2 : mag < 2 ^ 57) (hp : -1000 ≤ place) (hp' : place ≤ 800) :
    ∃ G : Nat, rung (Ieee.double.nearest false mag place) < INF ∧ sgn (Ieee.double.nearest false mag place) = false ∧ mg (rung (Ieee.double.nearest false mag place)) = G * 2 ^ (place + 1074).toNat ∧ G * 2 ^ 53 ≤ mag * (2 ^ 53 + 1) ∧ mag * (2 ^ 53 - 1) ≤ G * 2 ^ 53 ∧ Ieee.double.nearest false mag place < 18446744073709551616 := by
  have h0 : mag ≠ 0 := by intro h; rw [h] at h1; exact absurd h1 (by decide)
  have hL1 : 54 ≤ mag.log2 := (Nat.le_log2 h0).2 h1
  have hL2 : mag.log2 < 57 := (Nat.log2_lt h0).2 h2
  have hLe : 2 ^ mag.log2 ≤ mag := (Nat.le_log2 h0).1 (Nat.le_refl _)
  have hLl : mag < 2 ^ (mag.log2 + 1) := (Nat.log2_lt h0).1 (Nat.lt_succ_self _)
  obtain ⟨d, hd⟩ : ∃ d, mag.log2 = 52 + d := ⟨mag.log2 - 52, by omega⟩
  have hcut := cut_near false mag d (by omega)
  have hlt := nearest_lt64 false mag place
  generalize hk : Ieee.Toward.even.cut false mag d = k at hcut
  have e1 : Ieee.double.nearest false mag place = Ieee.double.word false (min ((place + d - -1074).toNat * 4503599627370496 + k) 9218868437227405312) := by
    unfold Ieee.Format.nearest
    rw [if_neg h0, fb, lp, bn, ir]
    simp only
    rw [show max (place + ((mag.log2 : Nat) : Int) - (52 : Nat)) (-1074) = place + d by omega, show (place - (place + (d : Int))).toNat = 0 by omega, show (place + (d : Int) - place).toNat = d by omega, Nat.shiftLeft_zero, hk]
  rw [hd, Nat.pow_add] at hLe
  rw [hd, show 52 + d + 1 = 53 + d by omega, Nat.pow_add] at hLl
  have hpos : 0 < 2 ^ d := Nat.two_pow_pos d
  have hk1 : 4503599627370496 ≤ k := by
    -- 2 mag ≤ 2 k g + g, 2 ^ 52 g ≤ mag
    refine Decidable.byContradiction fun hn => ?_
    have : (k + 1) * 2 ^ d ≤ 2 ^ 52 * 2 ^ d := Nat.mul_le_mul_right _ (by omega)
    rw [Nat.add_mul, Nat.one_mul] at this
    omega
  have hk2 : k ≤ 9007199254740992 := by
    refine Decidable.byContradiction fun hn => ?_
    have : (2 ^ 53 + 1) * 2 ^ d ≤ k * 2 ^ d := Nat.mul_le_mul_right _ (by omega)
    rw [Nat.add_mul, Nat.one_mul] at this
    omega
  have hq : (place + d - -1074).toNat ≤ 1974 := by omega
  have hfin : (place + d - -1074).toNat * 4503599627370496 + k < 9218868437227405312 :=
    Nat.lt_of_le_of_lt (Nat.add_le_add (Nat.mul_le_mul_right 4503599627370496 hq) hk2) (by decide)
  have hj := @mg_join (place + d - -1074).toNat k (.inr ⟨hk1, hk2⟩)
  rw [Nat.min_eq_left (Nat.le_of_lt hfin)] at e1
  refine ⟨k * 2 ^ d, ?_, ?_, ?_, ?_, ?_, hlt⟩
  · rw [e1, rung_word _ (Nat.lt_trans hfin (by decide))]; exact hfin
  · rw [e1, sgn_word _ (Nat.lt_trans hfin (by decide))]
  · rw [e1, rung_word _ (Nat.lt_trans hfin (by decide)), hj, Nat.mul_assoc, ← Nat.pow_add]
    congr 2; clear hfin hj e1; omega
  · clear hfin hj e1 hk hlt
    generalize k * 2 ^ d = G at *
    generalize 2 ^ d = g at *
    omega
  · clear hfin hj e1 hk hlt
    generalize k * 2 ^ d = G at *
    generalize 2 ^ d = g at *
    omega
theorem ar1' {D n x c : Nat} (hc : 1 ≤ c) (h : n * (4 * c) ≤ D) (k : x * (4 * c) ≤ (2 * D + n) * (4 * c + 1)) : x * c ≤ 2 * D * (c + 1) := by
  rw [Nat.mul_left_comm] at h k
  rw [Nat.mul_add, Nat.add_mul, Nat.mul_left_comm (2 * D), Nat.mul_left_comm n, Nat.mul_one, Nat.mul_assoc 2 D] at k
  rw [Nat.mul_add, Nat.mul_one, Nat.mul_assoc 2 D c]
  have : n * 1 ≤ n * c := Nat.mul_le_mul_left _ hc
  omega
theorem ar2' {D n x c : Nat} (hc : 1 ≤ c) (h : n * (4 * c) ≤ D) (k : (2 * D - n) * (4 * c - 1) ≤ x * (4 * c)) : 2 * D * (c - 1) ≤ x * c := by
  obtain ⟨c', rfl⟩ : ∃ c', c = c' + 1 := ⟨c - 1, by omega⟩
  have hn : n ≤ D := Nat.le_trans (Nat.le_mul_of_pos_right n (by omega)) h
  obtain ⟨E, hE⟩ : ∃ E, 2 * D = E + n := ⟨2 * D - n, by omega⟩
  rw [hE, Nat.add_sub_cancel, show 4 * (c' + 1) - 1 = 4 * c' + 3 by omega] at k
  rw [hE, Nat.add_sub_cancel]
  rw [Nat.mul_left_comm] at h
  rw [Nat.mul_left_comm x, Nat.mul_add E, Nat.mul_left_comm E, Nat.mul_add x, Nat.mul_one] at k
  rw [Nat.mul_add x, Nat.mul_one, Nat.add_mul]
  rw [Nat.mul_add n, Nat.mul_one] at h
  omega
theorem ar1 {D n x : Nat} (h : n * 2 ^ 53 ≤ D) (k : x * 2 ^ 53 ≤ (2 * D + n) * (2 ^ 53 + 1)) : x * 2 ^ 51 ≤ 2 * D * (2 ^ 51 + 1) := ar1' (by decide) h k
theorem ar2 {D n x : Nat} (h : n * 2 ^ 53 ≤ D) (k : (2 * D - n) * (2 ^ 53 - 1) ≤ x * 2 ^ 53) : 2 * D * (2 ^ 51 - 1) ≤ x * 2 ^ 51 := ar2' (by decide) h k
theorem ar3 {m a b B C W : Nat} (hb : b = 2 * a) (hW : W = b * C) : 2 * (m * a) * (B * C) = m * B * W := by subst hb hW; ac_rfl
theorem ar5 {R y c d G n U W D x : Nat} (hu : 0 < W) (hG : R * y * W = G * n * U) (hX : 2 * D * U = x * W * W) (k : G * n * c ≤ 2 * D * d) : R * y * c ≤ x * d * W := by
  apply Nat.le_of_mul_le_mul_right _ hu
  calc R * y * c * W = R * y * W * c := by ac_rfl
    _ = G * n * c * U := by rw [hG]; ac_rfl
    _ ≤ 2 * D * d * U := Nat.mul_le_mul_right _ k
    _ = 2 * D * U * d := by ac_rfl
    _ = x * W * W * d := by rw [hX]
    _ = x * d * W * W := by ac_rfl
theorem ar6 {R y c d G n U W D x : Nat} (hu : 0 < W) (hG : R * y * W = G * n * U) (hX : 2 * D * U = x * W * W) (k : 2 * D * d ≤ G * n * c) : x * d * W ≤ R * y * c := by
  apply Nat.le_of_mul_le_mul_right _ hu
  calc x * d * W * W = x * W * W * d := by ac_rfl
    _ = 2 * D * U * d := by rw [hX]
    _ = 2 * D * d * U := by ac_rfl
    _ ≤ G * n * c * U := Nat.mul_le_mul_right _ k
    _ = G * n * U * c := by ac_rfl
    _ = R * y * W * c := by rw [hG]
    _ = R * y * c * W := by ac_rfl
theorem ar4 {D n r Q st : Nat} (hD : n * Q + r = D) (hr : r < n) (hst : st = 0 ∧ r = 0 ∨ st = 1 ∧ r ≠ 0) : (2 * Q + st) * n ≤ 2 * D + n ∧ 2 * D ≤ (2 * Q + st) * n + n := by
  rw [Nat.add_mul, Nat.mul_assoc, Nat.mul_comm Q n]
  rcases hst with ⟨h, h'⟩ | ⟨h, h'⟩
  · rw [h, Nat.zero_mul]; omega
  · rw [h, Nat.one_mul]; omega
/-- A quotient is near: to one part in 2 ^ 51. -/
theorem quo_near {x y : Nat} (hx : x ≠ 0) (hy : y ≠ 0) (hx' : x < 4294967296) (hy' : y < 4294967296) : ∃ R : Nat, Wr (fAr .quo (floatOfInt .f64 (x : Int)) (floatOfInt .f64 (y : Int))) false R ∧ R * y * 2 ^ 51 ≤ x * (2 ^ 51 + 1) * 2 ^ e74 ∧ x * (2 ^ 51 - 1) * 2 ^ e74 ≤ R * y * 2 ^ 51 := by
  obtain ⟨m, p, e, h1, hm1, hm2, hp1, hp2⟩ := toN (n := x) hx (by omega)
  obtain ⟨n, q, f, h2, hn1, hn2, hq1, hq2⟩ := toN (n := y) hy (by omega)
  rw [quo_eq e f hm1 hm2 hn1 hn2]
  have hn0 : 0 < n := by omega
  obtain ⟨D, hDD⟩ : ∃ D, m * 2 ^ 54 = D := ⟨_, rfl⟩
  rw [hDD]
  have hD := Nat.div_add_mod D n
  have hr := Nat.mod_lt D hn0
  have hQ1 : 2 ^ 53 ≤ D / n := (Nat.le_div_iff_mul_le hn0).2 (by omega)
  have hQ2 : D / n < 2 ^ 55 := (Nat.div_lt_iff_lt_mul hn0).2 (by omega)
  have hst : (D % n != 0).toNat = 0 ∧ D % n = 0 ∨ (D % n != 0).toNat = 1 ∧ D % n ≠ 0 := by
    by_cases h : D % n = 0
    · exact .inl ⟨by rw [h]; rfl, h⟩
    · exact .inr ⟨by rw [bne_iff_ne.2 h]; rfl, h⟩
  obtain ⟨st, hst'⟩ : ∃ st, (D % n != 0).toNat = st := ⟨_, rfl⟩
  obtain ⟨Q, hQQ⟩ : ∃ Q, D / n = Q := ⟨_, rfl⟩
  obtain ⟨r, hRR⟩ : ∃ r, D % n = r := ⟨_, rfl⟩
  rw [hst'] at hst ⊢
  rw [hQQ] at hQ1 hQ2 hD ⊢
  rw [hRR] at hst hr hD
  have hs1 : st ≤ 1 := by rcases hst with h | h <;> omega
  obtain ⟨G, g1, g2, g3, g4, g5, g6⟩ := nearest_near (mag := 2 * Q + st) (place := p - q - 54 - 1) (by omega) (by omega) (by omega) (by omega)
  refine ⟨_, ⟨g1, g2, rfl, g6⟩, ?_⟩
  rw [g3]
  -- the whole number times n is near to twice D
  have hmn := ar4 hD hr hst
  have hnD : n * 2 ^ 53 ≤ D := by
    have : n * 2 ^ 53 ≤ n * Q := Nat.mul_le_mul_left _ hQ1
    exact Nat.le_trans this (by rw [← hD]; exact Nat.le_add_right _ _)
  have k1 : G * n * 2 ^ 53 ≤ (2 * D + n) * (2 ^ 53 + 1) := by
    calc G * n * 2 ^ 53 = G * 2 ^ 53 * n := by rw [Nat.mul_assoc, Nat.mul_comm n, ← Nat.mul_assoc]
      _ ≤ (2 * Q + st) * (2 ^ 53 + 1) * n := Nat.mul_le_mul_right _ g4
      _ = (2 * Q + st) * n * (2 ^ 53 + 1) := by rw [Nat.mul_assoc, Nat.mul_comm _ n, ← Nat.mul_assoc]
      _ ≤ _ := Nat.mul_le_mul_right _ hmn.1
  have k2 : (2 * D - n) * (2 ^ 53 - 1) ≤ G * n * 2 ^ 53 := by
    calc (2 * D - n) * (2 ^ 53 - 1) ≤ (2 * Q + st) * n * (2 ^ 53 - 1) := Nat.mul_le_mul_right _ (by omega)
      _ = (2 * Q + st) * (2 ^ 53 - 1) * n := by rw [Nat.mul_assoc, Nat.mul_comm n, ← Nat.mul_assoc]
      _ ≤ G * 2 ^ 53 * n := Nat.mul_le_mul_right _ g5
      _ = _ := by rw [Nat.mul_assoc, Nat.mul_comm _ n, ← Nat.mul_assoc]
  have hGR : ∀ R : Nat, R = G * 2 ^ (p - q - 54 - 1 + 1074).toNat → R * y * 2 ^ e74 = G * n * 2 ^ ((p + 1074).toNat + (e74 - 55)) := by
    intro R hR
    calc R * y * 2 ^ e74 = G * 2 ^ (p - q - 54 - 1 + 1074).toNat * (n * 2 ^ (q + 1074).toNat) := by rw [Nat.mul_assoc, h2, hR]
      _ = G * n * (2 ^ (p - q - 54 - 1 + 1074).toNat * 2 ^ (q + 1074).toNat) := Nat.mul_mul_mul_comm _ _ _ _
      _ = _ := by rw [← Nat.pow_add]; congr 2; have := e74_eq; omega
  have k3 := ar1 hnD k1
  have k4 := ar2 hnD k2
  -- into the unit
  have hG := hGR _ rfl
  have hX : 2 * D * 2 ^ ((p + 1074).toNat + (e74 - 55)) = x * 2 ^ e74 * 2 ^ e74 := by
    rw [← hDD, ← h1, Nat.pow_add]
    exact ar3 (b := 2 ^ 55) (by decide) (by rw [← Nat.pow_add, show 55 + (e74 - 55) = e74 by decide])
  exact ⟨ar5 (Nat.two_pow_pos e74) hG hX k3, ar6 (Nat.two_pow_pos e74) hG hX k4⟩
end Go.Fl
set_option linter.unusedSimpArgs false
set_option linter.unusedVariables false
open Go Go.IL Go.Fl
namespace Go.Fn

/-! The gauge, plainly. -/
theorem isnan_eq (a : Nat) : math_IsNaN a = some (isNan a) := by unfold math_IsNaN; simp only [bnd_d, neq_self]
theorem nan_eq (a : Nat) : sennitref27_nan a = some (isNan a) := by unfold sennitref27_nan; simp only [bnd_d, neq_self]
theorem rung_lt (a : Nat) : rung a < 9223372036854775808 := Nat.mod_lt _ (by decide)
def kindOf (a : Nat) : Int := if isNan a then 0 else if rung a = INF then (if sgn a then 1 else 6) else if rung a = 0 then (if sgn a then 3 else 4) else (if sgn a then 2 else 5)
def cmpOf (a b : Nat) : Int := if isNan a then (if isNan b then 0 else -1) else if isNan b then 1 else if K a < K b then -1 else if K b < K a then 1 else 0
theorem compare_eq (a b : Nat) : gauge_Compare a b = some (cmpOf a b) := by
  unfold gauge_Compare gauge_Compare_J0 cmpOf
  simp only [isnan_eq, bnd_d, bno_s, gd]
  cases ha : isNan a with
  | true =>
    rw [cmp_nan1 ha]
    simp only [cmp_nan1 ha]
    cases hb : isNan b <;> simp [bno_s]
  | false =>
    cases hb : isNan b with
    | true => simp [bno_s, bnd_d, gd, cmp_nan2 hb]
    | false =>
      rw [lss_K ha hb, gtr_K ha hb]
      by_cases h1 : K a < K b
      · simp [bno_s, bnd_d, gd, h1]
      · by_cases h2 : K b < K a <;> simp [bno_s, bnd_d, gd, h1, h2]
theorem refcompare_eq (a b : Nat) : sennitref27_Compare a b = some (cmpOf a b) := by
  unfold sennitref27_Compare cmpOf
  simp only [nan_eq, bnd_d, bno_s, gd]
  cases ha : isNan a with
  | true => cases hb : isNan b <;> simp [bno_s]
  | false =>
    cases hb : isNan b with
    | true => simp [bno_s, bnd_d, gd, cmp_nan2 hb]
    | false =>
      rw [lss_K ha hb, gtr_K ha hb]
      by_cases h1 : K a < K b
      · simp [bno_s, bnd_d, gd, h1]
      · by_cases h2 : K b < K a <;> simp [bno_s, bnd_d, gd, h1, h2]
end Go.Fn
set_option linter.unusedSimpArgs false
set_option linter.unusedVariables false
open Go Go.IL Go.Fl
namespace Go.Fn

/-- GaugeRates. -/
theorem toF0 : floatOfInt .f64 0 = 0 := by decide +kernel
theorem quo00 : fAr .quo 0 0 = fnan .f64 := by decide +kernel
theorem word_rung {a : Nat} {s : Bool} (h : rung a = INF ∧ sgn a = s) : isNan a = false ∧ kindOf a = if s then 1 else 6 := by
  have hn : isNan a = false := by rw [nan_iff, h.1]; decide
  refine ⟨hn, ?_⟩
  unfold kindOf
  rw [hn, if_pos h.1, h.2]; simp
theorem toF_sgn {n : Int} (h : n.natAbs < 1125899906842624) (h0 : n ≠ 0) : ∃ m p, Ieee.double.read (floatOfInt .f64 n) = .number (decide (n < 0)) m p ∧ m ≠ 0 := by
  have h8 := toF8 h
  obtain ⟨m, p, e, _, h1, _, hv⟩ := h8.read
  have hs : sgn (floatOfInt .f64 n) = decide (n < 0) := by
    have := h8.sg
    unfold sg at this
    by_cases hn : n < 0
    · rw [decide_eq_true hn]
      cases hc : sgn (floatOfInt .f64 n) with
      | true => rfl
      | false => rw [hc] at this; simp at this; omega
    · rw [decide_eq_false hn]
      cases hc : sgn (floatOfInt .f64 n) with
      | false => rfl
      | true => rw [hc] at this; simp at this; omega
  refine ⟨m, p, by rw [e, hs], ?_⟩
  rintro rfl
  rw [Nat.zero_mul] at h1
  exact Nat.mul_ne_zero (show (8 * n).natAbs ≠ 0 by omega) (Nat.ne_of_gt (Nat.two_pow_pos _)) h1.symm
theorem quo_x0 {y : Nat} (hy : y ≠ 0) (h : y < 1125899906842624) : fAr .quo (floatOfInt .f64 0) (floatOfInt .f64 (y : Int)) = 0 := by
  obtain ⟨m, p, e, h1, hm1, _⟩ := toN hy h
  rw [toF0]; exact quo_zero e (by omega)
end Go.Fn
set_option linter.unusedSimpArgs false
set_option linter.unusedVariables false
open Go Go.IL Go.Fl
namespace Go.Fn

/-! The stable sort, plainly. -/
def dg (D : List Int) (k : Nat) : Int := D.getD k 0
theorem dg_some {D : List Int} {k : Nat} (h : k < D.length) : D[k]? = some (dg D k) := by
  unfold dg; rw [List.getElem?_eq_getElem h, List.getD_eq_getElem?_getD, List.getElem?_eq_getElem h]; rfl
theorem dg_set {D : List Int} {i : Nat} (h : i < D.length) (k : Nat) (u : Int) : dg (D.set i u) k = if k = i then u else dg D k := by
  unfold dg
  rw [List.getD_eq_getElem?_getD, List.getD_eq_getElem?_getD, List.getElem?_set]
  by_cases hk : i = k
  · subst hk; simp [h]
  · rw [if_neg hk, if_neg (fun e => hk e.symm)]
theorem gix_dg {D : List Int} {k : Nat} (h : k < D.length) : gix D (k : Int) = some (dg D k) := by rw [gix_nat, dg_some h]
theorem get_dg {D : List Int} {k : Nat} (h : k < D.length) : D[((k : Nat) : Int).toNat]? = some (dg D k) := by rw [Int.toNat_natCast, dg_some h]
/-- The key of a number: none is less than all. -/
def kk (a : Nat) : Int := if isNan a then -18446744073709551616 else K a
theorem K_ge (a : Nat) : -9223372036854775808 < K a := by have := rung_lt a; unfold K; split <;> omega
theorem cmpOf_kk (a b : Nat) : cmpOf a b = if kk a < kk b then -1 else if kk b < kk a then 1 else 0 := by
  have h1 := K_ge a
  have h2 := K_ge b
  unfold cmpOf kk
  cases isNan a <;> cases isNan b <;> simp <;> (repeat' split) <;> first | rfl | omega
def wk (l : List Nat) (i : Int) : Int := kk (l.getD i.toNat 0)
theorem order1_eq {l : List Nat} {i j : Int} (hi : 0 ≤ i ∧ i < l.length) (hj : 0 ≤ j ∧ j < l.length) : ∃ c, gauge_Order_1 i j l = some c ∧ (decide (c < 0) = decide (wk l j < wk l i)) := by
  unfold gauge_Order_1
  rw [gix_lit l hj.1, gix_lit l hi.1, List.getElem?_eq_getElem (by omega), List.getElem?_eq_getElem (by omega), bnoS, bnoS, compare_eq, bnoS]
  refine ⟨_, rfl, ?_⟩
  rw [cmpOf_kk]
  have e1 : wk l j = kk l[j.toNat] := by unfold wk; rw [List.getD_eq_getElem?_getD, List.getElem?_eq_getElem (by omega)]; rfl
  have e2 : wk l i = kk l[i.toNat] := by unfold wk; rw [List.getD_eq_getElem?_getD, List.getElem?_eq_getElem (by omega)]; rfl
  rw [e1, e2]
  by_cases h : kk l[j.toNat] < kk l[i.toNat]
  · rw [if_pos h]; simp [h]
  · rw [if_neg h]; split <;> simp [h]
/-- Who stands ahead of whom. -/
def R (l : List Nat) (i j : Int) : Prop := wk l j < wk l i ∨ (wk l i = wk l j ∧ i < j)
def Srt (l : List Nat) (D : List Int) (a b : Nat) : Prop := ∀ i j, a ≤ i → i < j → j < b → R l (dg D i) (dg D j)
/-- All are places in the list. -/
def Rng (l : List Nat) (D : List Int) : Prop := ∀ k, k < D.length → 0 ≤ dg D k ∧ dg D k < l.length

/-! Insertion. -/
structure InsInv (l : List Nat) (D0 D : List Int) (a i j : Nat) : Prop where
  len : D.length = D0.length
  aj : a ≤ j
  ji : j ≤ i
  lo : ∀ k, k < j → dg D k = dg D0 k
  at' : dg D j = dg D0 i
  mid : ∀ k, j < k → k ≤ i → dg D k = dg D0 (k - 1) ∧ wk l (dg D0 (k - 1)) < wk l (dg D0 i)
  hi : ∀ k, i < k → dg D k = dg D0 k
theorem ins_in {l : List Nat} {a i : Nat} {kk0 : List Int → Int → Option (List Int)} {D0 : List Int} (hi : i < D0.length) (hlen : D0.length ≤ 1000) (hr : Rng l D0) (hs : Srt l D0 a i) (hx : ∀ k, a ≤ k → k < i → dg D0 k < dg D0 i) :
    ∀ (n : Nat) (D : List Int) (j : Nat), j - a < n → InsInv l D0 D a i j → ∃ D' j', InsInv l D0 D' a i j' ∧ (a < j' → wk l (dg D0 i) ≤ wk l (dg D0 (j' - 1))) ∧ slices_insertionSortCmpFunc_int_h_Order_1_L1 (a : Int) l (i : Int) kk0 n D (j : Int) = kk0 D' ((i + 1 : Nat) : Int) := by
  intro n
  induction n with
  | zero => intro D j h; omega
  | succ n ih =>
    intro D j hn hI
    obtain ⟨h1, h2, h3, h4, h5, h6, h7⟩ := hI
    have hjl : j < D.length := by omega
    have wi : IntKind.wrap .i64 ((i : Int) + 1) = ((i + 1 : Nat) : Int) := by rw [w64 (by omega) (by omega)]; omega
    unfold slices_insertionSortCmpFunc_int_h_Order_1_L1
    by_cases haj : a < j
    · have wj : IntKind.wrap .i64 ((j : Int) - 1) = ((j - 1 : Nat) : Int) := by rw [w64 (by omega) (by omega)]; omega
      have hj1 : j - 1 < D.length := by omega
      have r1 := hr i hi
      have r2 := hr (j - 1) (by omega)
      obtain ⟨c, hc, hd⟩ := order1_eq (l := l) (i := dg D j) (j := dg D (j - 1)) (by rw [h5]; exact r1) (by rw [h4 _ (by omega)]; exact r2)
      simp only [bndD, decide_eq_true (show ((a : Nat) : Int) < (j : Int) by omega), beq_self_eq_true, gdtt, gix_dg hjl, get_dg hjl, bnoS, wj, gix_dg hj1, get_dg hj1, hc, hd, Bool.true_and]
      rw [h5, h4 _ (by omega : j - 1 < j)]
      by_cases hw : wk l (dg D0 (j - 1)) < wk l (dg D0 i)
      · rw [decide_eq_true hw, cond_true]
        have e1 : (D.set j (dg D0 (j - 1))).length = D.length := List.length_set
        simp only [Int.toNat_natCast]
        rw [gix_dg (D := D.set j (dg D0 (j - 1))) (by rw [e1]; exact hj1), bnoS, dg_some (D := D.set j (dg D0 (j - 1))) (by rw [e1]; exact hj1), bnoS]
        refine ih _ (j - 1) (by omega) ⟨by simp [h1], by omega, by omega, ?_, ?_, ?_, ?_⟩
        · intro k hk
          rw [dg_set (by rw [e1]; exact hj1), dg_set hjl, if_neg (by omega), if_neg (by omega)]; exact h4 k (by omega)
        · rw [dg_set (by rw [e1]; exact hj1), if_pos rfl]
        · intro k hk1 hk2
          rw [dg_set (by rw [e1]; exact hj1), dg_set hjl, if_neg (by omega)]
          by_cases hkj : k = j
          · subst hkj; rw [if_pos rfl]; exact ⟨rfl, hw⟩
          · rw [if_neg hkj]; exact h6 k (by omega) hk2
        · intro k hk
          rw [dg_set (by rw [e1]; exact hj1), dg_set hjl, if_neg (by omega), if_neg (by omega)]; exact h7 k hk
      · rw [decide_eq_false hw, cond_false, wi]
        exact ⟨D, j, ⟨h1, h2, h3, h4, h5, h6, h7⟩, fun _ => by omega, rfl⟩
    · have hja : j = a := by omega
      have ff : (false == true) = false := rfl
      simp only [bndD, decide_eq_false (show ¬ ((a : Nat) : Int) < (j : Int) by omega), ff, gdff, bnoS, Bool.false_and, cond_false, wi]
      exact ⟨D, j, ⟨h1, h2, h3, h4, h5, h6, h7⟩, fun h => by omega, rfl⟩
theorem ins_srt {l : List Nat} {D0 D : List Int} {a i j : Nat} (hI : InsInv l D0 D a i j) (hs : Srt l D0 a i) (hx : ∀ k, a ≤ k → k < i → dg D0 k < dg D0 i) (hj : a < j → wk l (dg D0 i) ≤ wk l (dg D0 (j - 1))) : Srt l D a (i + 1) := by
  obtain ⟨h1, h2, h3, h4, h5, h6, h7⟩ := hI
  have low : ∀ k, a ≤ k → k < j → wk l (dg D0 i) ≤ wk l (dg D0 k) := by
    intro k hk1 hk2
    have h8 := hj (by omega)
    by_cases hk : k = j - 1
    · rw [hk]; exact h8
    · have := hs k (j - 1) hk1 (by omega) (by omega)
      unfold R at this; omega
  intro p q hp hpq hq
  unfold R
  by_cases c1 : q < j
  · rw [h4 p (by omega), h4 q c1]; exact hs p q hp hpq (by omega)
  · by_cases c2 : q = j
    · subst c2
      rw [h5, h4 p (by omega)]
      have := low p hp (by omega)
      have := hx p hp (by omega)
      omega
    · have hq6 := h6 q (by omega) (by omega)
      rw [hq6.1]
      by_cases c3 : p < j
      · rw [h4 p c3]
        by_cases c4 : p = q - 1
        · omega
        · exact hs p (q - 1) hp (by omega) (by omega)
      · by_cases c4 : p = j
        · subst c4; rw [h5]; left; exact hq6.2
        · have hp6 := h6 p (by omega) (by omega)
          rw [hp6.1]; exact hs (p - 1) (q - 1) (by omega) (by omega) (by omega)
/-- A block: in order, and of its own places. -/
def Blk (l : List Nat) (D : List Int) (a b : Nat) : Prop := Srt l D a b ∧ ∀ k, a ≤ k → k < b → (a : Int) ≤ dg D k ∧ dg D k < b
theorem ins_out {l : List Nat} {a b : Nat} (hlen : b ≤ 1000) : ∀ (n i : Nat) (D : List Int), D.length ≤ 1000 → b ≤ D.length → b - i < n → a < i → i ≤ b → Rng l D → Blk l D a i → (∀ k, i ≤ k → k < b → dg D k = k) →
    ∃ D', slices_insertionSortCmpFunc_int_h_Order_1_L0 (a : Int) (b : Int) l n D (i : Int) = some D' ∧ D'.length = D.length ∧ Blk l D' a b ∧ (∀ k, k < a ∨ b ≤ k → dg D' k = dg D k) ∧ Rng l D' := by
  intro n
  induction n with
  | zero => intro i D _ _ h; omega
  | succ n ih =>
    intro i D hD hbD hn hai hib hr hb hid
    unfold slices_insertionSortCmpFunc_int_h_Order_1_L0
    by_cases hi : i < b
    · have hx : ∀ k, a ≤ k → k < i → dg D k < dg D i := by
        intro k hk1 hk2; rw [hid i (Nat.le_refl _) hi]; exact (hb.2 k hk1 hk2).2
      obtain ⟨D', j, hI, hj, he⟩ := ins_in (kk0 := slices_insertionSortCmpFunc_int_h_Order_1_L0 (a : Int) (b : Int) l n) (by omega : i < D.length) hD hr hb.1 hx fuel D i (fuel_gt (by omega)) ⟨rfl, by omega, Nat.le_refl _, fun _ _ => rfl, rfl, fun k h1 h2 => by omega, fun _ _ => rfl⟩
      have hsrt := ins_srt hI hb.1 hx hj
      obtain ⟨h1, h2, h3, h4, h5, h6, h7⟩ := hI
      have hval : ∀ k, a ≤ k → k ≤ i → ∃ k', a ≤ k' ∧ k' ≤ i ∧ dg D' k = dg D k' := by
        intro k hk1 hk2
        by_cases c1 : k < j
        · exact ⟨k, hk1, hk2, h4 k c1⟩
        · by_cases c2 : k = j
          · subst c2; exact ⟨i, by omega, Nat.le_refl _, h5⟩
          · exact ⟨k - 1, by omega, by omega, (h6 k (by omega) hk2).1⟩
      have hblk : Blk l D' a (i + 1) := ⟨hsrt, fun k hk1 hk2 => by
        obtain ⟨k', e1, e2, e3⟩ := hval k hk1 (by omega)
        rw [e3]
        by_cases c : k' = i
        · rw [c, hid i (Nat.le_refl _) hi]; omega
        · have := hb.2 k' e1 (by omega); omega⟩
      have hrng : Rng l D' := by
        intro k hk
        by_cases c1 : k < j
        · rw [h4 k c1]; exact hr k (by omega)
        · by_cases c2 : k = j
          · subst c2; rw [h5]; exact hr i (by omega)
          · by_cases c3 : k ≤ i
            · rw [(h6 k (by omega) c3).1]; exact hr (k - 1) (by omega)
            · rw [h7 k (by omega)]; exact hr k (by omega)
      obtain ⟨D2, e1, e2, e3, e4, e5⟩ := ih (i + 1) D' (by omega) (by omega) (by omega) (by omega) (by omega) hrng hblk (fun k hk1 hk2 => by rw [h7 k (by omega)]; exact hid k (by omega) hk2)
      refine ⟨D2, ?_, by omega, e3, fun k hk => ?_, e5⟩
      · simp only [bndD, decide_eq_true (show (i : Int) < (b : Int) by omega), cond_true]
        rw [he]; exact e1
      · rw [e4 k hk]
        rcases hk with hk | hk
        · exact h4 k (by omega)
        · exact h7 k (by omega)
    · have : i = b := by omega
      subst this
      simp only [bndD, decide_eq_false (show ¬ (i : Int) < (i : Int) by omega), cond_false]
      exact ⟨D, rfl, rfl, hb, fun _ _ => rfl, hr⟩
theorem ins_eq {l : List Nat} {a b : Nat} {D : List Int} (hD : D.length ≤ 1000) (hab : a < b) (hb : b ≤ D.length) (hr : Rng l D) (hid : ∀ k, a ≤ k → k < b → dg D k = k) :
    ∃ D', slices_insertionSortCmpFunc_int_h_Order_1 (a : Int) (b : Int) D l = some D' ∧ D'.length = D.length ∧ Blk l D' a b ∧ (∀ k, k < a ∨ b ≤ k → dg D' k = dg D k) ∧ Rng l D' := by
  unfold slices_insertionSortCmpFunc_int_h_Order_1
  have e : IntKind.wrap .i64 ((a : Int) + 1) = ((a + 1 : Nat) : Int) := by rw [w64 (by omega) (by omega)]; omega
  simp only [bndD, e]
  refine ins_out (by omega) fuel (a + 1) D hD hb (fuel_gt (by omega)) (by omega) (by omega) hr ⟨fun i j h1 h2 h3 => by omega, fun k h1 h2 => ?_⟩ (fun k h1 h2 => hid k (by omega) h2)
  have : k = a := by omega
  subst this; rw [hid k h1 hab]; omega

/-! Rotation. -/
theorem swap_in {p q : Nat} {c : Nat} {D0 : List Int} (hD : D0.length ≤ 1000) (hpq : p + c ≤ q) (hq : q + c ≤ D0.length) : ∀ (n i : Nat) (D : List Int), c - i < n → i ≤ c → D.length = D0.length → (∀ k, dg D k = if p ≤ k ∧ k < p + i then dg D0 (k - p + q) else if q ≤ k ∧ k < q + i then dg D0 (k - q + p) else dg D0 k) →
    ∃ D', slices_swapRangeCmpFunc_int_h_Order_1_L0 (p : Int) (q : Int) (c : Int) n D (i : Int) = some D' ∧ D'.length = D0.length ∧ ∀ k, dg D' k = if p ≤ k ∧ k < p + c then dg D0 (k - p + q) else if q ≤ k ∧ k < q + c then dg D0 (k - q + p) else dg D0 k := by
  intro n
  induction n with
  | zero => intro i D h; omega
  | succ n ih =>
    intro i D hn hic hl hk
    unfold slices_swapRangeCmpFunc_int_h_Order_1_L0
    by_cases hi : i < c
    · have w1 : IntKind.wrap .i64 ((p : Int) + (i : Int)) = ((p + i : Nat) : Int) := by rw [w64 (by omega) (by omega)]; omega
      have w2 : IntKind.wrap .i64 ((q : Int) + (i : Int)) = ((q + i : Nat) : Int) := by rw [w64 (by omega) (by omega)]; omega
      have w3 : IntKind.wrap .i64 ((i : Int) + 1) = ((i + 1 : Nat) : Int) := by rw [w64 (by omega) (by omega)]; omega
      have h1 : p + i < D.length := by omega
      have h2 : q + i < D.length := by omega
      have e1 : ∀ u, (D.set (p + i) u).length = D.length := fun u => List.length_set
      simp only [bndD, decide_eq_true (show (i : Int) < (c : Int) by omega), cond_true, w1, w2, w3, gix_dg h1, gix_dg h2, get_dg h1, get_dg h2, bnoS, Int.toNat_natCast, dg_some h1, dg_some h2]
      rw [gix_dg (D := D.set (p + i) (dg D (q + i))) (by rw [e1]; exact h2), bnoS, dg_some (D := D.set (p + i) (dg D (q + i))) (by rw [e1]; exact h2), bnoS]
      refine ih (i + 1) _ (by omega) (by omega) (by simp [hl]) fun k => ?_
      rw [dg_set (by rw [e1]; exact h2), dg_set h1]
      simp only [hk]
      (repeat' split) <;> first | rfl | (congr 1; omega) | (exfalso; omega)
    · have : i = c := by omega
      subst this
      simp only [bndD, decide_eq_false (show ¬ (i : Int) < (i : Int) by omega), cond_false]
      exact ⟨D, rfl, hl, hk⟩
theorem swap_eq {p q c : Nat} {D : List Int} {l : List Nat} (hD : D.length ≤ 1000) (hpq : p + c ≤ q) (hq : q + c ≤ D.length) :
    ∃ D', slices_swapRangeCmpFunc_int_h_Order_1 (p : Int) (q : Int) (c : Int) D l = some D' ∧ D'.length = D.length ∧ ∀ k, dg D' k = if p ≤ k ∧ k < p + c then dg D (k - p + q) else if q ≤ k ∧ k < q + c then dg D (k - q + p) else dg D k := by
  unfold slices_swapRangeCmpFunc_int_h_Order_1
  exact swap_in hD hpq hq fuel 0 D (fuel_gt (by omega)) (by omega) rfl (fun k => by rw [if_neg (by omega), if_neg (by omega)])
/-- What a rotation of [a, m) and [m, b) leaves. -/
def rot (D : List Int) (a m b k : Nat) : Int := if a ≤ k ∧ k < a + (b - m) then dg D (k + (m - a)) else if a + (b - m) ≤ k ∧ k < b then dg D (k - (b - m)) else dg D k
theorem rot_in {l : List Nat} {m : Nat} : ∀ (n i j : Nat) (D : List Int), i + j < n → 0 < i → 0 < j → i ≤ m → m + j ≤ D.length → D.length ≤ 1000 →
    ∃ D', slices_rotateCmpFunc_int_h_Order_1_L0 (m : Int) l n D (i : Int) (j : Int) = some D' ∧ D'.length = D.length ∧ ∀ k, dg D' k = rot D (m - i) m (m + j) k := by
  intro n
  induction n with
  | zero => intro i j D h; omega
  | succ n ih =>
    intro i j D hn hi hj him hmj hD
    have wmi : IntKind.wrap .i64 ((m : Int) - (i : Int)) = ((m - i : Nat) : Int) := by rw [w64 (by omega) (by omega)]; omega
    unfold slices_rotateCmpFunc_int_h_Order_1_L0
    by_cases hij : i = j
    · subst hij
      obtain ⟨D', e1, e2, e3⟩ := swap_eq (p := m - i) (q := m) (c := i) (D := D) (l := l) hD (by omega) (by omega)
      simp only [bndD, decide_true, Bool.not_true, cond_false, wmi, e1, bnoS, chk_t e2]
      refine ⟨D', rfl, e2, fun k => ?_⟩
      rw [e3]; unfold rot
      (repeat' split) <;> first | rfl | (congr 1; omega) | (exfalso; omega)
    · simp only [bndD, decide_eq_false (show ¬ (i : Int) = (j : Int) by omega), Bool.not_false, cond_true]
      by_cases hlt : j < i
      · have w1 : IntKind.wrap .i64 ((i : Int) - (j : Int)) = ((i - j : Nat) : Int) := by rw [w64 (by omega) (by omega)]; omega
        obtain ⟨D1, e1, e2, e3⟩ := swap_eq (p := m - i) (q := m) (c := j) (D := D) (l := l) hD (by omega) (by omega)
        simp only [decide_eq_true (show (j : Int) < (i : Int) by omega), cond_true, wmi, e1, bnoS, chk_t e2, w1]
        obtain ⟨D2, f1, f2, f3⟩ := ih (i - j) j D1 (by omega) (by omega) hj (by omega) (by omega) (by omega)
        refine ⟨D2, f1, by omega, fun k => ?_⟩
        rw [f3]; unfold rot
        simp only [e3]
        (repeat' split) <;> first | rfl | (congr 1; omega) | (exfalso; omega)
      · have w1 : IntKind.wrap .i64 ((j : Int) - (i : Int)) = ((j - i : Nat) : Int) := by rw [w64 (by omega) (by omega)]; omega
        have w2 : IntKind.wrap .i64 ((m : Int) + (j : Int)) = ((m + j : Nat) : Int) := by rw [w64 (by omega) (by omega)]; omega
        have w3 : IntKind.wrap .i64 (((m + j : Nat) : Int) - (i : Int)) = ((m + j - i : Nat) : Int) := by rw [w64 (by omega) (by omega)]; omega
        obtain ⟨D1, e1, e2, e3⟩ := swap_eq (p := m - i) (q := m + j - i) (c := i) (D := D) (l := l) hD (by omega) (by omega)
        simp only [decide_eq_false (show ¬ (j : Int) < (i : Int) by omega), cond_false, wmi, w2, w3, e1, bnoS, chk_t e2, w1]
        obtain ⟨D2, f1, f2, f3⟩ := ih i (j - i) D1 (by omega) hi (by omega) him (by omega) (by omega)
        refine ⟨D2, f1, by omega, fun k => ?_⟩
        rw [f3]; unfold rot
        simp only [e3]
        (repeat' split) <;> first | rfl | (congr 1; omega) | (exfalso; omega)
theorem rot_eq {l : List Nat} {a m b : Nat} {D : List Int} (hD : D.length ≤ 1000) (h1 : a < m) (h2 : m < b) (h3 : b ≤ D.length) :
    ∃ D', slices_rotateCmpFunc_int_h_Order_1 (a : Int) (m : Int) (b : Int) D l = some D' ∧ D'.length = D.length ∧ ∀ k, dg D' k = rot D a m b k := by
  unfold slices_rotateCmpFunc_int_h_Order_1
  have w1 : IntKind.wrap .i64 ((m : Int) - (a : Int)) = ((m - a : Nat) : Int) := by rw [w64 (by omega) (by omega)]; omega
  have w2 : IntKind.wrap .i64 ((b : Int) - (m : Int)) = ((b - m : Nat) : Int) := by rw [w64 (by omega) (by omega)]; omega
  simp only [bndD, w1, w2]
  obtain ⟨D', e1, e2, e3⟩ := rot_in (l := l) (m := m) fuel (m - a) (b - m) D (fuel_gt (by omega)) (by omega) (by omega) (by omega) (by omega) hD
  refine ⟨D', e1, e2, fun k => ?_⟩
  rw [e3, show m - (m - a) = a by omega, show m + (b - m) = b by omega]
end Go.Fn
set_option linter.unusedSimpArgs false
set_option linter.unusedVariables false
open Go Go.IL Go.Fl
namespace Go.Fn

/-! Merging in place. -/
structure Pre (l : List Nat) (D : List Int) (a m b : Nat) : Prop where
  am : a < m
  mb : m < b
  bl : b ≤ D.length
  few : D.length ≤ 1000
  rng : Rng l D
  lo : Srt l D a m
  hi : Srt l D m b
  less : ∀ i j, a ≤ i → i < m → m ≤ j → j < b → dg D i < dg D j
structure Post (l : List Nat) (D D' : List Int) (a b : Nat) : Prop where
  len : D'.length = D.length
  srt : Srt l D' a b
  out : ∀ k, k < a ∨ b ≤ k → dg D' k = dg D k
  mem : ∀ k, a ≤ k → k < b → ∃ k', a ≤ k' ∧ k' < b ∧ dg D' k = dg D k'
theorem half {x y : Nat} (h : x + y ≤ 4000) : IntKind.wrap .i64 ((x : Int) + (y : Int)) = ((x + y : Nat) : Int) ∧ IntKind.wrap .u64 ((x + y : Nat) : Int) = ((x + y : Nat) : Int) ∧ shrI .u64 ((x + y : Nat) : Int) 1 = some (((x + y) / 2 : Nat) : Int) ∧ IntKind.wrap .i64 (((x + y) / 2 : Nat) : Int) = (((x + y) / 2 : Nat) : Int) := by
  refine ⟨by rw [w64 (by omega) (by omega)]; omega, wU64 (by omega) (by omega), ?_, w64 (by omega) (by omega)⟩
  have := shr_ok (k := .u64) (a := ((x + y : Nat) : Int)) (n := 1) (by decide)
  rw [show ((1 : Nat) : Int) = 1 from rfl] at this
  rw [this]; congr 1
theorem wk_mono {l : List Nat} {D : List Int} {a b i j : Nat} (h : Srt l D a b) (hi : a ≤ i) (hij : i ≤ j) (hj : j < b) : wk l (dg D j) ≤ wk l (dg D i) := by
  by_cases e : i = j
  · subst e; omega
  · have := h i j hi (by omega) hj
    unfold R at this; omega

/-- One element ahead: where it goes. -/
theorem find0 {l : List Nat} {D : List Int} {a m b : Nat} (hm : m ≤ b) (hb : b ≤ D.length) (hf : D.length ≤ 1000) (hr : Rng l D) (ha : a < D.length) (hs : Srt l D m b) : ∀ (n i j : Nat), j - i < n → m ≤ i → i ≤ j → j ≤ b → (∀ k, m ≤ k → k < i → wk l (dg D a) < wk l (dg D k)) → (∀ k, j ≤ k → k < b → wk l (dg D k) ≤ wk l (dg D a)) →
    ∃ s, m ≤ s ∧ s ≤ b ∧ (∀ k, m ≤ k → k < s → wk l (dg D a) < wk l (dg D k)) ∧ (∀ k, s ≤ k → k < b → wk l (dg D k) ≤ wk l (dg D a)) ∧ slices_symMergeCmpFunc_int_h_Order_1_L0 (a : Int) D l n (i : Int) (j : Int) = slices_symMergeCmpFunc_int_h_Order_1_L1 (s : Int) fuel D (a : Int) := by
  intro n
  induction n with
  | zero => intro i j h; omega
  | succ n ih =>
    intro i j hn hi hij hj h1 h2
    unfold slices_symMergeCmpFunc_int_h_Order_1_L0
    by_cases c : i < j
    · obtain ⟨e1, e2, e3, e4⟩ := half (x := i) (y := j) (by omega)
      have hh : (i + j) / 2 < D.length := by omega
      have wh : IntKind.wrap .i64 ((((i + j) / 2 : Nat) : Int) + 1) = (((i + j) / 2 + 1 : Nat) : Int) := by rw [w64 (by omega) (by omega)]; omega
      obtain ⟨v, hv, hd⟩ := order1_eq (l := l) (i := dg D ((i + j) / 2)) (j := dg D a) (hr _ hh) (hr _ ha)
      simp only [bndD, decide_eq_true (show (i : Int) < (j : Int) by omega), cond_true, e1, e2, e3, e4, bnoS, gix_dg hh, get_dg hh, gix_dg ha, get_dg ha, hv, hd]
      by_cases hw : wk l (dg D a) < wk l (dg D ((i + j) / 2))
      · rw [decide_eq_true hw, cond_true, wh]
        refine ih _ j (by omega) (by omega) (by omega) hj (fun k hk1 hk2 => ?_) h2
        have := wk_mono hs hk1 (show k ≤ (i + j) / 2 by omega) (by omega)
        omega
      · rw [decide_eq_false hw, cond_false]
        refine ih i _ (by omega) hi (by omega) (by omega) h1 (fun k hk1 hk2 => ?_)
        have := wk_mono hs (show m ≤ (i + j) / 2 by omega) hk1 hk2
        omega
    · have : i = j := by omega
      subst this
      simp only [bndD, decide_eq_false (show ¬ (i : Int) < (i : Int) by omega), cond_false]
      exact ⟨i, hi, hj, h1, h2, rfl⟩
theorem shift_up {D0 : List Int} {a s : Nat} (hs : s ≤ D0.length) (hf : D0.length ≤ 1000) (has : a < s) : ∀ (n k : Nat) (D : List Int), s - k < n → a ≤ k → k < s → D.length = D0.length → (∀ p, dg D p = if a ≤ p ∧ p < k then dg D0 (p + 1) else if p = k then dg D0 a else dg D0 p) →
    ∃ D', slices_symMergeCmpFunc_int_h_Order_1_L1 (s : Int) n D (k : Int) = some D' ∧ D'.length = D0.length ∧ ∀ p, dg D' p = if a ≤ p ∧ p < s - 1 then dg D0 (p + 1) else if p = s - 1 then dg D0 a else dg D0 p := by
  intro n
  induction n with
  | zero => intro k D h; omega
  | succ n ih =>
    intro k D hn hak hks hl hD
    have w0 : IntKind.wrap .i64 ((s : Int) - 1) = ((s - 1 : Nat) : Int) := by rw [w64 (by omega) (by omega)]; omega
    unfold slices_symMergeCmpFunc_int_h_Order_1_L1
    by_cases c : k < s - 1
    · have w1 : IntKind.wrap .i64 ((k : Int) + 1) = ((k + 1 : Nat) : Int) := by rw [w64 (by omega) (by omega)]; omega
      have h1 : k < D.length := by omega
      have h2 : k + 1 < D.length := by omega
      have e1 : ∀ u, (D.set k u).length = D.length := fun u => List.length_set
      simp only [bndD, w0, decide_eq_true (show (k : Int) < ((s - 1 : Nat) : Int) by omega), cond_true, w1, gix_dg h1, gix_dg h2, get_dg h1, get_dg h2, bnoS, Int.toNat_natCast, dg_some h1, dg_some h2]
      rw [gix_dg (D := D.set k (dg D (k + 1))) (by rw [e1]; exact h2), bnoS, dg_some (D := D.set k (dg D (k + 1))) (by rw [e1]; exact h2), bnoS]
      refine ih (k + 1) _ (by omega) (by omega) (by omega) (by simp [hl]) fun p => ?_
      rw [dg_set (by rw [e1]; exact h2), dg_set h1]
      simp only [hD]
      (repeat' split) <;> first | rfl | (congr 1; omega) | (exfalso; omega) | (exfalso; simp at *; done)
    · have : k = s - 1 := by omega
      simp only [bndD, w0, decide_eq_false (show ¬ (k : Int) < ((s - 1 : Nat) : Int) by omega), cond_false]
      exact ⟨D, rfl, hl, by rw [← this]; exact hD⟩
theorem sym_one {l : List Nat} {D : List Int} {a m b : Nat} (h : Pre l D a m b) (h1 : m - a = 1) : ∃ D', slices_symMergeCmpFunc_int_h_Order_1_L0 (a : Int) D l fuel (m : Int) (b : Int) = some D' ∧ Post l D D' a b := by
  obtain ⟨ham, hmb, hbl, hfew, hrng, hlo, hhi, hless⟩ := h
  obtain ⟨s, s1, s2, s3, s4, s5⟩ := find0 (l := l) (a := a) (by omega) hbl hfew hrng (by omega) hhi fuel m b (fuel_gt (by omega)) (Nat.le_refl _) (by omega) (Nat.le_refl _) (fun k _ _ => by omega) (fun k _ _ => by omega)
  obtain ⟨D', e1, e2, e3⟩ := shift_up (D0 := D) (a := a) (s := s) (by omega) hfew (by omega) fuel a D (fuel_gt (by omega)) (Nat.le_refl _) (by omega) rfl (fun p => by
    rw [if_neg (by omega)]; by_cases c : p = a
    · rw [if_pos c, c]
    · rw [if_neg c])
  refine ⟨D', by rw [s5]; exact e1, e2, ?_, fun k hk => by rw [e3, if_neg (by omega), if_neg (by omega)], fun k hk1 hk2 => ?_⟩
  · intro i j hi hij hj
    rw [e3 i, e3 j]
    by_cases c1 : j < s - 1
    · rw [if_pos (by omega), if_pos (by omega)]; exact hhi _ _ (by omega) (by omega) (by omega)
    · rw [if_neg (c := a ≤ j ∧ j < s - 1) (by omega)]
      by_cases c2 : j = s - 1
      · rw [if_pos c2, if_pos (by omega)]
        left; exact s3 _ (by omega) (by omega)
      · rw [if_neg c2]
        by_cases c3 : i < s - 1
        · rw [if_pos (by omega)]; exact hhi _ _ (by omega) (by omega) hj
        · rw [if_neg (by omega)]
          by_cases c4 : i = s - 1
          · rw [if_pos c4]
            have := s4 j (by omega) hj
            have := hless a j (Nat.le_refl _) (by omega) (by omega) hj
            unfold R; omega
          · rw [if_neg c4]; exact hhi _ _ (by omega) hij hj
  · rw [e3]
    by_cases c1 : a ≤ k ∧ k < s - 1
    · rw [if_pos c1]; exact ⟨k + 1, by omega, by omega, rfl⟩
    · rw [if_neg c1]
      by_cases c2 : k = s - 1
      · rw [if_pos c2]; exact ⟨a, by omega, by omega, rfl⟩
      · rw [if_neg c2]; exact ⟨k, hk1, hk2, rfl⟩

/-- One element behind. -/
theorem find2 {l : List Nat} {D : List Int} {a m : Nat} (hm : m < D.length) (hf : D.length ≤ 1000) (hr : Rng l D) (hs : Srt l D a m) : ∀ (n i j : Nat), j - i < n → a ≤ i → i ≤ j → j ≤ m → (∀ k, a ≤ k → k < i → wk l (dg D m) ≤ wk l (dg D k)) → (∀ k, j ≤ k → k < m → wk l (dg D k) < wk l (dg D m)) →
    ∃ s, a ≤ s ∧ s ≤ m ∧ (∀ k, a ≤ k → k < s → wk l (dg D m) ≤ wk l (dg D k)) ∧ (∀ k, s ≤ k → k < m → wk l (dg D k) < wk l (dg D m)) ∧ slices_symMergeCmpFunc_int_h_Order_1_L2 (m : Int) D l n (i : Int) (j : Int) = slices_symMergeCmpFunc_int_h_Order_1_L3 (s : Int) fuel D (m : Int) := by
  intro n
  induction n with
  | zero => intro i j h; omega
  | succ n ih =>
    intro i j hn hi hij hj h1 h2
    unfold slices_symMergeCmpFunc_int_h_Order_1_L2
    by_cases c : i < j
    · obtain ⟨e1, e2, e3, e4⟩ := half (x := i) (y := j) (by omega)
      have hh : (i + j) / 2 < D.length := by omega
      have wh : IntKind.wrap .i64 ((((i + j) / 2 : Nat) : Int) + 1) = (((i + j) / 2 + 1 : Nat) : Int) := by rw [w64 (by omega) (by omega)]; omega
      obtain ⟨v, hv, hd⟩ := order1_eq (l := l) (i := dg D m) (j := dg D ((i + j) / 2)) (hr _ hm) (hr _ hh)
      simp only [bndD, decide_eq_true (show (i : Int) < (j : Int) by omega), cond_true, e1, e2, e3, e4, bnoS, gix_dg hh, get_dg hh, gix_dg hm, get_dg hm, hv, hd]
      by_cases hw : wk l (dg D ((i + j) / 2)) < wk l (dg D m)
      · rw [decide_eq_true hw, Bool.not_true, cond_false]
        refine ih i _ (by omega) hi (by omega) (by omega) h1 (fun k hk1 hk2 => ?_)
        have := wk_mono hs (show a ≤ (i + j) / 2 by omega) hk1 hk2
        omega
      · rw [decide_eq_false hw, Bool.not_false, cond_true, wh]
        refine ih _ j (by omega) (by omega) (by omega) hj (fun k hk1 hk2 => ?_) h2
        have := wk_mono hs hk1 (show k ≤ (i + j) / 2 by omega) (by omega)
        omega
    · have : i = j := by omega
      subst this
      simp only [bndD, decide_eq_false (show ¬ (i : Int) < (i : Int) by omega), cond_false]
      exact ⟨i, hi, hj, h1, h2, rfl⟩
theorem shift_down {D0 : List Int} {m s : Nat} (hm : m < D0.length) (hf : D0.length ≤ 1000) (hsm : s ≤ m) : ∀ (n k : Nat) (D : List Int), k - s < n → s ≤ k → k ≤ m → D.length = D0.length → (∀ p, dg D p = if k < p ∧ p ≤ m then dg D0 (p - 1) else if p = k then dg D0 m else dg D0 p) →
    ∃ D', slices_symMergeCmpFunc_int_h_Order_1_L3 (s : Int) n D (k : Int) = some D' ∧ D'.length = D0.length ∧ ∀ p, dg D' p = if s < p ∧ p ≤ m then dg D0 (p - 1) else if p = s then dg D0 m else dg D0 p := by
  intro n
  induction n with
  | zero => intro k D h; omega
  | succ n ih =>
    intro k D hn hsk hkm hl hD
    unfold slices_symMergeCmpFunc_int_h_Order_1_L3
    by_cases c : s < k
    · have w1 : IntKind.wrap .i64 ((k : Int) - 1) = ((k - 1 : Nat) : Int) := by rw [w64 (by omega) (by omega)]; omega
      have h1 : k < D.length := by omega
      have h2 : k - 1 < D.length := by omega
      have e1 : ∀ u, (D.set k u).length = D.length := fun u => List.length_set
      simp only [bndD, decide_eq_true (show (s : Int) < (k : Int) by omega), cond_true, w1, gix_dg h1, gix_dg h2, get_dg h1, get_dg h2, bnoS, Int.toNat_natCast, dg_some h1, dg_some h2]
      rw [gix_dg (D := D.set k (dg D (k - 1))) (by rw [e1]; exact h2), bnoS, dg_some (D := D.set k (dg D (k - 1))) (by rw [e1]; exact h2), bnoS]
      refine ih (k - 1) _ (by omega) (by omega) (by omega) (by simp [hl]) fun p => ?_
      rw [dg_set (by rw [e1]; exact h2), dg_set h1]
      simp only [hD]
      (repeat' split) <;> first | rfl | (congr 1; omega) | (exfalso; omega) | (exfalso; simp at *; done)
    · have : k = s := by omega
      subst this
      simp only [bndD, decide_eq_false (show ¬ (k : Int) < (k : Int) by omega), cond_false]
      exact ⟨D, rfl, hl, hD⟩
theorem sym_two {l : List Nat} {D : List Int} {a m b : Nat} (h : Pre l D a m b) (h1 : b - m = 1) : ∃ D', slices_symMergeCmpFunc_int_h_Order_1_L2 (m : Int) D l fuel (a : Int) (m : Int) = some D' ∧ Post l D D' a b := by
  obtain ⟨ham, hmb, hbl, hfew, hrng, hlo, hhi, hless⟩ := h
  obtain ⟨s, s1, s2, s3, s4, s5⟩ := find2 (l := l) (a := a) (m := m) (by omega) hfew hrng hlo fuel a m (fuel_gt (by omega)) (Nat.le_refl _) (by omega) (Nat.le_refl _) (fun k _ _ => by omega) (fun k _ _ => by omega)
  obtain ⟨D', e1, e2, e3⟩ := shift_down (D0 := D) (m := m) (s := s) (by omega) hfew s2 fuel m D (fuel_gt (by omega)) s2 (Nat.le_refl _) rfl (fun p => by
    rw [if_neg (by omega)]; by_cases c : p = m
    · rw [if_pos c, c]
    · rw [if_neg c])
  refine ⟨D', by rw [s5]; exact e1, e2, ?_, fun k hk => by rw [e3, if_neg (by omega), if_neg (by omega)], fun k hk1 hk2 => ?_⟩
  · intro i j hi hij hj
    rw [e3 i, e3 j]
    by_cases c1 : j < s
    · rw [if_neg (by omega), if_neg (by omega), if_neg (by omega), if_neg (by omega)]; exact hlo _ _ hi hij (by omega)
    · by_cases c2 : j = s
      · rw [if_neg (c := s < i ∧ i ≤ m) (by omega), if_neg (c := i = s) (by omega), if_neg (by omega), if_pos c2]
        have := s3 i hi (by omega)
        have := hless i m hi (by omega) (Nat.le_refl _) (by omega)
        unfold R; omega
      · rw [if_pos (c := s < j ∧ j ≤ m) (by omega)]
        by_cases c3 : i < s
        · rw [if_neg (by omega), if_neg (by omega)]
          by_cases c5 : i = j - 1
          · omega
          · exact hlo _ _ hi (by omega) (by omega)
        · by_cases c4 : i = s
          · rw [if_neg (by omega), if_pos c4]; left; exact s4 _ (by omega) (by omega)
          · rw [if_pos (by omega)]; exact hlo _ _ (by omega) (by omega) (by omega)
  · rw [e3]
    by_cases c1 : s < k ∧ k ≤ m
    · rw [if_pos c1]; exact ⟨k - 1, by omega, by omega, rfl⟩
    · rw [if_neg c1]
      by_cases c2 : k = s
      · rw [if_pos c2]; exact ⟨m, by omega, by omega, rfl⟩
      · rw [if_neg c2]; exact ⟨k, hk1, hk2, rfl⟩

/-- Where both parts are cut. -/
theorem find5 {l : List Nat} {D : List Int} {a m b p s0 r0 : Nat} {rec0 : Int → Int → Int → List Int → List Nat → Option (List Int)} {x195 x196 : Int} (hb : b ≤ D.length) (hf : D.length ≤ 1000) (hr : Rng l D) (hlo : Srt l D a m) (hhi : Srt l D m b) (ha0 : a ≤ s0) (hr0 : r0 ≤ m) (hp1 : ∀ c, s0 ≤ c → c < r0 → m + c ≤ p) (hp2 : ∀ c, s0 ≤ c → c < r0 → p < b + c) (hmb : m ≤ b) :
    ∀ (n i j : Nat), j - i < n → s0 ≤ i → i ≤ j → j ≤ r0 → (∀ c, s0 ≤ c → c < i → wk l (dg D (p - c)) ≤ wk l (dg D c)) → (∀ c, j ≤ c → c < r0 → wk l (dg D c) < wk l (dg D (p - c))) →
    ∃ s, s0 ≤ s ∧ s ≤ r0 ∧ (∀ c, s0 ≤ c → c < s → wk l (dg D (p - c)) ≤ wk l (dg D c)) ∧ (∀ c, s ≤ c → c < r0 → wk l (dg D c) < wk l (dg D (p - c))) ∧
      slices_symMergeCmpFunc_int_h_Order_1_L5 rec0 (a : Int) (m : Int) (b : Int) D l x195 x196 (p : Int) n (i : Int) (j : Int) = slices_symMergeCmpFunc_int_h_Order_1_L5 rec0 (a : Int) (m : Int) (b : Int) D l x195 x196 (p : Int) 1 (s : Int) (s : Int) := by
  intro n
  induction n with
  | zero => intro i j h; omega
  | succ n ih =>
    intro i j hn hi hij hj h1 h2
    by_cases c : i < j
    · obtain ⟨e1, e2, e3, e4⟩ := half (x := i) (y := j) (by omega)
      have q1 := hp1 ((i + j) / 2) (by omega) (by omega)
      have q2 := hp2 ((i + j) / 2) (by omega) (by omega)
      have hh : (i + j) / 2 < D.length := by omega
      have hq : p - (i + j) / 2 < D.length := by omega
      have wh : IntKind.wrap .i64 ((((i + j) / 2 : Nat) : Int) + 1) = (((i + j) / 2 + 1 : Nat) : Int) := by rw [w64 (by omega) (by omega)]; omega
      have wp : IntKind.wrap .i64 ((p : Int) - (((i + j) / 2 : Nat) : Int)) = ((p - (i + j) / 2 : Nat) : Int) := by rw [w64 (by omega) (by omega)]; omega
      obtain ⟨v, hv, hd⟩ := order1_eq (l := l) (i := dg D (p - (i + j) / 2)) (j := dg D ((i + j) / 2)) (hr _ hq) (hr _ hh)
      have step : slices_symMergeCmpFunc_int_h_Order_1_L5 rec0 (a : Int) (m : Int) (b : Int) D l x195 x196 (p : Int) (n + 1) (i : Int) (j : Int) = if wk l (dg D ((i + j) / 2)) < wk l (dg D (p - (i + j) / 2)) then slices_symMergeCmpFunc_int_h_Order_1_L5 rec0 (a : Int) (m : Int) (b : Int) D l x195 x196 (p : Int) n (i : Int) (((i + j) / 2 : Nat) : Int) else slices_symMergeCmpFunc_int_h_Order_1_L5 rec0 (a : Int) (m : Int) (b : Int) D l x195 x196 (p : Int) n (((i + j) / 2 + 1 : Nat) : Int) (j : Int) := by
        rw [slices_symMergeCmpFunc_int_h_Order_1_L5]
        simp only [bndD, decide_eq_true (show (i : Int) < (j : Int) by omega), cond_true, e1, e2, e3, e4, bnoS, wp, gix_dg hh, get_dg hh, gix_dg hq, get_dg hq, hv, hd, wh]
        by_cases hw : wk l (dg D ((i + j) / 2)) < wk l (dg D (p - (i + j) / 2))
        · rw [decide_eq_true hw, if_pos hw]; rfl
        · rw [decide_eq_false hw, if_neg hw]; rfl
      rw [step]
      by_cases hw : wk l (dg D ((i + j) / 2)) < wk l (dg D (p - (i + j) / 2))
      · rw [if_pos hw]
        refine ih i _ (by omega) hi (by omega) (by omega) h1 (fun c' hc1 hc2 => ?_)
        have k1 := hp1 c' (by omega) hc2
        have k2 := hp2 c' (by omega) hc2
        have g1 := wk_mono hlo (show a ≤ (i + j) / 2 by omega) hc1 (by omega)
        have g2 := wk_mono hhi (show m ≤ p - c' by omega) (show p - c' ≤ p - (i + j) / 2 by omega) (by omega)
        omega
      · rw [if_neg hw]
        refine ih _ j (by omega) (by omega) (by omega) hj (fun c' hc1 hc2 => ?_) h2
        have k1 := hp1 c' hc1 (by omega)
        have k2 := hp2 c' hc1 (by omega)
        have g1 := wk_mono hlo (show a ≤ c' by omega) (show c' ≤ (i + j) / 2 by omega) (by omega)
        have g2 := wk_mono hhi (show m ≤ p - (i + j) / 2 by omega) (show p - (i + j) / 2 ≤ p - c' by omega) (by omega)
        omega
    · have : i = j := by omega
      subst this
      refine ⟨i, hi, hj, h1, h2, ?_⟩
      rw [slices_symMergeCmpFunc_int_h_Order_1_L5, slices_symMergeCmpFunc_int_h_Order_1_L5]
      simp only [bndD, decide_eq_false (show ¬ (i : Int) < (i : Int) by omega), cond_false]
end Go.Fn
set_option linter.unusedSimpArgs false
set_option linter.unusedVariables false
open Go Go.IL Go.Fl
namespace Go.Fn

def RecOk (l : List Nat) (rec0 : Int → Int → Int → List Int → List Nat → Option (List Int)) (w : Nat) : Prop :=
  ∀ (a m b : Nat) (D : List Int), b - a < w → Pre l D a m b → ∃ D', rec0 (a : Int) (m : Int) (b : Int) D l = some D' ∧ Post l D D' a b
theorem rot_mem {D : List Int} {s m e : Nat} (h1 : s ≤ m) (h2 : m ≤ e) (h3 : e ≤ D.length) (k : Nat) (hk : k < D.length) : ∃ k', k' < D.length ∧ rot D s m e k = dg D k' := by
  unfold rot
  by_cases c1 : s ≤ k ∧ k < s + (e - m)
  · rw [if_pos c1]; exact ⟨_, by omega, rfl⟩
  · rw [if_neg c1]
    by_cases c2 : s + (e - m) ≤ k ∧ k < e
    · rw [if_pos c2]; exact ⟨_, by omega, rfl⟩
    · rw [if_neg c2]; exact ⟨k, hk, rfl⟩
theorem sym_gen {l : List Nat} {D : List Int} {a m b mid s0 r0 : Nat} {rec0 : Int → Int → Int → List Int → List Nat → Option (List Int)} (hrec : RecOk l rec0 (b - a)) (h : Pre l D a m b) (hmid1 : a < mid) (hmid2 : mid < b)
    (ha0 : a ≤ s0) (hsr : s0 ≤ r0) (hr0 : r0 ≤ m) (hrm : r0 ≤ mid) (hsb : mid + m ≤ b + s0) (he : s0 = a ∨ mid + m = b + s0) (hf : r0 = m ∨ r0 = mid) :
    ∃ D', slices_symMergeCmpFunc_int_h_Order_1_J4 rec0 (a : Int) (m : Int) (b : Int) D l (mid : Int) ((mid + m : Nat) : Int) (s0 : Int) (r0 : Int) = some D' ∧ Post l D D' a b := by
  obtain ⟨ham, hmb, hbl, hfew, hrng, hlo, hhi, hless⟩ := h
  have wp : IntKind.wrap .i64 (((mid + m : Nat) : Int) - 1) = ((mid + m - 1 : Nat) : Int) := by rw [w64 (by omega) (by omega)]; omega
  obtain ⟨s, s1, s2, s3, s4, s5⟩ := find5 (l := l) (D := D) (a := a) (m := m) (b := b) (p := mid + m - 1) (s0 := s0) (r0 := r0) (rec0 := rec0) (x195 := (mid : Int)) (x196 := ((mid + m : Nat) : Int)) hbl hfew hrng hlo hhi ha0 hr0 (fun c h1 h2 => by omega) (fun c h1 h2 => by omega) (by omega)
    fuel s0 r0 (fuel_gt (by omega)) (Nat.le_refl _) hsr (Nat.le_refl _) (fun c h1 h2 => by omega) (fun c h1 h2 => by omega)
  unfold slices_symMergeCmpFunc_int_h_Order_1_J4
  simp only [bndD, wp]
  rw [s5]
  obtain ⟨e, hee⟩ : ∃ e, e = mid + m - s := ⟨_, rfl⟩
  have hs : a ≤ s ∧ s ≤ m ∧ s ≤ mid := by omega
  have hem : m ≤ e ∧ e ≤ b := by omega
  have hmide : mid = s + (e - m) := by omega
  have we : IntKind.wrap .i64 (((mid + m : Nat) : Int) - (s : Int)) = (e : Int) := by rw [w64 (by omega) (by omega)]; omega
  -- the left parts are ahead of the right parts
  have F1 : ∀ x y, a ≤ x → x < s → e ≤ y → y < b → R l (dg D x) (dg D y) := by
    intro x y hx1 hx2 hy1 hy2
    by_cases c : s0 < s
    · have h1 := s3 (s - 1) (by omega) (by omega)
      rw [show mid + m - 1 - (s - 1) = e by omega] at h1
      have h2 := wk_mono hlo hx1 (show x ≤ s - 1 by omega) (by omega)
      have h3 := wk_mono hhi hem.1 hy1 hy2
      have h4 := hless x y hx1 (by omega) (by omega) hy2
      unfold R; omega
    · rcases he with he | he <;> omega
  have F2 : ∀ y x, m ≤ y → y < e → s ≤ x → x < m → R l (dg D y) (dg D x) := by
    intro y x hy1 hy2 hx1 hx2
    by_cases c : s < r0
    · have h1 := s4 s (Nat.le_refl _) c
      rw [show mid + m - 1 - s = e - 1 by omega] at h1
      have h2 := wk_mono hlo hs.1 hx1 hx2
      have h3 := wk_mono hhi hy1 (show y ≤ e - 1 by omega) (by omega)
      unfold R; omega
    · rcases hf with hf | hf <;> omega
  have rotd : ∃ D1, slices_symMergeCmpFunc_int_h_Order_1_L5 rec0 (a : Int) (m : Int) (b : Int) D l (mid : Int) ((mid + m : Nat) : Int) ((mid + m - 1 : Nat) : Int) 1 (s : Int) (s : Int) = slices_symMergeCmpFunc_int_h_Order_1_J6 rec0 (a : Int) (b : Int) l (mid : Int) (s : Int) (e : Int) D1 ∧ D1.length = D.length ∧ ∀ k, dg D1 k = rot D s m e k := by
    rw [slices_symMergeCmpFunc_int_h_Order_1_L5]
    simp only [bndD, decide_eq_false (show ¬ (s : Int) < (s : Int) by omega), cond_false, we]
    by_cases c : s < m ∧ m < e
    · obtain ⟨D1, e1, e2, e3⟩ := rot_eq (l := l) hfew c.1 c.2 (by omega : e ≤ D.length)
      simp only [decide_eq_true (show (s : Int) < (m : Int) by omega), decide_eq_true (show (m : Int) < (e : Int) by omega), Bool.and_self, cond_true, e1, bnoS, chk_t e2]
      exact ⟨D1, rfl, e2, e3⟩
    · have : (decide ((s : Int) < (m : Int)) && decide ((m : Int) < (e : Int))) = false := by
        by_cases c1 : s < m
        · rw [decide_eq_false (show ¬ (m : Int) < (e : Int) by omega), Bool.and_false]
        · rw [decide_eq_false (show ¬ (s : Int) < (m : Int) by omega), Bool.false_and]
      simp only [this, cond_false]
      refine ⟨D, rfl, rfl, fun k => ?_⟩
      unfold rot
      by_cases c1 : s ≤ k ∧ k < s + (e - m)
      · rw [if_pos c1]; congr 1; omega
      · rw [if_neg c1]
        by_cases c2 : s + (e - m) ≤ k ∧ k < e
        · rw [if_pos c2]; congr 1; omega
        · rw [if_neg c2]
  obtain ⟨D1, g1, g2, g3⟩ := rotd
  rw [g1]
  have A1 : ∀ k, k < s ∨ e ≤ k → dg D1 k = dg D k := fun k hk => by rw [g3]; unfold rot; rw [if_neg (by omega), if_neg (by omega)]
  have A2 : ∀ k, s ≤ k → k < mid → dg D1 k = dg D (k + (m - s)) := fun k h1 h2 => by rw [g3]; unfold rot; rw [if_pos (by omega)]
  have A3 : ∀ k, mid ≤ k → k < e → dg D1 k = dg D (k - (e - m)) := fun k h1 h2 => by rw [g3]; unfold rot; rw [if_neg (by omega), if_pos (by omega)]
  have hr1 : Rng l D1 := fun k hk => by
    obtain ⟨k', h1, h2⟩ := rot_mem hs.2.1 hem.1 (by omega : e ≤ D.length) k (by omega)
    rw [g3, h2]; exact hrng k' h1
  -- the left half
  have st2 : ∃ D2, slices_symMergeCmpFunc_int_h_Order_1_J6 rec0 (a : Int) (b : Int) l (mid : Int) (s : Int) (e : Int) D1 = slices_symMergeCmpFunc_int_h_Order_1_J7 rec0 (b : Int) l (mid : Int) (e : Int) D2 ∧ Post l D1 D2 a mid := by
    unfold slices_symMergeCmpFunc_int_h_Order_1_J6
    by_cases c : a < s ∧ s < mid
    · obtain ⟨D2, e1, e2⟩ := hrec a s mid D1 (by omega) ⟨c.1, c.2, by omega, by omega, hr1, fun i j h1 h2 h3 => by
          rw [A1 i (by omega), A1 j (by omega)]; exact hlo i j h1 h2 (by omega), fun i j h1 h2 h3 => by
          rw [A2 i h1 (by omega), A2 j (by omega) h3]; exact hhi _ _ (by omega) (by omega) (by omega), fun i j h1 h2 h3 h4 => by
          rw [A1 i (by omega), A2 j h3 h4]; exact hless _ _ h1 (by omega) (by omega) (by omega)⟩
      simp only [bndD, decide_eq_true (show (a : Int) < (s : Int) by omega), decide_eq_true (show (s : Int) < (mid : Int) by omega), Bool.and_self, cond_true, e1, bnoS, chk_t e2.len]
      exact ⟨D2, rfl, e2⟩
    · have : (decide ((a : Int) < (s : Int)) && decide ((s : Int) < (mid : Int))) = false := by
        by_cases c1 : a < s
        · rw [decide_eq_false (show ¬ (s : Int) < (mid : Int) by omega), Bool.and_false]
        · rw [decide_eq_false (show ¬ (a : Int) < (s : Int) by omega), Bool.false_and]
      simp only [bndD, this, cond_false]
      refine ⟨D1, rfl, rfl, fun i j h1 h2 h3 => ?_, fun _ _ => rfl, fun k h1 h2 => ⟨k, h1, h2, rfl⟩⟩
      by_cases c1 : a < s
      · rw [A1 i (by omega), A1 j (by omega)]; exact hlo i j h1 h2 (by omega)
      · rw [A2 i (by omega) (by omega), A2 j (by omega) h3]; exact hhi _ _ (by omega) (by omega) (by omega)
  obtain ⟨D2, k1, k2⟩ := st2
  rw [k1]
  have hr2 : Rng l D2 := fun k hk => by
    by_cases c : a ≤ k ∧ k < mid
    · obtain ⟨k', h1, h2, h3⟩ := k2.mem k c.1 c.2
      rw [h3]; exact hr1 k' (by omega)
    · rw [k2.out k (by omega)]; exact hr1 k (by rw [← k2.len]; exact hk)
  have B3 : ∀ k, mid ≤ k → k < e → dg D2 k = dg D (k - (e - m)) := fun k h1 h2 => by rw [k2.out k (.inr h1), A3 k h1 h2]
  have B4 : ∀ k, e ≤ k → dg D2 k = dg D k := fun k h1 => by rw [k2.out k (.inr (by omega)), A1 k (.inr h1)]
  have l2 : D2.length = D.length := by rw [k2.len, g2]
  -- the right half
  have st3 : ∃ D3, slices_symMergeCmpFunc_int_h_Order_1_J7 rec0 (b : Int) l (mid : Int) (e : Int) D2 = some D3 ∧ Post l D2 D3 mid b := by
    unfold slices_symMergeCmpFunc_int_h_Order_1_J7
    by_cases c : mid < e ∧ e < b
    · obtain ⟨D3, e1, e2⟩ := hrec mid e b D2 (by omega) ⟨c.1, c.2, by omega, by omega, hr2, fun i j h1 h2 h3 => by
          rw [B3 i h1 (by omega), B3 j (by omega) h3]; exact hlo _ _ (by omega) (by omega) (by omega), fun i j h1 h2 h3 => by
          rw [B4 i h1, B4 j (by omega)]; exact hhi _ _ (by omega) h2 h3, fun i j h1 h2 h3 h4 => by
          rw [B3 i h1 h2, B4 j h3]; exact hless _ _ (by omega) (by omega) (by omega) h4⟩
      simp only [bndD, decide_eq_true (show (mid : Int) < (e : Int) by omega), decide_eq_true (show (e : Int) < (b : Int) by omega), Bool.and_self, cond_true, e1, bnoS, chk_t e2.len]
      exact ⟨D3, rfl, e2⟩
    · have : (decide ((mid : Int) < (e : Int)) && decide ((e : Int) < (b : Int))) = false := by
        by_cases c1 : mid < e
        · rw [decide_eq_false (show ¬ (e : Int) < (b : Int) by omega), Bool.and_false]
        · rw [decide_eq_false (show ¬ (mid : Int) < (e : Int) by omega), Bool.false_and]
      simp only [bndD, this, cond_false]
      refine ⟨D2, rfl, rfl, fun i j h1 h2 h3 => ?_, fun _ _ => rfl, fun k h1 h2 => ⟨k, h1, h2, rfl⟩⟩
      by_cases c1 : mid < e
      · rw [B3 i h1 (by omega), B3 j (by omega) (by omega)]; exact hlo _ _ (by omega) (by omega) (by omega)
      · rw [B4 i (by omega), B4 j (by omega)]; exact hhi _ _ (by omega) h2 h3
  obtain ⟨D3, n1, n2⟩ := st3
  -- what stands in the halves
  have inL : ∀ k, a ≤ k → k < mid → ∃ k', ((a ≤ k' ∧ k' < s) ∨ (m ≤ k' ∧ k' < e)) ∧ dg D2 k = dg D k' := by
    intro k h1 h2
    obtain ⟨k', h3, h4, h5⟩ := k2.mem k h1 h2
    by_cases c : k' < s
    · exact ⟨k', .inl ⟨h3, c⟩, by rw [h5, A1 k' (.inl c)]⟩
    · exact ⟨k' + (m - s), .inr ⟨by omega, by omega⟩, by rw [h5, A2 k' (by omega) h4]⟩
  have inR : ∀ k, mid ≤ k → k < b → ∃ k', ((s ≤ k' ∧ k' < m) ∨ (e ≤ k' ∧ k' < b)) ∧ dg D3 k = dg D k' := by
    intro k h1 h2
    obtain ⟨k', h3, h4, h5⟩ := n2.mem k h1 h2
    by_cases c : k' < e
    · exact ⟨k' - (e - m), .inl ⟨by omega, by omega⟩, by rw [h5, B3 k' h3 c]⟩
    · exact ⟨k', .inr ⟨by omega, h4⟩, by rw [h5, B4 k' (by omega)]⟩
  refine ⟨D3, n1, by rw [n2.len, l2], fun i j h1 h2 h3 => ?_, fun k hk => ?_, fun k h1 h2 => ?_⟩
  · by_cases c1 : j < mid
    · rw [n2.out i (.inl (by omega)), n2.out j (.inl c1)]; exact k2.srt i j h1 h2 c1
    · by_cases c2 : mid ≤ i
      · exact n2.srt i j c2 h2 h3
      · obtain ⟨x, hx, ex⟩ := inL i h1 (by omega)
        obtain ⟨y, hy, ey⟩ := inR j (by omega) h3
        rw [n2.out i (.inl (by omega)), ex, ey]
        rcases hx with ⟨hx1, hx2⟩ | ⟨hx1, hx2⟩ <;> rcases hy with ⟨hy1, hy2⟩ | ⟨hy1, hy2⟩
        · exact hlo x y hx1 (by omega) hy2
        · exact F1 x y hx1 hx2 hy1 hy2
        · exact F2 x y hx1 hx2 hy1 hy2
        · exact hhi x y hx1 (by omega) hy2
  · rcases hk with hk | hk
    · rw [n2.out k (.inl (by omega)), k2.out k (.inl hk), A1 k (.inl (by omega))]
    · rw [n2.out k (.inr hk), B4 k (by omega)]
  · by_cases c : k < mid
    · obtain ⟨x, hx, ex⟩ := inL k h1 c
      exact ⟨x, by omega, by omega, by rw [n2.out k (.inl c), ex]⟩
    · obtain ⟨y, hy, ey⟩ := inR k (by omega) h2
      exact ⟨y, by omega, by omega, ey⟩
theorem sym_eq {l : List Nat} : ∀ (n a m b : Nat) (D : List Int), b - a < n → Pre l D a m b → ∃ D', slices_symMergeCmpFunc_int_h_Order_1 n (a : Int) (m : Int) (b : Int) D l = some D' ∧ Post l D D' a b := by
  intro n
  induction n with
  | zero => intro a m b D h; omega
  | succ n ih =>
    intro a m b D hn h
    have hrec : RecOk l (slices_symMergeCmpFunc_int_h_Order_1 n) (b - a) := fun a' m' b' D' h1 h2 => ih a' m' b' D' (by omega) h2
    have h' := h
    obtain ⟨ham, hmb, hbl, hfew, hrng, hlo, hhi, hless⟩ := h
    show ∃ D', slices_symMergeCmpFunc_int_h_Order_1_B (slices_symMergeCmpFunc_int_h_Order_1 n) (a : Int) (m : Int) (b : Int) D l = some D' ∧ Post l D D' a b
    unfold slices_symMergeCmpFunc_int_h_Order_1_B
    have w1 : IntKind.wrap .i64 ((m : Int) - (a : Int)) = ((m - a : Nat) : Int) := by rw [w64 (by omega) (by omega)]; omega
    have w2 : IntKind.wrap .i64 ((b : Int) - (m : Int)) = ((b - m : Nat) : Int) := by rw [w64 (by omega) (by omega)]; omega
    simp only [bndD, w1, w2]
    by_cases h1 : m - a = 1
    · simp only [decide_eq_true (show ((m - a : Nat) : Int) = 1 by omega), cond_true]
      exact sym_one h' h1
    · simp only [decide_eq_false (show ¬ ((m - a : Nat) : Int) = 1 by omega), cond_false]
      by_cases h2 : b - m = 1
      · simp only [decide_eq_true (show ((b - m : Nat) : Int) = 1 by omega), cond_true]
        exact sym_two h' h2
      · obtain ⟨e1, e2, e3, e4⟩ := half (x := a) (y := b) (by omega)
        obtain ⟨mid, hmid⟩ : ∃ mid, mid = (a + b) / 2 := ⟨_, rfl⟩
        rw [← hmid] at e3 e4
        have w3 : IntKind.wrap .i64 (((mid : Nat) : Int) + (m : Int)) = ((mid + m : Nat) : Int) := by rw [w64 (by omega) (by omega)]; omega
        simp only [decide_eq_false (show ¬ ((b - m : Nat) : Int) = 1 by omega), cond_false, e1, e2, e3, e4, bnoS, w3]
        by_cases c : mid < m
        · have w4 : IntKind.wrap .i64 (((mid + m : Nat) : Int) - (b : Int)) = ((mid + m - b : Nat) : Int) := by rw [w64 (by omega) (by omega)]; omega
          rw [decide_eq_true (show (mid : Int) < (m : Int) by omega), cond_true, w4]
          exact sym_gen hrec h' (by omega) (by omega) (by omega) (by omega) (by omega) (by omega) (by omega) (by omega) (.inr rfl)
        · rw [decide_eq_false (show ¬ (mid : Int) < (m : Int) by omega), cond_false]
          exact sym_gen hrec h' (by omega) (by omega) (by omega) (by omega) (by omega) (by omega) (by omega) (.inl rfl) (.inl rfl)

/-! The blocks. -/
theorem blk_merge {l : List Nat} {D : List Int} {a m b : Nat} (ham : a < m) (hmb : m < b) (hbl : b ≤ D.length) (hfew : D.length ≤ 1000) (hrng : Rng l D) (h1 : Blk l D a m) (h2 : Blk l D m b) :
    ∃ D', slices_symMergeCmpFunc_int_h_Order_1 fuel (a : Int) (m : Int) (b : Int) D l = some D' ∧ D'.length = D.length ∧ Blk l D' a b ∧ (∀ k, k < a ∨ b ≤ k → dg D' k = dg D k) ∧ Rng l D' := by
  obtain ⟨D', e1, e2⟩ := sym_eq (l := l) fuel a m b D (fuel_gt (by omega)) ⟨ham, hmb, hbl, hfew, hrng, h1.1, h2.1, fun i j c1 c2 c3 c4 => by
    have := h1.2 i c1 c2
    have := h2.2 j c3 c4
    omega⟩
  refine ⟨D', e1, e2.len, ⟨e2.srt, fun k c1 c2 => ?_⟩, e2.out, fun k hk => ?_⟩
  · obtain ⟨k', d1, d2, d3⟩ := e2.mem k c1 c2
    rw [d3]
    by_cases c : k' < m
    · have := h1.2 k' d1 c; omega
    · have := h2.2 k' (by omega) d2; omega
  · by_cases c : a ≤ k ∧ k < b
    · obtain ⟨k', d1, d2, d3⟩ := e2.mem k c.1 c.2
      rw [d3]; exact hrng k' (by omega)
    · rw [e2.out k (by omega)]; exact hrng k (by rw [← e2.len]; exact hk)
theorem blk_out {l : List Nat} {D D' : List Int} {a b p q : Nat} (h : Blk l D p q) (ho : ∀ k, k < a ∨ b ≤ k → dg D' k = dg D k) (hd : q ≤ a ∨ b ≤ p) : Blk l D' p q :=
  ⟨fun i j h1 h2 h3 => by rw [ho i (by omega), ho j (by omega)]; exact h.1 i j h1 h2 h3, fun k h1 h2 => by rw [ho k (by omega)]; exact h.2 k h1 h2⟩
/-- All blocks of a size, from a place on, are in order. -/
def Bls (l : List Nat) (D : List Int) (s n : Nat) (from' : Nat) : Prop := ∀ c, from' ≤ c * s → c * s < n → Blk l D (c * s) (min (c * s + s) n)
theorem mul_two_pos {c s a : Nat} (h : a = 2 * c * s) : a + 2 * s = 2 * (c + 1) * s := by subst h; rw [Nat.mul_add, Nat.add_mul]
theorem merge_in {l : List Nat} {n s : Nat} {kk1 : List Int → Int → Option (List Int)} (hs : 0 < s) (hn : n ≤ 1000) (hsn : s < 1000) : ∀ (f c : Nat) (D : List Int), n - 2 * c * s < f → D.length = n → Rng l D → (∀ d, d < c → Blk l D (2 * d * s) (min (2 * d * s + 2 * s) n)) → Bls l D s n (2 * c * s) → 2 * c * s ≤ n →
    ∃ D', slices_stableCmpFunc_int_h_Order_1_L2 (n : Int) l (s : Int) kk1 f D ((2 * c * s : Nat) : Int) ((2 * c * s + 2 * s : Nat) : Int) = kk1 D' ((s * 2 : Nat) : Int) ∧ D'.length = n ∧ Rng l D' ∧ Bls l D' (s * 2) n 0 := by
  intro f
  induction f with
  | zero => intro c D h; omega
  | succ f ih =>
    intro c D hf hl hr hdone hrest hcn
    obtain ⟨a, ha⟩ : ∃ a, a = 2 * c * s := ⟨_, rfl⟩
    rw [← ha] at hf hrest hcn ⊢
    have e2s : (2 : Int) * (s : Int) = ((2 * s : Nat) : Int) := by omega
    have w1 : IntKind.wrap .i64 ((a : Int) + (s : Int)) = ((a + s : Nat) : Int) := by rw [w64 (by omega) (by omega)]; omega
    have w2 : IntKind.wrap .i64 (2 * (s : Int)) = ((2 * s : Nat) : Int) := by rw [w64 (by omega) (by omega)]; omega
    have w3 : IntKind.wrap .i64 ((s : Int) * 2) = ((s * 2 : Nat) : Int) := by rw [w64 (by omega) (by omega)]; omega
    have b0 : a < n → Blk l D a (min (a + s) n) := fun h => by
      have := hrest (2 * c) (by omega) (by omega); rwa [← ha] at this
    have e1 : (2 * c + 1) * s = a + s := by rw [Nat.add_mul, Nat.one_mul, ← ha]
    have b1 : a + s < n → Blk l D (a + s) (min (a + s + s) n) := fun h => by
      have := hrest (2 * c + 1) (by omega) (by omega); rwa [e1] at this
    unfold slices_stableCmpFunc_int_h_Order_1_L2
    by_cases h1 : a + 2 * s ≤ n
    · have h2 := b0 (by omega)
      have h3 := b1 (by omega)
      rw [show min (a + s) n = a + s by omega] at h2
      rw [show min (a + s + s) n = a + 2 * s by omega] at h3
      obtain ⟨D', f1, f2, f3, f4, f5⟩ := blk_merge (by omega) (by omega) (by omega) (by omega) hr h2 h3
      have w4 : IntKind.wrap .i64 (((a + 2 * s : Nat) : Int) + ((2 * s : Nat) : Int)) = ((a + 2 * s + 2 * s : Nat) : Int) := by rw [w64 (by omega) (by omega)]; omega
      simp only [bndD, decide_eq_true (show ((a + 2 * s : Nat) : Int) ≤ (n : Int) by omega), cond_true, w1, f1, bnoS, chk_t f2, w2, w4]
      have e3 : a + 2 * s = 2 * (c + 1) * s := mul_two_pos ha
      rw [e3]
      refine ih (c + 1) D' (by omega) (by omega) f5 (fun d hd => ?_) (fun d h4 h5 => ?_) (by omega)
      · by_cases hdc : d = c
        · subst hdc; rw [← ha, show min (a + 2 * s) n = a + 2 * s by omega]; exact f3
        · have h6 : 2 * d * s + 2 * s ≤ a := by
            have : (2 * d + 2) * s ≤ 2 * c * s := Nat.mul_le_mul_right _ (by omega)
            rw [Nat.add_mul] at this; omega
          exact blk_out (hdone d (by omega)) f4 (by omega)
      · exact blk_out (hrest d (by omega) h5) f4 (by omega)
    · simp only [bndD, decide_eq_false (show ¬ ((a + 2 * s : Nat) : Int) ≤ (n : Int) by omega), cond_false, w1, w3]
      have fin : ∀ D', D'.length = n → Blk l D' a n ∨ a = n → (∀ d, d < c → Blk l D' (2 * d * s) (min (2 * d * s + 2 * s) n)) → Bls l D' (s * 2) n 0 := by
        intro D' _ h2 h3 d _ h5
        have e4 : d * (s * 2) = 2 * d * s := by rw [Nat.mul_comm s 2, ← Nat.mul_assoc, Nat.mul_comm d 2]
        rw [e4] at h5 ⊢
        by_cases hdc : d < c
        · have := h3 d hdc; rwa [Nat.mul_comm s 2]
        · have h6 : a ≤ 2 * d * s := by rw [ha]; exact Nat.mul_le_mul_right _ (by omega)
          by_cases hdc2 : d = c
          · subst hdc2
            rw [← ha] at h5 ⊢
            rcases h2 with h2 | h2
            · rw [show min (a + s * 2) n = n by omega]; exact h2
            · omega
          · have : (2 * c + 2) * s ≤ 2 * d * s := Nat.mul_le_mul_right _ (by omega)
            rw [Nat.add_mul, ← ha] at this; omega
      by_cases h2 : a + s < n
      · have h3 := b0 (by omega)
        have h4 := b1 h2
        rw [show min (a + s) n = a + s by omega] at h3
        rw [show min (a + s + s) n = n by omega] at h4
        obtain ⟨D', f1, f2, f3, f4, f5⟩ := blk_merge (by omega) h2 (by omega) (by omega) hr h3 h4
        simp only [decide_eq_true (show ((a + s : Nat) : Int) < (n : Int) by omega), cond_true, f1, bnoS, chk_t f2]
        refine ⟨D', rfl, by omega, f5, fin D' (by omega) (.inl f3) fun d hd => ?_⟩
        have h6 : 2 * d * s + 2 * s ≤ a := by
          have : (2 * d + 2) * s ≤ 2 * c * s := Nat.mul_le_mul_right _ (by omega)
          rw [Nat.add_mul] at this; omega
        exact blk_out (hdone d hd) f4 (by omega)
      · simp only [decide_eq_false (show ¬ ((a + s : Nat) : Int) < (n : Int) by omega), cond_false]
        refine ⟨D, rfl, hl, hr, fin D hl ?_ hdone⟩
        by_cases h3 : a < n
        · left; have := b0 h3; rwa [show min (a + s) n = n by omega] at this
        · right; omega
theorem merge_out {l : List Nat} {n : Nat} (hn : n ≤ 400) : ∀ (f s : Nat) (D : List Int), n - s < f → 0 < s → s < 1000 → D.length = n → Rng l D → Bls l D s n 0 →
    ∃ D', slices_stableCmpFunc_int_h_Order_1_L1 (n : Int) l f D (s : Int) = some D' ∧ D'.length = n ∧ Rng l D' ∧ Blk l D' 0 n := by
  intro f
  induction f with
  | zero => intro s D h; omega
  | succ f ih =>
    intro s D hf hs hs' hl hr hb
    have w2 : IntKind.wrap .i64 (2 * (s : Int)) = ((2 * s : Nat) : Int) := by rw [w64 (by omega) (by omega)]; omega
    unfold slices_stableCmpFunc_int_h_Order_1_L1
    by_cases h : s < n
    · simp only [bndD, decide_eq_true (show (s : Int) < (n : Int) by omega), cond_true, w2]
      obtain ⟨D', e1, e2, e3, e4⟩ := merge_in (kk1 := slices_stableCmpFunc_int_h_Order_1_L1 (n : Int) l f) hs (by omega) hs' fuel 0 D (fuel_gt (by omega)) hl hr (fun d hd => by omega) (fun c h1 h2 => hb c (Nat.zero_le _) h2) (by omega)
      rw [show 2 * 0 * s = 0 by simp, Nat.zero_add] at e1
      rw [show ((0 : Nat) : Int) = 0 from rfl] at e1
      rw [e1]
      exact ih (s * 2) D' (by omega) (by omega) (by omega) e2 e3 e4
    · simp only [bndD, decide_eq_false (show ¬ (s : Int) < (n : Int) by omega), cond_false]
      refine ⟨D, rfl, hl, hr, ?_⟩
      by_cases h0 : n = 0
      · subst h0; exact ⟨fun i j h1 h2 h3 => by omega, fun k h1 h2 => by omega⟩
      · have := hb 0 (by omega) (by omega)
        rw [Nat.zero_mul, Nat.zero_add, show min s n = n by omega] at this
        exact this
theorem ins_blocks {l : List Nat} {n : Nat} (hn : n ≤ 400) : ∀ (f c : Nat) (D : List Int), n - 20 * c < f → D.length = n → 20 * c ≤ n → Rng l D → (∀ d, d < c → Blk l D (d * 20) (d * 20 + 20)) → (∀ k, 20 * c ≤ k → k < n → dg D k = k) →
    ∃ D', slices_stableCmpFunc_int_h_Order_1_L0 (n : Int) l f D ((20 * c : Nat) : Int) ((20 * c + 20 : Nat) : Int) = some D' ∧ D'.length = n ∧ Rng l D' ∧ Blk l D' 0 n := by
  intro f
  induction f with
  | zero => intro c D h; omega
  | succ f ih =>
    intro c D hf hl hcn hr hdone hid
    unfold slices_stableCmpFunc_int_h_Order_1_L0
    by_cases h1 : 20 * c + 20 ≤ n
    · obtain ⟨D', e1, e2, e3, e4, e5⟩ := ins_eq (l := l) (a := 20 * c) (b := 20 * c + 20) (D := D) (by omega) (by omega) (by omega) hr (fun k h2 h3 => hid k h2 (by omega))
      have w1 : IntKind.wrap .i64 (((20 * c + 20 : Nat) : Int) + 20) = ((20 * (c + 1) + 20 : Nat) : Int) := by rw [w64 (by omega) (by omega)]; omega
      simp only [bndD, decide_eq_true (show ((20 * c + 20 : Nat) : Int) ≤ (n : Int) by omega), cond_true, e1, bnoS, chk_t e2, w1]
      rw [show 20 * c + 20 = 20 * (c + 1) by omega]
      refine ih (c + 1) D' (by omega) (by omega) (by omega) e5 (fun d hd => ?_) (fun k h2 h3 => by rw [e4 k (.inr (by omega))]; exact hid k (by omega) h3)
      by_cases hdc : d = c
      · subst hdc; rw [Nat.mul_comm]; exact e3
      · exact blk_out (hdone d (by omega)) e4 (by omega)
    · simp only [bndD, decide_eq_false (show ¬ ((20 * c + 20 : Nat) : Int) ≤ (n : Int) by omega), cond_false]
      have last : ∃ D', slices_insertionSortCmpFunc_int_h_Order_1 ((20 * c : Nat) : Int) (n : Int) D l = some D' ∧ D'.length = D.length ∧ (20 * c < n → Blk l D' (20 * c) n) ∧ (∀ k, k < 20 * c ∨ n ≤ k → dg D' k = dg D k) ∧ Rng l D' := by
        by_cases h2 : 20 * c < n
        · obtain ⟨D', e1, e2, e3, e4, e5⟩ := ins_eq (l := l) (a := 20 * c) (b := n) (D := D) (by omega) h2 (by omega) hr hid
          exact ⟨D', e1, e2, fun _ => e3, e4, e5⟩
        · refine ⟨D, ?_, rfl, fun h => by omega, fun _ _ => rfl, hr⟩
          unfold slices_insertionSortCmpFunc_int_h_Order_1
          have w : IntKind.wrap .i64 (((20 * c : Nat) : Int) + 1) = ((20 * c + 1 : Nat) : Int) := by rw [w64 (by omega) (by omega)]; omega
          simp only [bndD, w]
          show slices_insertionSortCmpFunc_int_h_Order_1_L0 _ _ _ (18446744073709551615 + 1) _ _ = _
          unfold slices_insertionSortCmpFunc_int_h_Order_1_L0
          simp only [bndD, decide_eq_false (show ¬ ((20 * c + 1 : Nat) : Int) < (n : Int) by omega), cond_false]
      obtain ⟨D', e1, e2, e3, e4, e5⟩ := last
      simp only [e1, bnoS, chk_t e2]
      refine merge_out hn fuel 20 D' (fuel_gt (by omega)) (by omega) (by omega) (by omega) e5 fun d _ h3 => ?_
      by_cases hdc : d < c
      · rw [show min (d * 20 + 20) n = d * 20 + 20 by omega]; exact blk_out (hdone d hdc) e4 (by omega)
      · have : d = c := by omega
        subst this
        rw [show min (d * 20 + 20) n = n by omega, Nat.mul_comm]; exact e3 (by omega)
end Go.Fn
set_option linter.unusedSimpArgs false
set_option linter.unusedVariables false
open Go Go.IL Go.Fl
namespace Go.Fn

/-! The order of all. -/
def iota (n : Nat) : List Int := (List.range n).map Int.ofNat
theorem iota_len (n : Nat) : (iota n).length = n := by simp [iota]
theorem iota_succ (n : Nat) : iota (n + 1) = iota n ++ [(n : Int)] := by simp [iota, List.range_succ]
theorem dg_iota {n k : Nat} (h : k < n) : dg (iota n) k = k := by
  unfold dg; rw [List.getD_eq_getElem?_getD, iota, List.getElem?_map, List.getElem?_range h]; rfl
structure Ord (l : List Nat) (D : List Int) : Prop where
  len : D.length = l.length
  rng : Rng l D
  srt : Srt l D 0 l.length
theorem sort_eq {l : List Nat} (hn : l.length ≤ 400) : ∃ D, slices_SortStableFunc_int_int_h_Order_1 (iota l.length) l = some D ∧ Ord l D := by
  unfold slices_SortStableFunc_int_int_h_Order_1 slices_stableCmpFunc_int_h_Order_1
  obtain ⟨D, e1, e2, e3, e4⟩ := ins_blocks (l := l) (n := l.length) hn fuel 0 (iota l.length) (fuel_gt (by omega)) (iota_len _) (by omega) (fun k hk => by
    rw [iota_len] at hk; rw [dg_iota hk]; omega) (fun d hd => by omega) (fun k h1 h2 => dg_iota h2)
  rw [show 20 * 0 = 0 from rfl, show 0 + 20 = 20 from rfl, show ((0 : Nat) : Int) = 0 from rfl, show ((20 : Nat) : Int) = 20 from rfl] at e1
  rw [iota_len, e1, bnoS, chk_t (by rw [e2])]
  exact ⟨D, rfl, e2, e3, e4.1⟩
theorem order_L {l : List Nat} (hn : l.length ≤ 400) : ∀ (f i : Nat), l.length - i < f → i ≤ l.length → ∃ D, gauge_Order_L0 l f (iota i) (i : Int) = some D ∧ Ord l D := by
  intro f
  induction f with
  | zero => intro i h; omega
  | succ f ih =>
    intro i hf hi
    unfold gauge_Order_L0
    by_cases h : i < l.length
    · have w : IntKind.wrap .i64 ((i : Int) + 1) = ((i + 1 : Nat) : Int) := by rw [w64 (by omega) (by omega)]; omega
      have ha : app 8 (iota i) ([(i : Int)] : List Int) = some (iota (i + 1)) := by
        rw [app_ok (by rw [iota_len]; simp; omega) (by rw [iota_len]; simp; omega), iota_succ]
      simp only [bndD, decide_eq_true (show (i : Int) < (l.length : Int) by omega), cond_true, ha, bnoS, w]
      exact ih (i + 1) (by omega) (by omega)
    · have : i = l.length := by omega
      subst this
      obtain ⟨D, e1, e2⟩ := sort_eq hn
      simp only [bndD, decide_eq_false (show ¬ (l.length : Int) < (l.length : Int) by omega), cond_false, e1, bnoS, chk_t (show D.length = (iota l.length).length by rw [iota_len, e2.len])]
      exact ⟨D, rfl, e2⟩
theorem order_ok {l : List Nat} (hn : l.length ≤ 400) : ∃ D, gauge_Order l = some D ∧ Ord l D := by
  unfold gauge_Order
  have := order_L hn fuel 0 (fuel_gt (by omega)) (by omega)
  rwa [show iota 0 = [] from rfl, show ((0 : Nat) : Int) = 0 from rfl] at this

/-! The document's. -/
theorem dg_ins {D : List Int} {k : Nat} {x : Int} (hk : k ≤ D.length) (p : Nat) : dg (D.take k ++ [x] ++ D.drop k) p = if p < k then dg D p else if p = k then x else dg D (p - 1) := by
  unfold dg
  simp only [List.getD_eq_getElem?_getD]
  have e1 : (D.take k).length = k := by rw [List.length_take]; omega
  by_cases c1 : p < k
  · rw [if_pos c1, List.append_assoc, List.getElem?_append_left (by omega), List.getElem?_take, if_pos c1]
  · rw [if_neg c1]
    by_cases c2 : p = k
    · rw [if_pos c2, List.append_assoc, List.getElem?_append_right (by omega), e1, c2, Nat.sub_self]; rfl
    · rw [if_neg c2, List.getElem?_append_right (by rw [List.length_append]; simp; omega), List.length_append, e1, List.getElem?_drop]
      congr 2
      simp; omega
structure OrdTo (l : List Nat) (D : List Int) (i : Nat) : Prop where
  len : D.length = i
  rng : ∀ k, k < i → 0 ≤ dg D k ∧ dg D k < i
  srt : Srt l D 0 i
theorem reforder_in {l : List Nat} {i : Nat} {D : List Int} {kk0 : List Int → Int → Option (List Int)} (hn : l.length ≤ 400) (hi : i < l.length) (hD : OrdTo l D i) : ∀ (f k : Nat), k < f → k ≤ i → (∀ p, k ≤ p → p < i → wk l (dg D p) < wk l (i : Int)) →
    ∃ D', sennitref27_Order_L1 l D (i : Int) kk0 f (k : Int) = kk0 D' ((i + 1 : Nat) : Int) ∧ OrdTo l D' (i + 1) := by
  intro f
  induction f with
  | zero => intro k h; omega
  | succ f ih =>
    intro k hf hk hw
    obtain ⟨h1, h2, h3⟩ := hD
    have fin : (0 < k → wk l (i : Int) ≤ wk l (dg D (k - 1))) → OrdTo l (D.take k ++ [(i : Int)] ++ D.drop k) (i + 1) := by
      intro hk0
      have low : ∀ p, p < k → wk l (i : Int) ≤ wk l (dg D p) := fun p hp => by
        have h4 := hk0 (by omega)
        have h5 := wk_mono h3 (Nat.zero_le p) (show p ≤ k - 1 by omega) (by omega)
        omega
      refine ⟨by simp [h1]; omega, fun p hp => ?_, fun p q _ hpq hq => ?_⟩
      · rw [dg_ins (by omega)]
        by_cases c1 : p < k
        · rw [if_pos c1]; have := h2 p (by omega); omega
        · rw [if_neg c1]
          by_cases c2 : p = k
          · rw [if_pos c2]; omega
          · rw [if_neg c2]; have := h2 (p - 1) (by omega); omega
      · rw [dg_ins (by omega), dg_ins (by omega)]
        by_cases c1 : q < k
        · rw [if_pos (by omega), if_pos c1]; exact h3 p q (by omega) hpq (by omega)
        · rw [if_neg (c := q < k) c1]
          by_cases c2 : q = k
          · rw [if_pos c2, if_pos (by omega)]
            have := low p (by omega)
            have := h2 p (by omega)
            unfold R; omega
          · rw [if_neg c2]
            by_cases c3 : p < k
            · rw [if_pos c3]
              by_cases c5 : p = q - 1
              · omega
              · exact h3 p (q - 1) (by omega) (by omega) (by omega)
            · rw [if_neg c3]
              by_cases c4 : p = k
              · rw [if_pos c4]; left; exact hw (q - 1) (by omega) (by omega)
              · rw [if_neg c4]; exact h3 (p - 1) (q - 1) (by omega) (by omega) (by omega)
    have wi : IntKind.wrap .i64 ((i : Int) + 1) = ((i + 1 : Nat) : Int) := by rw [w64 (by omega) (by omega)]; omega
    have tail : ∀ (o : Option (List Int)), o = (bno (cut D 0 (k : Int)) fun x114 => bno (app 8 ([] : (List Int)) x114) fun x115 => bno (app 8 x115 ([(i : Int)] : (List Int))) fun x116 => bno (cut D (k : Int) (D.length : Int)) fun x117 => bno (app 8 x116 x117) fun x118 => bnd (IntKind.wrap .i64 ((i : Int) + 1)) fun x119 => kk0 x118 x119) → o = kk0 (D.take k ++ [(i : Int)] ++ D.drop k) ((i + 1 : Nat) : Int) := by
      intro o ho
      rw [ho, cut_of (by omega) (by omega), bnoS, Int.toNat_natCast, app_ok (by simp; omega) (by simp; omega), bnoS, app_ok (by simp; omega) (by simp; omega), bnoS, cut_to (by omega) (by omega), bnoS, Int.toNat_natCast, app_ok (by simp; omega) (by simp; omega), bnoS, bndD, wi, List.nil_append]
    unfold sennitref27_Order_L1
    by_cases c : 0 < k
    · have wk1 : IntKind.wrap .i64 ((k : Int) - 1) = ((k - 1 : Nat) : Int) := by rw [w64 (by omega) (by omega)]; omega
      have hk1 : k - 1 < D.length := by omega
      have r := h2 (k - 1) (by omega)
      have g1 : gix l (i : Int) = some (l.getD i 0) := by rw [gix_nat, List.getElem?_eq_getElem hi, List.getD_eq_getElem?_getD, List.getElem?_eq_getElem hi]; rfl
      have g2 : gix l (dg D (k - 1)) = some (l.getD (dg D (k - 1)).toNat 0) := by
        rw [gix_lit l r.1, List.getD_eq_getElem?_getD, List.getElem?_eq_getElem (by omega)]; rfl
      simp only [bndD, decide_eq_true (show (0 : Int) < (k : Int) by omega), beq_self_eq_true, gdtt, g1, bnoS, wk1, gix_dg hk1, g2, refcompare_eq, Bool.true_and]
      have hd : decide (0 < cmpOf (l.getD i 0) (l.getD (dg D (k - 1)).toNat 0)) = decide (wk l (dg D (k - 1)) < wk l (i : Int)) := by
        rw [cmpOf_kk]
        unfold wk
        rw [Int.toNat_natCast]
        by_cases h : kk (l.getD i 0) < kk (l.getD (dg D (k - 1)).toNat 0)
        · rw [if_pos h]; rw [decide_eq_false (by decide), decide_eq_false (by omega)]
        · rw [if_neg h]
          by_cases h' : kk (l.getD (dg D (k - 1)).toNat 0) < kk (l.getD i 0)
          · rw [if_pos h', decide_eq_true h']; rfl
          · rw [if_neg h', decide_eq_false h']; rfl
      rw [hd]
      by_cases hw2 : wk l (dg D (k - 1)) < wk l (i : Int)
      · rw [decide_eq_true hw2, cond_true]
        refine ih (k - 1) (by omega) (by omega) (fun p hp1 hp2 => ?_)
        by_cases hpk : p = k - 1
        · rw [hpk]; exact hw2
        · exact hw p (by omega) hp2
      · rw [decide_eq_false hw2, cond_false]
        exact ⟨_, tail _ rfl, fin fun _ => by omega⟩
    · have hk0 : k = 0 := by omega
      subst hk0
      have ff : (false == true) = false := rfl
      have hz : decide ((0 : Int) < ((0 : Nat) : Int)) = false := rfl
      simp only [bndD, hz, ff, gdff, bnoS, Bool.false_and, cond_false]
      exact ⟨_, tail _ rfl, fin fun h => by omega⟩
theorem reforder_L {l : List Nat} (hn : l.length ≤ 400) : ∀ (f i : Nat) (D : List Int), l.length - i < f → i ≤ l.length → OrdTo l D i → ∃ E, sennitref27_Order_L0 l f D (i : Int) = some E ∧ Ord l E := by
  intro f
  induction f with
  | zero => intro i D h; omega
  | succ f ih =>
    intro i D hf hi hD
    unfold sennitref27_Order_L0
    by_cases h : i < l.length
    · simp only [bndD, decide_eq_true (show (i : Int) < (l.length : Int) by omega), cond_true, hD.len]
      obtain ⟨D', e1, e2⟩ := reforder_in (kk0 := sennitref27_Order_L0 l f) hn h hD fuel i (fuel_gt (by omega)) (Nat.le_refl _) (fun p h1 h2 => by omega)
      rw [e1]
      exact ih (i + 1) D' (by omega) (by omega) e2
    · have : i = l.length := by omega
      subst this
      simp only [bndD, decide_eq_false (show ¬ (l.length : Int) < (l.length : Int) by omega), cond_false]
      exact ⟨D, rfl, hD.len, fun k hk => hD.rng k (by rw [hD.len] at hk; exact hk), hD.srt⟩
theorem reforder_ok {l : List Nat} (hn : l.length ≤ 400) : ∃ D, sennitref27_Order l = some D ∧ Ord l D := by
  unfold sennitref27_Order
  exact reforder_L hn fuel 0 [] (fuel_gt (by omega)) (by omega) ⟨rfl, fun k h => by omega, fun i j h1 h2 h3 => by omega⟩

/-! There is one such order. -/
theorem nodup_len {α : Type} [DecidableEq α] : ∀ (l m : List α), l.Nodup → (∀ x ∈ l, x ∈ m) → l.length ≤ m.length
  | [], m, _, _ => Nat.zero_le _
  | x :: l, m, h, hs => by
    rw [List.nodup_cons] at h
    have h1 := nodup_len l (m.erase x) h.2 (fun y hy => (List.mem_erase_of_ne (by rintro rfl; exact h.1 hy)).2 (hs y (by simp [hy])))
    have h2 := List.length_erase_of_mem (hs x (by simp))
    have h3 : 0 < m.length := List.length_pos_of_mem (hs x (by simp))
    simp only [List.length_cons]; omega
theorem R_irr {l : List Nat} {i : Int} : ¬ R l i i := by unfold R; omega
theorem R_asym {l : List Nat} {i j : Int} (h : R l i j) : ¬ R l j i := by unfold R at *; omega
theorem mem_dg {D : List Int} {x : Int} (h : x ∈ D) : ∃ k, k < D.length ∧ dg D k = x := by
  obtain ⟨k, hk, e⟩ := List.mem_iff_getElem.1 h
  refine ⟨k, hk, ?_⟩
  unfold dg; rw [List.getD_eq_getElem?_getD, List.getElem?_eq_getElem hk, e]; rfl
theorem dg_getElem {D : List Int} {k : Nat} (h : k < D.length) : D[k] = dg D k := by
  unfold dg; rw [List.getD_eq_getElem?_getD, List.getElem?_eq_getElem h]; rfl
theorem ord_all {l : List Nat} {D : List Int} (h : Ord l D) {y : Nat} (hy : y < l.length) : ∃ k, k < l.length ∧ dg D k = y := by
  refine Decidable.byContradiction fun hn => ?_
  have hnd : D.Nodup := by
    rw [List.Nodup, List.pairwise_iff_getElem]
    intro i j hi hj hij e
    rw [dg_getElem hi, dg_getElem hj] at e
    have := h.srt i j (Nat.zero_le _) hij (by rw [← h.len]; exact hj)
    rw [e] at this; exact R_irr this
  have h1 := nodup_len D ((iota l.length).erase (y : Int)) hnd fun x hx => by
    obtain ⟨k, hk, rfl⟩ := mem_dg hx
    have hr := h.rng k hk
    refine (List.mem_erase_of_ne fun e => hn ⟨k, by rw [← h.len]; exact hk, e⟩).2 ?_
    unfold iota
    exact List.mem_map.2 ⟨(dg D k).toNat, List.mem_range.2 (by omega), Int.toNat_of_nonneg hr.1⟩
  have h2 : (y : Int) ∈ iota l.length := List.mem_map.2 ⟨y, List.mem_range.2 hy, rfl⟩
  rw [List.length_erase_of_mem h2, iota_len, h.len] at h1
  omega
theorem ord_uniq {l : List Nat} {D E : List Int} (h1 : Ord l D) (h2 : Ord l E) : D = E := by
  have key : ∀ n k, k < n → k < l.length → dg D k = dg E k := by
    intro n
    induction n with
    | zero => intro k h; omega
    | succ n ih =>
      intro k hk hkl
      by_cases c : k < n
      · exact ih k c hkl
      · have hkn : k = n := by omega
        have r1 := h1.rng k (by rw [h1.len]; exact hkl)
        have r2 := h2.rng k (by rw [h2.len]; exact hkl)
        obtain ⟨j, j1, j2⟩ := ord_all h2 (y := (dg D k).toNat) (by omega)
        obtain ⟨i, i1, i2⟩ := ord_all h1 (y := (dg E k).toNat) (by omega)
        rw [Int.toNat_of_nonneg r1.1] at j2
        rw [Int.toNat_of_nonneg r2.1] at i2
        by_cases cj : j < k
        · have := ih j (by omega) j1
          rw [j2] at this
          have h5 := h1.srt j k (Nat.zero_le _) cj hkl
          rw [this] at h5; exact absurd h5 R_irr
        · by_cases ci : i < k
          · have := ih i (by omega) i1
            rw [i2] at this
            have h5 := h2.srt i k (Nat.zero_le _) ci hkl
            rw [← this] at h5; exact absurd h5 R_irr
          · by_cases e1 : j = k
            · rw [← j2, e1]
            · by_cases e2 : i = k
              · rw [← i2, e2]
              · have g1 := h2.srt k j (Nat.zero_le _) (by omega) j1
                have g2 := h1.srt k i (Nat.zero_le _) (by omega) i1
                rw [j2] at g1; rw [i2] at g2
                exact absurd g2 (R_asym g1)
  refine List.ext_getElem (by rw [h1.len, h2.len]) fun k hk1 hk2 => ?_
  rw [dg_getElem hk1, dg_getElem hk2]
  exact key (k + 1) k (Nat.lt_succ_self _) (by rw [← h1.len]; exact hk1)
theorem order_same {l : List Nat} (hn : l.length ≤ 400) : ∃ D, gauge_Order l = some D ∧ sennitref27_Order l = some D ∧ Ord l D := by
  obtain ⟨D, e1, e2⟩ := order_ok hn
  obtain ⟨E, f1, f2⟩ := reforder_ok hn
  have := ord_uniq e2 f2
  subst this
  exact ⟨D, e1, f1, e2⟩

/-! The best. -/
def bestOf (l : List Nat) (D : List Int) : Int := if l.length = 0 then -1 else if isNan (l.getD (dg D 0).toNat 0) then -1 else dg D 0
theorem best_eq {l : List Nat} {D : List Int} (hg : gauge_Order l = some D) (hD : Ord l D) : gauge_Best l = some (bestOf l D) := by
  unfold gauge_Best bestOf
  simp only [hg, bnoS, bndD]
  by_cases h0 : l.length = 0
  · have : (D.length : Int) = 0 := by rw [hD.len, h0]; rfl
    rw [decide_eq_true this, if_pos h0]; simp [gd, bnoS]
  · have hne : ¬ (D.length : Int) = 0 := by rw [hD.len]; omega
    have h1 : 0 < D.length := by omega
    have r := hD.rng 0 h1
    have g1 : gix D 0 = some (dg D 0) := by have := gix_dg h1; rwa [show ((0 : Nat) : Int) = 0 from rfl] at this
    have g2 : gix l (dg D 0) = some (l.getD (dg D 0).toNat 0) := by rw [gix_lit l r.1, List.getD_eq_getElem?_getD, List.getElem?_eq_getElem (by omega)]; rfl
    have ff : (false == false) = true := rfl
    simp only [decide_eq_false hne, ff, gdtt, g1, bnoS, g2, isnan_eq, Bool.false_or, if_neg h0]
    cases isNan (l.getD (dg D 0).toNat 0) <;> rfl
structure BestTo (l : List Nat) (b : Int) (i : Nat) : Prop where
  no : b < 0 → b = -1 ∧ ∀ k, k < i → isNan (l.getD k 0) = true
  yes : 0 ≤ b → b < i ∧ isNan (l.getD b.toNat 0) = false ∧ ∀ k : Nat, k < i → (k : Int) ≠ b → R l b k
theorem wk_nan {l : List Nat} {k : Nat} (h : isNan (l.getD k 0) = true) : wk l (k : Int) = -18446744073709551616 := by
  unfold wk kk; rw [Int.toNat_natCast, h]; rfl
theorem wk_num {l : List Nat} {k : Nat} (h : isNan (l.getD k 0) = false) : -9223372036854775808 < wk l (k : Int) := by
  unfold wk kk; rw [Int.toNat_natCast, h]; exact K_ge _
theorem refbest_L {l : List Nat} (hn : l.length ≤ 400) : ∀ (f i : Nat) (b : Int), l.length - i < f → i ≤ l.length → BestTo l b i → ∃ c, sennitref27_Best_L0 l f b (i : Int) = some c ∧ BestTo l c l.length := by
  intro f
  induction f with
  | zero => intro i b h; omega
  | succ f ih =>
    intro i b hf hi hb
    unfold sennitref27_Best_L0
    by_cases h : i < l.length
    · have wi : IntKind.wrap .i64 ((i : Int) + 1) = ((i + 1 : Nat) : Int) := by rw [w64 (by omega) (by omega)]; omega
      have g1 : gix l (i : Int) = some (l.getD i 0) := by rw [gix_nat, List.getElem?_eq_getElem h, List.getD_eq_getElem?_getD, List.getElem?_eq_getElem h]; rfl
      simp only [bndD, decide_eq_true (show (i : Int) < (l.length : Int) by omega), cond_true, g1, bnoS, nan_eq, wi]
      cases hna : isNan (l.getD i 0) with
      | true =>
        have e : ((!true) == true) = false := rfl
        simp only [e, Bool.false_and, gdff, bnoS, Bool.not_true, cond_false]
        refine ih (i + 1) b (by omega) (by omega) ⟨fun hb0 => ⟨(hb.no hb0).1, fun k hk => ?_⟩, fun hb0 => ?_⟩
        · by_cases hki : k = i
          · rw [hki]; exact hna
          · exact (hb.no hb0).2 k (by omega)
        · obtain ⟨y1, y2, y3⟩ := hb.yes hb0
          refine ⟨by omega, y2, fun k hk hkb => ?_⟩
          by_cases hki : k = i
          · subst hki
            have h1 := wk_nan hna
            have h2 := wk_num (l := l) (k := b.toNat) y2
            rw [Int.toNat_of_nonneg hb0] at h2
            unfold R; omega
          · exact y3 k (by omega) hkb
      | false =>
        have e : ((!false) == true) = true := rfl
        simp only [e, Bool.true_and, Bool.not_false]
        by_cases hb0 : b < 0
        · have e2 : (true == false) = false := rfl
          simp only [decide_eq_true hb0, e2, gdff, bnoS, Bool.true_or, cond_true]
          refine ih (i + 1) (i : Int) (by omega) (by omega) ⟨fun h => by omega, fun _ => ⟨by omega, by rw [Int.toNat_natCast]; exact hna, fun k hk hki => ?_⟩⟩
          have hk' : k < i := by omega
          have h1 := wk_nan ((hb.no hb0).2 k hk')
          have h2 := wk_num hna
          unfold R; omega
        · obtain ⟨y1, y2, y3⟩ := hb.yes (by omega)
          have g2 : gix l b = some (l.getD b.toNat 0) := by rw [gix_lit l (by omega), List.getD_eq_getElem?_getD, List.getElem?_eq_getElem (by omega)]; rfl
          have e2 : (false == false) = true := rfl
          have e3 : (true == true) = true := rfl
          simp only [decide_eq_false hb0, e2, e3, Bool.and_true, gdtt, g1, g2, bnoS, refcompare_eq, Bool.false_or]
          have hd : decide (0 < cmpOf (l.getD i 0) (l.getD b.toNat 0)) = decide (wk l b < wk l (i : Int)) := by
            rw [cmpOf_kk]; unfold wk; rw [Int.toNat_natCast]
            by_cases h : kk (l.getD i 0) < kk (l.getD b.toNat 0)
            · rw [if_pos h, decide_eq_false (by decide), decide_eq_false (by omega)]
            · rw [if_neg h]
              by_cases h' : kk (l.getD b.toNat 0) < kk (l.getD i 0)
              · rw [if_pos h', decide_eq_true h']; rfl
              · rw [if_neg h', decide_eq_false h']; rfl
          rw [hd]
          by_cases hw : wk l b < wk l (i : Int)
          · rw [decide_eq_true hw, cond_true]
            refine ih (i + 1) (i : Int) (by omega) (by omega) ⟨fun h => by omega, fun _ => ⟨by omega, by rw [Int.toNat_natCast]; exact hna, fun k hk hki => ?_⟩⟩
            by_cases hkb : (k : Int) = b
            · rw [hkb]; left; exact hw
            · have := y3 k (by omega) hkb
              unfold R at *; omega
          · rw [decide_eq_false hw, cond_false]
            refine ih (i + 1) b (by omega) (by omega) ⟨fun h => by omega, fun _ => ⟨by omega, y2, fun k hk hkb => ?_⟩⟩
            by_cases hki : k = i
            · subst hki; unfold R; omega
            · exact y3 k (by omega) hkb
    · have : i = l.length := by omega
      subst this
      simp only [bndD, decide_eq_false (show ¬ (l.length : Int) < (l.length : Int) by omega), cond_false]
      exact ⟨b, rfl, hb⟩
theorem refbest_eq {l : List Nat} {D : List Int} (hn : l.length ≤ 400) (hD : Ord l D) : sennitref27_Best l = some (bestOf l D) := by
  unfold sennitref27_Best
  obtain ⟨c, e, hc⟩ := refbest_L hn fuel 0 (-1) (fuel_gt (by omega)) (by omega) ⟨fun _ => ⟨rfl, fun k h => by omega⟩, fun h => by omega⟩
  rw [show (0 : Int) = ((0 : Nat) : Int) from rfl, e]
  congr 1
  unfold bestOf
  by_cases h0 : l.length = 0
  · rw [if_pos h0]
    by_cases hb : c < 0
    · exact (hc.no hb).1
    · have := (hc.yes (by omega)).1; omega
  · rw [if_neg h0]
    have r := hD.rng 0 (by rw [hD.len]; omega)
    by_cases hb : c < 0
    · rw [(hc.no hb).2 _ (by omega)]; exact (hc.no hb).1
    · obtain ⟨y1, y2, y3⟩ := hc.yes (by omega)
      have hc0 : dg D 0 = c := by
        refine Decidable.byContradiction fun hne => ?_
        have h1 := y3 (dg D 0).toNat (by omega) (by omega)
        rw [Int.toNat_of_nonneg r.1] at h1
        obtain ⟨k, k1, k2⟩ := ord_all hD (y := c.toNat) (by omega)
        rw [Int.toNat_of_nonneg (by omega)] at k2
        have hk0 : k ≠ 0 := by rintro rfl; exact hne k2
        have h2 := hD.srt 0 k (Nat.zero_le _) (by omega) k1
        rw [k2] at h2
        exact R_asym h1 h2
      rw [hc0, y2]; simp
end Go.Fn
set_option linter.unusedSimpArgs false
set_option linter.unusedVariables false
open Go Go.IL
namespace Go.Fn
theorem check28_ok {s : S28} (h : check28 s = 0) : (lns s).any both = false ∧ nums28 s = true ∧ asc none s.Binds = true ∧ upsOk s = true := by
  unfold check28 at h
  cases h1 : (lns s).any both <;> rw [h1] at h
  · cases h2 : nums28 s <;> rw [h2] at h
    · cases h
    · cases h3 : asc none s.Binds <;> rw [h3] at h
      · cases h
      · cases h4 : upsOk s <;> rw [h4] at h
        · cases h
        · exact ⟨rfl, rfl, rfl, rfl⟩
  · cases h
theorem check28_of {s : S28} (h1 : (lns s).any both = false) (h2 : nums28 s = true) (h3 : asc none s.Binds = true) (h4 : upsOk s = true) : check28 s = 0 := by
  unfold check28; rw [h1, h2, h3, h4]; rfl
theorem line_mem (s : S28) {k : Int} (h : bet k 0 3 = true) : lineAt s k ∈ lns s := by
  rcases four h with rfl | rfl | rfl | rfl <;> simp [lineAt]
theorem nums_line {s : S28} (h : nums28 s = true) {k : Int} (hb : bet k 0 3 = true) : (0 ≤ (lineAt s k).Bytes ∧ (lineAt s k).Bytes ≤ 1099511627776) ∧ 0 ≤ (lineAt s k).Ticks ∧ (lineAt s k).Ticks ≤ 1099511627776 := by
  unfold nums28 at h
  rw [Bool.and_eq_true] at h
  have := List.all_eq_true.1 h.1 _ (line_mem s hb)
  unfold fits at this
  rw [Bool.and_eq_true, bet_iff, bet_iff] at this
  exact this
/-! Note. -/
def noted (x : L28) (b t : Int) : L28 := if 1073741824 < x.Bytes + b ∨ 1073741824 < x.Ticks + t then ⟨x.Up, x.Dead, (x.Bytes + b) / 2, (x.Ticks + t) / 2⟩ else ⟨x.Up, x.Dead, x.Bytes + b, x.Ticks + t⟩
def noteS (s : S28) (k b t : Int) : S28 := if bet k 0 3 = true ∧ (lineAt s k).Up = true ∧ bet b 0 1048576 = true ∧ bet t 0 1048576 = true ∧ check28 s = 0 then setL s k (noted (lineAt s k) b t) else s
theorem g0 {α : Type} (a b c d : α) : gix [a, b, c, d] 0 = some a := rfl
theorem g1 {α : Type} (a b c d : α) : gix [a, b, c, d] 1 = some b := rfl
theorem g2 {α : Type} (a b c d : α) : gix [a, b, c, d] 2 = some c := rfl
theorem g3 {α : Type} (a b c d : α) : gix [a, b, c, d] 3 = some d := rfl
theorem z01 : decide ((0 : Int) = 1) = false := rfl
theorem z02 : decide ((0 : Int) = 2) = false := rfl
theorem z03 : decide ((0 : Int) = 3) = false := rfl
theorem z10 : decide ((1 : Int) = 0) = false := rfl
theorem z12 : decide ((1 : Int) = 2) = false := rfl
theorem z13 : decide ((1 : Int) = 3) = false := rfl
theorem z20 : decide ((2 : Int) = 0) = false := rfl
theorem z21 : decide ((2 : Int) = 1) = false := rfl
theorem z23 : decide ((2 : Int) = 3) = false := rfl
theorem z30 : decide ((3 : Int) = 0) = false := rfl
theorem z31 : decide ((3 : Int) = 1) = false := rfl
theorem z32 : decide ((3 : Int) = 2) = false := rfl
theorem note_eq {s : S28} (k b t : Int) (hl : s.Binds.length ≤ 1000) : paths_Note s k b t = some (noteS s k b t) := by
  unfold paths_Note noteS
  rw [ownh28 hl, bnoS, up_eq, bnoS, check_eq (by omega)]
  simp only [bndD, pin_eq]
  unfold upAt
  cases hb : bet k 0 3
  · rw [if_neg (by simp)]; rfl
  · cases hu : (lineAt s k).Up
    · rw [if_neg (by simp)]; rfl
    · cases h2 : bet b 0 1048576
      · rw [if_neg (by simp)]; rfl
      · cases h3 : bet t 0 1048576
        · rw [if_neg (by simp)]; rfl
        · by_cases hc : check28 s = 0
          · rw [if_pos (by simp [hc])]
            obtain ⟨n1, n2⟩ := nums_line (check28_ok hc).2.1 hb
            have e2 := bet_iff.1 h2
            have e3 := bet_iff.1 h3
            simp only [Bool.and_self, Bool.not_true, beq_self_eq_true, gdtt, bnoS, decide_eq_true hc, Bool.or_self, bif_ff, chk_k hb]
            unfold noted
            have q1 : quoI .i64 ((lineAt s k).Bytes + b) 2 = some (((lineAt s k).Bytes + b) / 2) := quo_ok (by omega) (by omega) (by decide)
            have q2 : quoI .i64 ((lineAt s k).Ticks + t) 2 = some (((lineAt s k).Ticks + t) / 2) := quo_ok (by omega) (by omega) (by decide)
            have w1 : IntKind.wrap .i64 ((lineAt s k).Bytes + b) = (lineAt s k).Bytes + b := w64 (by omega) (by omega)
            have w2 : IntKind.wrap .i64 ((lineAt s k).Ticks + t) = (lineAt s k).Ticks + t := w64 (by omega) (by omega)
            have hm : decide (1073741824 < max ((lineAt s k).Bytes + b) ((lineAt s k).Ticks + t)) = decide (1073741824 < (lineAt s k).Bytes + b ∨ 1073741824 < (lineAt s k).Ticks + t) := decide_eq_decide.2 (by omega)
            rcases four hb with rfl | rfl | rfl | rfl
            · simp only [lineAt, if_true] at q1 q2 w1 w2 hm
              simp only [g0, bnoS, w1, w2, decide_true, z01, z02, z03, bif_tt, bif_ff, hm, q1, q2]
              unfold setL lineAt
              by_cases h : 1073741824 < s.Lines.c0.Bytes + b ∨ 1073741824 < s.Lines.c0.Ticks + t
              · simp only [decide_eq_true h, bif_tt, if_true, if_pos h]; rfl
              · simp only [decide_eq_false h, bif_ff, if_true, if_neg h]; rfl
            · simp only [lineAt, show ¬ (1 : Int) = 0 by decide, if_false, if_true] at q1 q2 w1 w2 hm
              simp only [g1, bnoS, w1, w2, z10, z12, z13, decide_true, bif_tt, bif_ff, hm, q1, q2]
              unfold setL lineAt
              by_cases h : 1073741824 < s.Lines.c1.Bytes + b ∨ 1073741824 < s.Lines.c1.Ticks + t
              · simp only [decide_eq_true h, bif_tt, show ¬ (1 : Int) = 0 by decide, if_false, if_true, if_pos h]; rfl
              · simp only [decide_eq_false h, bif_ff, show ¬ (1 : Int) = 0 by decide, if_false, if_true, if_neg h]; rfl
            · simp only [lineAt, show ¬ (2 : Int) = 0 by decide, show ¬ (2 : Int) = 1 by decide, if_false, if_true] at q1 q2 w1 w2 hm
              simp only [g2, bnoS, w1, w2, z20, z21, z23, decide_true, bif_tt, bif_ff, hm, q1, q2]
              unfold setL lineAt
              by_cases h : 1073741824 < s.Lines.c2.Bytes + b ∨ 1073741824 < s.Lines.c2.Ticks + t
              · simp only [decide_eq_true h, bif_tt, show ¬ (2 : Int) = 0 by decide, show ¬ (2 : Int) = 1 by decide, if_false, if_true, if_pos h]; rfl
              · simp only [decide_eq_false h, bif_ff, show ¬ (2 : Int) = 0 by decide, show ¬ (2 : Int) = 1 by decide, if_false, if_true, if_neg h]; rfl
            · simp only [lineAt, show ¬ (3 : Int) = 0 by decide, show ¬ (3 : Int) = 1 by decide, show ¬ (3 : Int) = 2 by decide, if_false, if_true] at q1 q2 w1 w2 hm
              simp only [g3, bnoS, w1, w2, z30, z31, z32, decide_true, bif_tt, bif_ff, hm, q1, q2]
              unfold setL lineAt
              by_cases h : 1073741824 < s.Lines.c3.Bytes + b ∨ 1073741824 < s.Lines.c3.Ticks + t
              · simp only [decide_eq_true h, bif_tt, show ¬ (3 : Int) = 0 by decide, show ¬ (3 : Int) = 1 by decide, show ¬ (3 : Int) = 2 by decide, if_false, if_true, if_pos h]
              · simp only [decide_eq_false h, bif_ff, show ¬ (3 : Int) = 0 by decide, show ¬ (3 : Int) = 1 by decide, show ¬ (3 : Int) = 2 by decide, if_false, if_true, if_neg h]
          · rw [if_neg (by simp [hc])]
            simp only [Bool.and_self, Bool.not_true, beq_self_eq_true, gdtt, bnoS, decide_eq_false hc, Bool.not_false, Bool.or_self, Bool.or_true, bif_tt]
/-! Who is up, and how fast. -/
def aliveS (s : S28) : List Int := [0, 1, 2, 3].filter (upAt s)
theorem alive_eq (s : S28) : paths_Alive s = some (aliveS s) := by
  obtain ⟨⟨⟨u0, d0, b0, t0⟩, ⟨u1, d1, b1, t1⟩, ⟨u2, d2, b2, t2⟩, ⟨u3, d3, b3, t3⟩⟩, p, l⟩ := s
  cases u0 <;> cases u1 <;> cases u2 <;> cases u3 <;> kernel_rfl
def rate (b t : Int) : Nat := fAr .quo (floatOfInt .f64 b) (floatOfInt .f64 t)
def ratesS (s : S28) : List Nat := (lns s).map fun x => bif x.Up then rate x.Bytes x.Ticks else rate 0 0
theorem rates_eq (s : S28) : paths_Rates s = some (ratesS s) := by
  obtain ⟨⟨⟨u0, d0, b0, t0⟩, ⟨u1, d1, b1, t1⟩, ⟨u2, d2, b2, t2⟩, ⟨u3, d3, b3, t3⟩⟩, p, l⟩ := s
  cases u0 <;> cases u1 <;> cases u2 <;> cases u3 <;> kernel_rfl
end Go.Fn
set_option linter.unusedSimpArgs false
set_option linter.unusedVariables false
open Go Go.IL
namespace Go.Fn
def bestG (l : List Nat) : Int := (gauge_Best l).getD (-1)
theorem bestG_ok {l : List Nat} (hn : l.length ≤ 400) : gauge_Best l = some (bestG l) ∧ sennitref27_Best l = some (bestG l) ∧ (bestG l = -1 ∨ 0 ≤ bestG l ∧ bestG l < l.length) := by
  obtain ⟨D, h1, h2, h3⟩ := order_same hn
  have h4 := best_eq h1 h3
  have h5 := refbest_eq hn h3
  have e : bestG l = bestOf l D := by unfold bestG; rw [h4]; rfl
  refine ⟨by rw [e]; exact h4, by rw [e]; exact h5, ?_⟩
  rw [e]; unfold bestOf
  split
  · exact .inl rfl
  · split
    · exact .inl rfl
    · right; exact h3.rng 0 (by rw [h3.len]; omega)
theorem rates_len (s : S28) : (ratesS s).length = 4 := rfl
theorem alive_len (s : S28) : (aliveS s).length ≤ 4 := List.length_filter_le _ _
def bestS (s : S28) : Int := if 0 ≤ bestG (ratesS s) then bestG (ratesS s) else (aliveS s).headD (-1)
theorem best28 (s : S28) : paths_State_best s = some (bestS s) := by
  obtain ⟨h1, h2, h3⟩ := bestG_ok (l := ratesS s) (by rw [rates_len]; decide)
  unfold paths_State_best bestS
  rw [rates_eq, bnoS, h1, bnoS, bndD]
  by_cases h : 0 ≤ bestG (ratesS s)
  · rw [decide_eq_true h, bif_tt, if_pos h]
  · rw [decide_eq_false h, bif_ff, if_neg h, alive_eq, bnoS, bndD]
    cases aliveS s with
    | nil => rfl
    | cons a l => rw [decide_eq_true (by simp)]; rfl
theorem pbest_eq {s : S28} (hl : s.Binds.length ≤ 1000) : paths_Best s = some (if check28 s = 0 then bestS s else -1) := by
  unfold paths_Best
  rw [check_eq (by omega), bnoS, bndD]
  by_cases h : check28 s = 0
  · rw [decide_eq_true h, if_pos h, Bool.not_true, bif_ff, best28, bnoS]
  · rw [decide_eq_false h, if_neg h]; rfl
theorem asc_pw : ∀ (l : List B28) (o : Option B28), asc o l = true → l.Pairwise (fun a b => a.Stream < b.Stream) ∧ ∀ a, o = some a → ∀ b ∈ l, a.Stream < b.Stream
  | [], o, _ => ⟨.nil, fun a _ b hb => (List.not_mem_nil hb).elim⟩
  | x :: l, none, h => by
    obtain ⟨h1, h2⟩ := asc_pw l (some x) h
    exact ⟨.cons (h2 x rfl) h1, fun a ha => by cases ha⟩
  | x :: l, some y, h => by
    rw [asc, Bool.and_eq_true] at h
    have hxy := of_decide_eq_true h.1
    obtain ⟨h1, h2⟩ := asc_pw l (some x) h.2
    refine ⟨.cons (h2 x rfl) h1, fun a ha b hb => ?_⟩
    cases ha
    rcases List.mem_cons.1 hb with rfl | hb
    · exact hxy
    · have := h2 x rfl b hb; omega
theorem bind_ok {s : S28} (h : check28 s = 0) {b : B28} (hb : b ∈ s.Binds) : (1 ≤ b.Stream ∧ b.Stream ≤ 1048576) ∧ 0 ≤ b.Path ∧ b.Path ≤ 3 := by
  have h1 := (check28_ok h).2.1
  unfold nums28 at h1
  simp only [Bool.and_eq_true, Bool.not_eq_true', List.any_eq_false] at h1
  have := wrong_bet (by simpa using h1.2.2 b hb)
  rw [bet_iff, bet_iff] at this
  exact this
theorem binds32 {s : S28} (h : check28 s = 0) : s.Binds.length ≤ 32 := by
  have h1 := (check28_ok h).2.1
  unfold nums28 at h1
  simp only [Bool.and_eq_true, decide_eq_true_eq] at h1
  omega
/-! Choose. -/
def chooseS (s : S28) (n : Int) : S28 × Int :=
  if bet n 1 1048576 = true ∧ check28 s = 0 then
    match s.Binds.find? (fun b => decide (b.Stream = n)) with
    | some b => (s, b.Path)
    | none => if bestS s = -1 ∨ 32 ≤ s.Binds.length then (s, bestS s) else (⟨s.Lines, s.Pinned, s.Binds.filter (fun b => decide (b.Stream < n)) ++ [⟨n, bestS s⟩] ++ s.Binds.filter (fun b => decide (n ≤ b.Stream))⟩, bestS s)
  else (s, -1)
theorem find28 {s : S28} {n : Int} (hn : bet n 1 1048576 = true) (hc : check28 s = 0) : ∃ a b : List B28, s.Binds = a ++ b ∧ a = s.Binds.filter (fun y => decide (y.Stream < n)) ∧ b = s.Binds.filter (fun y => decide (n ≤ y.Stream)) ∧
    ((∃ y c, b = y :: c ∧ y.Stream = n ∧ paths_State_find s n = some ((a.length : Int), true)) ∨ ((∀ y ∈ s.Binds, y.Stream ≠ n) ∧ paths_State_find s n = some ((a.length : Int), false))) := by
  have hl := binds32 hc
  have hn := bet_iff.1 hn
  obtain ⟨a, b, h1, h2, h3, h4⟩ := binaryFunc_gen (dflt := default) (C := fun y => paths_State_find_1 y n) (c := fun y => y.Stream - n) (key := fun y => y.Stream) (x := n) (L := slices_BinarySearchFunc_paths_Bind_paths_Bind_int_find_1_L0 s.Binds n) (l := s.Binds)
    (fun y hy => by have := (bind_ok hc hy).1; unfold paths_State_find_1; rw [bndD, w64 (by omega) (by omega)]) (fun y _ => ⟨by omega, by omega⟩) (fun _ _ _ => rfl) (by omega) (asc_pw _ _ (check28_ok hc).2.2.1).1
  refine ⟨a, b, h1, h2, h3, ?_⟩
  rcases h4 with ⟨y, c, e1, e2, e3⟩ | ⟨e1, e3⟩
  · left; refine ⟨y, c, e1, e2, ?_⟩
    unfold paths_State_find slices_BinarySearchFunc_paths_Bind_paths_Bind_int_find_1
    rw [e3]; rfl
  · right; refine ⟨e1, ?_⟩
    unfold paths_State_find slices_BinarySearchFunc_paths_Bind_paths_Bind_int_find_1
    rw [e3]; rfl
theorem find_some28 {l a b c : List B28} {y : B28} {n : Int} (h1 : l = a ++ b) (h2 : a = l.filter (fun y => decide (y.Stream < n))) (h3 : b = y :: c) (h4 : y.Stream = n) : l.find? (fun b => decide (b.Stream = n)) = some y := by
  rw [h1, h3, List.find?_append]
  have : a.find? (fun b => decide (b.Stream = n)) = none := by
    rw [List.find?_eq_none]
    intro x hx
    rw [h2] at hx
    have := (List.mem_filter.1 hx).2
    simp at this ⊢; omega
  rw [this]; simp [h4]
theorem find_none28 {l : List B28} {n : Int} (h : ∀ y ∈ l, y.Stream ≠ n) : l.find? (fun b => decide (b.Stream = n)) = none := by
  rw [List.find?_eq_none]; intro x hx; simpa using h x hx
theorem choose_eq {s : S28} (n : Int) (hl : s.Binds.length ≤ 1000) : paths_Choose s n = some (chooseS s n) := by
  unfold paths_Choose chooseS
  rw [ownh28 hl, bnoS, pin_eq, bnoS, check_eq (by omega)]
  simp only [bndD]
  cases hn : bet n 1 1048576
  · rw [if_neg (by simp)]; rfl
  · by_cases hc : check28 s = 0
    · rw [if_pos ⟨rfl, hc⟩]
      simp only [Bool.not_true, beq_self_eq_true, gdtt, bnoS, decide_eq_true hc, Bool.or_self, bif_ff]
      obtain ⟨a, b, h1, h2, h3, ⟨y, c, e1, e2, e3⟩ | ⟨e1, e3⟩⟩ := find28 hn hc
      · rw [e3, bnoS]
        simp only [bif_tt]
        rw [gix_at (l := s.Binds) (p := a) (r := c) (x := y) (by rw [h1, e1]), bnoS, find_some28 h1 h2 e1 e2]
      · rw [e3, bnoS]
        simp only [bif_ff]
        rw [best28, bnoS, find_none28 e1]
        by_cases hb : bestS s = -1 ∨ 32 ≤ s.Binds.length
        · rw [show (!decide (bestS s = -1) && decide ((s.Binds.length : Int) < 32)) = false by rcases hb with hb | hb; simp [hb]; rw [decide_eq_false (show ¬ (s.Binds.length : Int) < 32 by omega), Bool.and_false], bif_ff]
          simp only [if_pos hb]; rfl
        · rw [show (!decide (bestS s = -1) && decide ((s.Binds.length : Int) < 32)) = true by simp only [not_or] at hb; rw [decide_eq_false hb.1, decide_eq_true (by omega)]; rfl, bif_tt]
          have ha : a.length ≤ s.Binds.length := by rw [h1]; simp
          simp only [slices_Insert_paths_Bind_paths_Bind_h, if_neg hb]
          rw [insS_ok (by omega) (by omega) (by simp; omega) (by simp; omega), bnoS, Int.toNat_natCast]
          rw [← h2, ← h3]
          rw [show s.Binds.take a.length = a by rw [h1]; simp, show s.Binds.drop a.length = b by rw [h1]; simp]; rfl
    · rw [if_neg (by simp [hc])]
      simp only [Bool.not_true, beq_self_eq_true, gdtt, bnoS, decide_eq_false hc, Bool.not_false, Bool.or_true, bif_tt]
/-! Pin. -/
def pinS (s : S28) : S28 × Int := if check28 s = 0 then (if s.Pinned = -1 then (⟨s.Lines, bestS s, s.Binds⟩, bestS s) else (s, s.Pinned)) else (s, -1)
theorem pinned_eq {s : S28} (hl : s.Binds.length ≤ 1000) : paths_Pin s = some (pinS s) := by
  unfold paths_Pin pinS
  rw [ownh28 hl, bnoS, check_eq (by omega), bnoS]
  simp only [bndD]
  by_cases hc : check28 s = 0
  · rw [decide_eq_true hc, if_pos hc, Bool.not_true, bif_ff]
    by_cases hp : s.Pinned = -1
    · rw [decide_eq_true hp, if_pos hp, bif_tt, best28, bnoS]; rfl
    · rw [decide_eq_false hp, if_neg hp, bif_ff]; rfl
  · rw [decide_eq_false hc, if_neg hc]; rfl
end Go.Fn
set_option linter.unusedSimpArgs false
set_option linter.unusedVariables false
open Go Go.IL
namespace Go.Fn
theorem rise_len (s : S28) (k : Int) : (riseS s k).1.Binds = s.Binds := by unfold riseS; split <;> rfl
theorem note_len (s : S28) (k b t : Int) : (noteS s k b t).Binds = s.Binds := by unfold noteS; split <;> rfl
end Go.Fn
set_option linter.unusedSimpArgs false
set_option linter.unusedVariables false
open Go Go.IL
namespace Go.Fn
theorem is_L {l : List Int} {x : Int} (hl : l.length ≤ 1000000) : ∀ (r p : List Int) (f : Nat), l = p ++ r → r.length < f → sennitlaw28_is_L0 l x f (p.length : Int) = some (decide (x ∈ r))
  | [], p, f + 1, h, _ => by
    unfold sennitlaw28_is_L0
    simp only [bndD, lt_end h, bif_ff]; rfl
  | y :: r, p, f + 1, h, hf => by
    unfold sennitlaw28_is_L0
    simp only [bndD, lt_at h, bif_tt, gix_at h, bnoS, w_at h hl]
    by_cases hx : y = x
    · subst hx; rw [decide_eq_true rfl, bif_tt]; simp
    · rw [decide_eq_false hx, bif_ff, is_L hl r (p ++ [y]) f (next_at h) (by simpa using hf)]
      simp [show ¬ x = y from fun h => hx h.symm]
theorem is28 {l : List Int} (x : Int) (hl : l.length ≤ 1000000) : sennitlaw28_is l x = some (decide (x ∈ l)) := is_L hl l [] fuel rfl (fuel_gt (by omega))
theorem mem_alive {s : S28} {k : Int} : k ∈ aliveS s ↔ upAt s k = true := by
  unfold aliveS
  rw [List.mem_filter]
  refine ⟨fun h => h.2, fun h => ⟨?_, h⟩⟩
  unfold upAt at h
  rw [Bool.and_eq_true] at h
  rcases four h.1 with rfl | rfl | rfl | rfl <;> simp
theorem is_alive (s : S28) (k : Int) : sennitlaw28_is (aliveS s) k = some (upAt s k) := by
  rw [is28 k (Nat.le_trans (alive_len s) (by decide))]
  congr 1
  rw [Bool.eq_iff_iff, decide_eq_true_iff]; exact mem_alive
theorem rate00 : isNan (rate 0 0) = true := by unfold rate; rw [toF0, quo00]; decide +kernel
theorem bestG_nn {l : List Nat} (hn : l.length ≤ 400) (h : 0 ≤ bestG l) : isNan (l.getD (bestG l).toNat 0) = false ∧ ∀ k, k < l.length → kk (l.getD k 0) ≤ kk (l.getD (bestG l).toNat 0) := by
  obtain ⟨D, h1, h2, h3⟩ := order_same hn
  have h4 := best_eq h1 h3
  have e : bestG l = bestOf l D := by unfold bestG; rw [h4]; rfl
  rw [e] at h ⊢
  unfold bestOf at h ⊢
  split at h
  · omega
  · rename_i hl
    rw [if_neg hl]
    split at h
    · omega
    · rename_i hnn
      rw [if_neg hnn]
      refine ⟨by simpa using hnn, fun k hk => ?_⟩
      obtain ⟨i, hi, hk2⟩ := ord_all h3 hk
      rcases Nat.eq_zero_or_pos i with rfl | hi0
      · rw [hk2]; simp
      · have := h3.srt 0 i (Nat.le_refl _) hi0 hi
        unfold R wk at this
        rw [hk2] at this
        simp only [Int.toNat_natCast] at this
        omega
theorem rates_get (s : S28) {k : Int} (h : bet k 0 3 = true) : (ratesS s).getD k.toNat 0 = bif (lineAt s k).Up then rate (lineAt s k).Bytes (lineAt s k).Ticks else rate 0 0 := by
  rcases four h with rfl | rfl | rfl | rfl <;> rfl
theorem best_cases (s : S28) : (bestS s = -1 ∧ aliveS s = []) ∨ upAt s (bestS s) = true := by
  obtain ⟨h1, h2, h3⟩ := bestG_ok (l := ratesS s) (by rw [rates_len]; decide)
  unfold bestS
  by_cases h : 0 ≤ bestG (ratesS s)
  · right
    rw [if_pos h]
    have hb : bet (bestG (ratesS s)) 0 3 = true := by rw [bet_iff]; rw [rates_len] at h3; omega
    have h4 := (bestG_nn (by rw [rates_len]; decide) h).1
    rw [rates_get s hb] at h4
    unfold upAt
    rw [hb]
    cases hu : (lineAt s (bestG (ratesS s))).Up
    · rw [hu, bif_ff, rate00] at h4; cases h4
    · rfl
  · rw [if_neg h]
    cases ha : aliveS s with
    | nil => left; exact ⟨rfl, rfl⟩
    | cons a l => right; exact mem_alive.1 (by rw [ha]; simp)
theorem up_bet {s : S28} {k : Int} (h : upAt s k = true) : bet k 0 3 = true := by unfold upAt at h; rw [Bool.and_eq_true] at h; exact h.1
/-! What a state keeps. -/
structure Ok (s : S28) : Prop where
  ck : check28 s = 0
  few : ∀ k, bet k 0 3 = true → (lineAt s k).Bytes ≤ 1073741824 ∧ (lineAt s k).Ticks ≤ 1073741824
theorem Ok.bo {s : S28} (h : Ok s) {k : Int} (hb : bet k 0 3 = true) : ((lineAt s k).Up && (lineAt s k).Dead) = false := by
  have := (check28_ok h.ck).1
  rw [List.any_eq_false] at this
  have := this _ (line_mem s hb)
  simpa [both] using this
theorem Ok.fit {s : S28} (h : Ok s) {k : Int} (hb : bet k 0 3 = true) : (0 ≤ (lineAt s k).Bytes ∧ (lineAt s k).Bytes ≤ 1099511627776) ∧ 0 ≤ (lineAt s k).Ticks ∧ (lineAt s k).Ticks ≤ 1099511627776 := nums_line (check28_ok h.ck).2.1 hb
theorem Ok.bi {s : S28} (h : Ok s) {b : B28} (hb : b ∈ s.Binds) : (1 ≤ b.Stream ∧ b.Stream ≤ 1048576) ∧ upAt s b.Path = true := by
  refine ⟨(bind_ok h.ck hb).1, ?_⟩
  have := (check28_ok h.ck).2.2.2
  unfold upsOk at this
  rw [Bool.and_eq_true] at this
  exact List.all_eq_true.1 this.2 b hb
theorem Ok.pi {s : S28} (h : Ok s) : s.Pinned = -1 ∨ upAt s s.Pinned = true := by
  have := (check28_ok h.ck).2.2.2
  unfold upsOk at this
  rw [Bool.and_eq_true, Bool.or_eq_true, decide_eq_true_iff] at this
  exact this.1
theorem asc_of : ∀ (l : List B28) (o : Option B28), l.Pairwise (fun a b => a.Stream < b.Stream) → (∀ a, o = some a → ∀ b ∈ l, a.Stream < b.Stream) → asc o l = true
  | [], o, _, _ => by cases o <;> rfl
  | x :: l, o, hp, h => by
    have hp := List.pairwise_cons.1 hp
    have ih := asc_of l (some x) hp.2 (fun a ha b hb => by cases ha; exact hp.1 b hb)
    cases o with
    | none => rw [asc]; exact ih
    | some a => rw [asc, decide_eq_true (h a rfl x (by simp)), ih]; rfl
theorem lines_of {P : L28 → Prop} {s : S28} (h : ∀ k, bet k 0 3 = true → P (lineAt s k)) : ∀ x ∈ lns s, P x := by
  intro x hx
  simp only [List.mem_cons, List.not_mem_nil, or_false] at hx
  rcases hx with rfl | rfl | rfl | rfl
  · exact h 0 (by decide)
  · exact h 1 (by decide)
  · exact h 2 (by decide)
  · exact h 3 (by decide)
theorem ok_of {s : S28} (h1 : ∀ k, bet k 0 3 = true → ((lineAt s k).Up && (lineAt s k).Dead) = false ∧ 0 ≤ (lineAt s k).Bytes ∧ (lineAt s k).Bytes ≤ 1073741824 ∧ 0 ≤ (lineAt s k).Ticks ∧ (lineAt s k).Ticks ≤ 1073741824)
    (h2 : s.Pinned = -1 ∨ upAt s s.Pinned = true) (h3 : s.Binds.length ≤ 32) (h4 : s.Binds.Pairwise (fun a b => a.Stream < b.Stream)) (h5 : ∀ b ∈ s.Binds, (1 ≤ b.Stream ∧ b.Stream ≤ 1048576) ∧ upAt s b.Path = true) : Ok s := by
  refine ⟨check28_of ?_ ?_ (asc_of _ _ h4 (fun a ha => by cases ha)) ?_, fun k hk => ⟨(h1 k hk).2.2.1, (h1 k hk).2.2.2.2⟩⟩
  · rw [List.any_eq_false]
    exact lines_of (P := fun x => ¬ both x = true) fun k hk => by unfold both; rw [(h1 k hk).1]; decide
  · unfold nums28
    simp only [Bool.and_eq_true, Bool.or_eq_true, decide_eq_true_iff, Bool.not_eq_true', List.any_eq_false, List.all_eq_true]
    refine ⟨lines_of (P := fun x => fits x = true) fun k hk => ?_, ⟨?_, by omega⟩, fun b hb => ?_⟩
    · obtain ⟨_, a1, a2, a3, a4⟩ := h1 k hk
      unfold fits; rw [Bool.and_eq_true, bet_iff, bet_iff]; omega
    · rcases h2 with h2 | h2
      · exact .inl h2
      · exact .inr (up_bet h2)
    · obtain ⟨a1, a2⟩ := h5 b hb
      unfold wrongB
      rw [bet_iff.2 a1, up_bet a2]; decide
  · unfold upsOk
    simp only [Bool.and_eq_true, Bool.or_eq_true, decide_eq_true_iff, List.all_eq_true]
    exact ⟨h2, fun b hb => (h5 b hb).2⟩
theorem Ok.pw {s : S28} (h : Ok s) : s.Binds.Pairwise (fun a b => a.Stream < b.Stream) := (asc_pw _ _ (check28_ok h.ck).2.2.1).1
theorem line_set (s : S28) (x : L28) {k j : Int} (hk : bet k 0 3 = true) (hj : bet j 0 3 = true) : lineAt (setL s k x) j = if j = k then x else lineAt s j := by
  rcases four hk with rfl | rfl | rfl | rfl <;> rcases four hj with rfl | rfl | rfl | rfl <;> rfl
theorem line_same {a b : S28} (h : a.Lines = b.Lines) (k : Int) : lineAt a k = lineAt b k := by unfold lineAt; rw [h]
theorem up_same {a b : S28} (h : a.Lines = b.Lines) (k : Int) : upAt a k = upAt b k := by unfold upAt; rw [line_same h]
theorem ok_rise {s : S28} (h : Ok s) (k : Int) : Ok (riseS s k).1 := by
  unfold riseS
  split
  · rename_i hc
    obtain ⟨hb, _, hu, hd⟩ := hc
    have hup : ∀ j, upAt s j = true → upAt (setL s k ⟨true, (lineAt s k).Dead, (lineAt s k).Bytes, (lineAt s k).Ticks⟩) j = true := fun j hj => by
      have hjb := up_bet hj
      unfold upAt at hj ⊢
      rw [hjb] at hj ⊢
      rw [line_set s _ hb hjb]
      split
      · rfl
      · exact hj
    refine ok_of (fun j hj => ?_) ?_ (show s.Binds.length ≤ 32 from binds32 h.ck) h.pw (fun b hb => ⟨(h.bi hb).1, hup _ (h.bi hb).2⟩)
    · rw [line_set s _ hb hj]
      have f1 := h.fit hb
      have f2 := h.fit hj
      have f3 := h.few k hb
      have f4 := h.few j hj
      split
      · exact ⟨by simp [hd], f1.1.1, f3.1, f1.2.1, f3.2⟩
      · exact ⟨h.bo hj, f2.1.1, f4.1, f2.2.1, f4.2⟩
    · rcases h.pi with hp | hp
      · exact .inl hp
      · exact .inr (hup _ hp)
  · exact h
theorem ok_note {s : S28} (h : Ok s) (k : Int) {b t : Int} (hb : 0 ≤ b ∧ b ≤ 255) (ht : 0 ≤ t ∧ t ≤ 255) : Ok (noteS s k b t) := by
  unfold noteS
  split
  · rename_i hc
    obtain ⟨hk, hu, _, _, _⟩ := hc
    have hn : (noted (lineAt s k) b t).Up = (lineAt s k).Up ∧ (noted (lineAt s k) b t).Dead = (lineAt s k).Dead := by unfold noted; split <;> exact ⟨rfl, rfl⟩
    have hup : ∀ j, upAt s j = true → upAt (setL s k (noted (lineAt s k) b t)) j = true := fun j hj => by
      have hjb := up_bet hj
      unfold upAt at hj ⊢
      rw [hjb] at hj ⊢
      rw [line_set s _ hk hjb]
      split
      · rw [hn.1, hu]; rfl
      · exact hj
    refine ok_of (fun j hj => ?_) ?_ (show s.Binds.length ≤ 32 from binds32 h.ck) h.pw (fun b hb => ⟨(h.bi hb).1, hup _ (h.bi hb).2⟩)
    · rw [line_set s _ hk hj]
      have f1 := h.fit hk
      have f2 := h.fit hj
      have f3 := h.few k hk
      have f4 := h.few j hj
      split
      · refine ⟨by rw [hn.1, hn.2]; exact h.bo hk, ?_⟩
        unfold noted
        split
        · rename_i hh; show 0 ≤ (_ : Int) / 2 ∧ (_ : Int) / 2 ≤ _ ∧ 0 ≤ (_ : Int) / 2 ∧ (_ : Int) / 2 ≤ _; omega
        · rename_i hh; show 0 ≤ (_ : Int) + b ∧ (_ : Int) + b ≤ _ ∧ 0 ≤ (_ : Int) + t ∧ (_ : Int) + t ≤ _; omega
      · exact ⟨h.bo hj, f2.1.1, f4.1, f2.2.1, f4.2⟩
    · rcases h.pi with hp | hp
      · exact .inl hp
      · exact .inr (hup _ hp)
  · exact h
theorem ok_fall {s : S28} (h : Ok s) (k : Int) : Ok (fallS s k).1 := by
  unfold fallS
  split
  · rename_i hc
    obtain ⟨hk, _, hu⟩ := hc
    have hup : ∀ j, j ≠ k → upAt s j = true → upAt ⟨(setL s k ⟨false, true, (lineAt s k).Bytes, (lineAt s k).Ticks⟩).Lines, if s.Pinned = k then -1 else s.Pinned, s.Binds.filter fun b => !decide (b.Path = k)⟩ j = true := fun j hjk hj => by
      have hjb := up_bet hj
      rw [up_same (b := setL s k ⟨false, true, (lineAt s k).Bytes, (lineAt s k).Ticks⟩) (by rfl)]
      unfold upAt at hj ⊢
      rw [hjb] at hj ⊢
      rw [line_set s _ hk hjb, if_neg hjk]
      exact hj
    refine ok_of (fun j hj => ?_) ?_ (Nat.le_trans (List.length_filter_le _ _) (binds32 h.ck)) (h.pw.filter _) (fun b hb => ?_)
    · rw [line_same (b := setL s k ⟨false, true, (lineAt s k).Bytes, (lineAt s k).Ticks⟩) (by rfl), line_set s _ hk hj]
      have f1 := h.fit hk
      have f2 := h.fit hj
      have f3 := h.few k hk
      have f4 := h.few j hj
      split
      · exact ⟨rfl, f1.1.1, f3.1, f1.2.1, f3.2⟩
      · exact ⟨h.bo hj, f2.1.1, f4.1, f2.2.1, f4.2⟩
    · show (if s.Pinned = k then (-1 : Int) else s.Pinned) = -1 ∨ _
      by_cases hp : s.Pinned = k
      · left; rw [if_pos hp]
      · rcases h.pi with hq | hq
        · left; rw [if_neg hp]; exact hq
        · right
          show upAt _ (if s.Pinned = k then (-1 : Int) else s.Pinned) = true
          rw [if_neg hp]; exact hup _ hp hq
    · have hb2 := List.mem_filter.1 hb
      refine ⟨(h.bi hb2.1).1, hup _ (by simpa using hb2.2) (h.bi hb2.1).2⟩
  · exact h
end Go.Fn
set_option linter.unusedSimpArgs false
set_option linter.unusedVariables false
open Go Go.IL
namespace Go.Fn
/-! Which path a stream has. -/
def bound28 (l : List B28) (j : Int) : Int := match l.find? (fun b => decide (b.Stream = j)) with | some b => b.Path + 1 | none => 0
theorem few_pw : ∀ (l : List B28) (lo : Nat), l.Pairwise (fun a b => a.Stream < b.Stream) → (∀ b ∈ l, (lo : Int) < b.Stream ∧ b.Stream ≤ 20) → lo ≤ 20 → l.length ≤ 20 - lo
  | [], lo, _, _, _ => Nat.zero_le _
  | x :: l, lo, hp, h, hlo => by
    have hp := List.pairwise_cons.1 hp
    have hx := h x (by simp)
    have := few_pw l (lo + 1) hp.2 (fun b hb => ⟨by have := hp.1 b hb; omega, (h b (by simp [hb])).2⟩) (by omega)
    simp only [List.length_cons]; omega
structure Inv28 (s : S28) (b : List Int) : Prop where
  ok : Ok s
  len : b.length = 40
  bv : ∀ j : Nat, j < 40 → b[j]? = some (bound28 s.Binds j)
  st : ∀ x ∈ s.Binds, x.Stream ≤ 20
theorem Inv28.few {s : S28} {b : List Int} (h : Inv28 s b) : s.Binds.length ≤ 20 := few_pw s.Binds 0 h.ok.pw (fun x hx => ⟨by have := (h.ok.bi hx).1; omega, h.st x hx⟩) (by omega)
def act28 (a : T_sennitlaw28_Act) : Prop := (0 ≤ a.Kind ∧ a.Kind ≤ 255) ∧ (0 ≤ a.N ∧ a.N ≤ 255) ∧ (0 ≤ a.M ∧ a.M ≤ 255) ∧ 0 ≤ a.Path ∧ a.Path ≤ 255
theorem eta28 (s : S28) : (⟨⟨⟨s.Lines.c0.Up, s.Lines.c0.Dead, s.Lines.c0.Bytes, s.Lines.c0.Ticks⟩, ⟨s.Lines.c1.Up, s.Lines.c1.Dead, s.Lines.c1.Bytes, s.Lines.c1.Ticks⟩, ⟨s.Lines.c2.Up, s.Lines.c2.Dead, s.Lines.c2.Bytes, s.Lines.c2.Ticks⟩, ⟨s.Lines.c3.Up, s.Lines.c3.Dead, s.Lines.c3.Bytes, s.Lines.c3.Ticks⟩⟩, s.Pinned, s.Binds⟩ : T_paths_State) = s := rfl
theorem up_nonempty {s : S28} {k : Int} (h : upAt s k = true) : decide (((aliveS s).length : Int) = 0) = false := by
  have := mem_alive.2 h
  cases ha : aliveS s with
  | nil => rw [ha] at this; exact (List.not_mem_nil this).elim
  | cons x l => exact decide_eq_false (by simp; omega)
end Go.Fn
set_option linter.unusedSimpArgs false
set_option linter.unusedVariables false
open Go Go.IL
namespace Go.Fn
end Go.Fn
set_option linter.unusedSimpArgs false
set_option linter.unusedVariables false
open Go Go.IL
namespace Go.Fn
def upd (fall : Bool) (k x : Int) : Int := if (fall && decide (x = k + 1)) = true then 0 else x
/-! The invariant stays. -/
def new28 : S28 := ⟨⟨⟨false, false, 0, 0⟩, ⟨false, false, 0, 0⟩, ⟨false, false, 0, 0⟩, ⟨false, false, 0, 0⟩⟩, -1, []⟩
theorem ok_new28 : Ok new28 := by
  refine ok_of (fun k hk => ?_) (.inl rfl) (Nat.zero_le _) .nil (fun b hb => (List.not_mem_nil hb).elim)
  rcases four hk with rfl | rfl | rfl | rfl <;> exact ⟨rfl, by decide, by decide, by decide, by decide⟩
end Go.Fn
