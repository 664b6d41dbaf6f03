/-
  A part of the proof: rules and plain facts. No condition.
-/
import Derived.Test.YthjfhdlaockolaaIlSh
import Derived.KernelRfl
import Derived.Test.YthjfhdlaockolaaIlA34D
import Derived.ProofKit
import Derived.OpenShut
set_option linter.all false
set_option linter.unusedSimpArgs false
set_option linter.unusedVariables false
open Go Go.IL
namespace Go.Fn
/-! Loops over lists, at any functions that are as the library's. -/
theorem gix_at {α : Type} {l p r : List α} {x : α} (h : l = p ++ x :: r) : gix l (p.length : Int) = some x := by
  subst h; rw [gix_nat, List.getElem?_append_right (Nat.le_refl _)]; simp
theorem lt_at {α : Type} {l p r : List α} {x : α} (h : l = p ++ x :: r) : decide ((p.length : Int) < (l.length : Int)) = true := by
  subst h; simp; omega
theorem lt_len {α : Type} {l : List α} : decide ((l.length : Int) < (l.length : Int)) = false := by simp
theorem w_at {α : Type} {l p r : List α} {x : α} (h : l = p ++ x :: r) (hl : l.length ≤ 1000000) : IntKind.wrap .i64 ((p.length : Int) + 1) = ((p ++ [x]).length : Int) := by
  subst h; simp only [List.length_append, List.length_cons, List.length_nil] at hl ⊢; rw [w64 (by omega) (by omega)]; omega
theorem next_at {α : Type} {l p r : List α} {x : α} (h : l = p ++ x :: r) : l = (p ++ [x]) ++ r := by rw [h]; simp
theorem tf : (true == false) = false := rfl
theorem ft : (false == true) = false := rfl
theorem cut_at {α : Type} {l p r : List α} (h : l = p ++ r) : cut l 0 (p.length : Int) = some p := by
  subst h; unfold cut; rw [if_pos (by simp; omega)]; simp
theorem idxf_gen {α : Type} {L : Nat → Int → Option Int} {l : List α} {q : α → Bool}
    (h1 : ∀ p x r f, l = p ++ x :: r → L (f + 1) (p.length : Int) = bif q x then some (p.length : Int) else L f ((p ++ [x]).length : Int)) (h0 : ∀ f, L (f + 1) (l.length : Int) = some (-1)) :
    ∀ (r p : List α) (f : Nat), l = p ++ r → r.length < f → (∀ y ∈ p, q y = false) →
      (L f (p.length : Int) = some (-1) ∧ ∀ y ∈ l, q y = false) ∨ ∃ a x t, l = a ++ x :: t ∧ (∀ y ∈ a, q y = false) ∧ q x = true ∧ L f (p.length : Int) = some (a.length : Int)
  | [], p, f + 1, h, _, ha => by
    left
    rw [List.append_nil] at h
    subst h
    exact ⟨h0 f, ha⟩
  | y :: r, p, f + 1, h, hf, ha => by
    rw [h1 p y r f h]
    rcases Bool.eq_false_or_eq_true (q y) with hb | hb
    · right; exact ⟨p, y, r, h, ha, hb, by rw [hb]; rfl⟩
    · rw [hb, bif_ff]
      exact idxf_gen h1 h0 r (p ++ [y]) f (next_at h) (by simpa using hf) (fun z hz => by
        rcases List.mem_append.1 hz with hz | hz
        · exact ha z hz
        · rw [List.mem_singleton.1 hz]; exact hb)
theorem idxf_any {α : Type} {L : Nat → Int → Option Int} {l : List α} {q : α → Bool} (hl : l.length ≤ 1000000)
    (h1 : ∀ p x r f, l = p ++ x :: r → L (f + 1) (p.length : Int) = bif q x then some (p.length : Int) else L f ((p ++ [x]).length : Int)) (h0 : ∀ f, L (f + 1) (l.length : Int) = some (-1)) :
    ∃ k : Int, L fuel 0 = some k ∧ decide (0 ≤ k) = l.any q := by
  rcases idxf_gen h1 h0 l [] fuel rfl (fuel_gt (by omega)) (fun _ h => (List.not_mem_nil h).elim) with ⟨h2, h3⟩ | ⟨a, x, t, h2, h3, h4, h5⟩
  · refine ⟨-1, h2, ?_⟩
    symm
    have : l.any q = false := by rw [List.any_eq_false]; intro y hy; rw [h3 y hy]; decide
    rw [this]; rfl
  · refine ⟨a.length, h5, ?_⟩
    have : l.any q = true := List.any_eq_true.2 ⟨x, by rw [h2]; simp, h4⟩
    rw [this]; exact decide_eq_true (by omega)
theorem delf_gen {α : Type} {L : Nat → List α → Int → Int → Option (List α)} {q : α → Bool}
    (h1 : ∀ (f : Nat) (l : List α) (i j : Nat) (x : α), l.length ≤ 100000 → i ≤ j → j < l.length → l[j]? = some x → L (f + 1) l (i : Int) (j : Int) = bif !q x then L f (l.set i x) ((i + 1 : Nat) : Int) ((j + 1 : Nat) : Int) else L f l (i : Int) ((j + 1 : Nat) : Int))
    (h0 : ∀ (f : Nat) (l : List α) (i : Nat), i ≤ l.length → L (f + 1) l (i : Int) (l.length : Int) = some (l.take i)) :
    ∀ (r k m : List α) (f : Nat), k.length + m.length + r.length ≤ 100000 → r.length < f →
      L f (k ++ m ++ r) (k.length : Int) ((k.length + m.length : Nat) : Int) = some (k ++ r.filter fun y => !q y)
  | [], k, m, f + 1, hl, _ => by
    have := h0 f (k ++ m) k.length (by simp)
    rw [List.append_nil, show ((k.length + m.length : Nat) : Int) = ((k ++ m).length : Int) by simp, this]; simp
  | y :: r, k, m, f + 1, hl, hf => by
    simp only [List.length_cons] at hl hf
    have hy : (k ++ m ++ y :: r)[k.length + m.length]? = some y := by
      rw [List.getElem?_append_right (by simp)]; simp
    have hlen : (k ++ m ++ y :: r).length = k.length + m.length + (r.length + 1) := by simp; omega
    rw [h1 f (k ++ m ++ y :: r) k.length (k.length + m.length) y (by omega) (by omega) (by omega) hy]
    rcases Bool.eq_false_or_eq_true (q y) with hb | hb
    · rw [hb, Bool.not_true, bif_ff, List.filter_cons_of_neg (by simp [hb])]
      have := delf_gen h1 h0 r k (m ++ [y]) f (by simp; omega) (by omega)
      rw [show k ++ m ++ y :: r = k ++ (m ++ [y]) ++ r by simp, ← this]; congr 1; simp; omega
    · rw [hb, Bool.not_false, bif_tt, List.filter_cons_of_pos (by simp [hb])]
      obtain ⟨m2, h3, h2⟩ : ∃ m2 : List α, m2.length = m.length ∧ (k ++ m ++ y :: r).set k.length y = k ++ [y] ++ m2 ++ r := by
        rw [List.append_assoc k m, List.set_append_right _ _ (Nat.le_refl _), Nat.sub_self]
        cases m with
        | nil => exact ⟨[], rfl, by simp⟩
        | cons a m => exact ⟨m ++ [y], by simp, by simp⟩
      rw [h2]
      have := delf_gen h1 h0 r (k ++ [y]) m2 f (by simp; omega) (by omega)
      rw [show k ++ y :: List.filter (fun y => !q y) r = k ++ [y] ++ List.filter (fun y => !q y) r by simp, ← this]
      congr 1 <;> simp <;> omega
theorem delf_all {α : Type} {I : Nat → Int → Option Int} {L : Nat → List α → Int → Int → Option (List α)} {l : List α} {q : α → Bool} (hl : l.length ≤ 100000)
    (i1 : ∀ p x r f, l = p ++ x :: r → I (f + 1) (p.length : Int) = bif q x then some (p.length : Int) else I f ((p ++ [x]).length : Int)) (i0 : ∀ f, I (f + 1) (l.length : Int) = some (-1))
    (h1 : ∀ (f : Nat) (l : List α) (i j : Nat) (x : α), l.length ≤ 100000 → i ≤ j → j < l.length → l[j]? = some x → L (f + 1) l (i : Int) (j : Int) = bif !q x then L f (l.set i x) ((i + 1 : Nat) : Int) ((j + 1 : Nat) : Int) else L f l (i : Int) ((j + 1 : Nat) : Int))
    (h0 : ∀ (f : Nat) (l : List α) (i : Nat), i ≤ l.length → L (f + 1) l (i : Int) (l.length : Int) = some (l.take i)) :
    (bno (I fuel 0) fun x1 => bnd (decide (x1 = (-1))) fun x2 => bif x2 then some l else bnd (IntKind.wrap .i64 (x1 + 1)) fun x4 => L fuel l x1 x4) = some (l.filter fun y => !q y) := by
  rcases idxf_gen i1 i0 l [] fuel rfl (fuel_gt (by omega)) (fun _ h => (List.not_mem_nil h).elim) with ⟨e1, e2⟩ | ⟨a, x, t, e1, e2, e3, e4⟩
  · have e1 : I fuel 0 = some (-1) := e1
    rw [e1, bnoS]
    simp only [bndD, decide_true, bif_tt]
    rw [List.filter_eq_self.2 (fun y hy => by rw [e2 y hy]; rfl)]
  · have e4 : I fuel 0 = some (a.length : Int) := e4
    have hql : a.length + (t.length + 1) ≤ 100000 := by rw [e1] at hl; simpa using hl
    rw [e4, bnoS]
    simp only [bndD, decide_eq_false (show ¬ (a.length : Int) = -1 by omega), bif_ff]
    rw [w64 (by omega) (by omega)]
    have := delf_gen h1 h0 t a [x] fuel (by simp; omega) (fuel_gt (by omega))
    rw [e1, List.filter_append, List.filter_cons_of_neg (by simp [e3]), List.filter_eq_self.2 (fun y hy => by rw [e2 y hy]; rfl), ← this]
    congr 1; simp
theorem equal_gen {α : Type} [DecidableEq α] {L : Nat → Int → Option Bool} {l m : List α} (hm : l.length = m.length)
    (h1 : ∀ p x r s y t f, l = p ++ x :: r → m = s ++ y :: t → p.length = s.length → L (f + 1) (p.length : Int) = bif !decide (x = y) then some false else L f ((p ++ [x]).length : Int)) {z : Bool} (h0 : ∀ f, L (f + 1) (l.length : Int) = some z) :
    ∀ (r t p s : List α) (f : Nat), l = p ++ r → m = s ++ t → p.length = s.length → r.length < f → L f (p.length : Int) = some (decide (r = t) && z)
  | [], [], p, s, f + 1, h, k, e, _ => by
    rw [List.append_nil] at h
    subst h
    rw [h0]; simp
  | [], y :: t, p, s, f + 1, h, k, e, _ => by rw [h, k] at hm; simp at hm; omega
  | x :: r, [], p, s, f + 1, h, k, e, _ => by rw [h, k] at hm; simp at hm; omega
  | x :: r, y :: t, p, s, f + 1, h, k, e, hf => by
    rw [h1 p x r s y t f h k e]
    by_cases hx : x = y
    · subst hx
      rw [decide_eq_true rfl, Bool.not_true, bif_ff]
      have := equal_gen hm h1 h0 r t (p ++ [x]) (s ++ [x]) f (next_at h) (next_at k) (by simp [e]) (by simpa using hf)
      rw [this]; simp
    · rw [decide_eq_false hx, Bool.not_false, bif_tt]; simp [hx]
theorem equal_all {α : Type} [DecidableEq α] {L : Nat → Int → Option Bool} {l m : List α} (hl : l.length ≤ 1000000)
    (h1 : ∀ p x r s y t f, l = p ++ x :: r → m = s ++ y :: t → p.length = s.length → L (f + 1) (p.length : Int) = bif !decide (x = y) then some false else L f ((p ++ [x]).length : Int)) {z : Bool} (h0 : l.length = m.length → ∀ f, L (f + 1) (l.length : Int) = some z) :
    (bnd (!decide ((l.length : Int) = (m.length : Int))) fun x1 => bif x1 then some false else L fuel 0) = some (decide (l = m) && z) := by
  by_cases hm : l.length = m.length
  · simp only [bndD, decide_eq_true (show (l.length : Int) = (m.length : Int) by omega), Bool.not_true, bif_ff]
    exact equal_gen hm h1 (h0 hm) l m [] [] fuel rfl rfl rfl (fuel_gt (by omega))
  · simp only [bndD, decide_eq_false (show ¬ (l.length : Int) = (m.length : Int) by omega), Bool.not_false, bif_tt]
    rw [decide_eq_false (fun h => hm (by rw [h]))]; rfl
theorem bsf_gen {α : Type} {L : Nat → Int → Int → Option (Int × Bool)} {l : List α} {key : α → Int} {x : Int} (hl : l.length ≤ 1000000)
    (h1 : ∀ (f lo hi m : Nat) (y : α), lo < hi → hi ≤ l.length → m = (lo + hi) / 2 → l[m]? = some y → L (f + 1) (lo : Int) (hi : Int) = bif decide (key y < x) then L f ((m + 1 : Nat) : Int) (hi : Int) else L f (lo : Int) (m : Int))
    (h0 : ∀ (f lo : Nat), lo ≤ l.length → L (f + 1) (lo : Int) (lo : Int) = some ((lo : Int), decide ((l[lo]?).map key = some x))) :
    ∀ (f lo hi : Nat), hi - lo < f → lo ≤ hi → hi ≤ l.length → ∃ p : Nat, p ≤ l.length ∧ L f lo hi = some ((p : Int), decide ((l[p]?).map key = some x)) ∧
    (l.Pairwise (fun a b => key a < key b) → (∀ y ∈ l.take lo, key y < x) → (∀ y ∈ l.drop hi, x ≤ key y) → (∀ y ∈ l.take p, key y < x) ∧ (∀ y ∈ l.drop p, x ≤ key y)) := by
  intro f
  induction f with
  | zero => intro lo hi h; omega
  | succ f ih =>
    intro lo hi hf h2 h3
    by_cases hc : lo < hi
    · have hm : (lo + hi) / 2 < l.length := by omega
      rw [h1 f lo hi _ l[(lo + hi) / 2] hc h3 rfl (List.getElem?_eq_getElem hm)]
      generalize hmm : (lo + hi) / 2 = m at hm ⊢
      have hml : lo ≤ m := by omega
      have hmh : m < hi := by omega
      by_cases hx : key l[m] < x
      · rw [decide_eq_true hx, bif_tt]
        obtain ⟨p, i1, i2, i3⟩ := ih (m + 1) hi (by omega) (by omega) h3
        refine ⟨p, i1, i2, fun hp ha hb => i3 hp (fun y hy => ?_) hb⟩
        obtain ⟨j, hj, rfl⟩ := List.mem_iff_getElem.1 hy
        rw [List.length_take] at hj
        rw [List.getElem_take]
        rcases Nat.lt_or_ge j m with hjm | hjm
        · exact Int.lt_trans (List.pairwise_iff_getElem.1 hp j m (by omega) (by omega) hjm) hx
        · have : j = m := by omega
          subst this; exact hx
      · rw [decide_eq_false hx, bif_ff]
        obtain ⟨p, i1, i2, i3⟩ := ih lo m (by omega) (by omega) (by omega)
        refine ⟨p, i1, i2, fun hp ha hb => i3 hp ha (fun y hy => ?_)⟩
        obtain ⟨j, hj, rfl⟩ := List.mem_iff_getElem.1 hy
        rw [List.length_drop] at hj
        rw [List.getElem_drop]
        rcases Nat.eq_zero_or_pos j with rfl | hj0
        · simp only [Nat.add_zero]; omega
        · have := List.pairwise_iff_getElem.1 hp m (m + j) (by omega) (by omega) (by omega)
          omega
    · have : lo = hi := by omega
      subst this
      exact ⟨lo, h3, h0 f lo h3, fun _ ha hb => ⟨ha, hb⟩⟩
theorem split_key {α : Type} {l a b : List α} {key : α → Int} {x : Int} (h : l = a ++ b) (ha : ∀ y ∈ a, key y < x) (hb : ∀ y ∈ b, x ≤ key y) : a = l.filter (fun y => decide (key y < x)) ∧ b = l.filter (fun y => decide (x ≤ key y)) := by
  subst h
  rw [List.filter_append, List.filter_append, List.filter_eq_self.2 (fun y hy => decide_eq_true (ha y hy)), List.filter_eq_nil_iff.2 (fun y hy => by have := hb y hy; simp; omega), List.filter_eq_nil_iff.2 (fun y hy => by have := ha y hy; simp; omega), List.filter_eq_self.2 (fun y hy => decide_eq_true (hb y hy))]
  simp
theorem bsf_all {α : Type} {L : Nat → Int → Int → Option (Int × Bool)} {l : List α} {key : α → Int} {x : Int} (hl : l.length ≤ 1000000)
    (h1 : ∀ (f lo hi m : Nat) (y : α), lo < hi → hi ≤ l.length → m = (lo + hi) / 2 → l[m]? = some y → L (f + 1) (lo : Int) (hi : Int) = bif decide (key y < x) then L f ((m + 1 : Nat) : Int) (hi : Int) else L f (lo : Int) (m : Int))
    (h0 : ∀ (f lo : Nat), lo ≤ l.length → L (f + 1) (lo : Int) (lo : Int) = some ((lo : Int), decide ((l[lo]?).map key = some x))) (hp : l.Pairwise (fun a b => key a < key b)) :
    ∃ a b : List α, l = a ++ b ∧ a = l.filter (fun y => decide (key y < x)) ∧ b = l.filter (fun y => decide (x ≤ key y)) ∧
      ((∃ y c, b = y :: c ∧ key y = x ∧ L fuel 0 (l.length : Int) = some ((a.length : Int), true)) ∨ ((∀ y ∈ l, key y ≠ x) ∧ L fuel 0 (l.length : Int) = some ((a.length : Int), false))) := by
  obtain ⟨p, e1, e2, e3⟩ := bsf_gen hl h1 h0 fuel 0 l.length (fuel_gt (by omega)) (Nat.zero_le _) (Nat.le_refl _)
  obtain ⟨e4, e5⟩ := e3 hp (by simp) (by simp)
  obtain ⟨e6, e7⟩ := split_key (List.take_append_drop p l).symm e4 e5
  have hpl : (l.take p).length = p := by rw [List.length_take]; omega
  have e2 : L fuel 0 (l.length : Int) = _ := e2
  refine ⟨l.take p, l.drop p, (List.take_append_drop p l).symm, e6, e7, ?_⟩
  rw [hpl, e2]
  by_cases hx : (l[p]?).map key = some x
  · left
    obtain ⟨y, hy, hk⟩ := Option.map_eq_some_iff.1 hx
    have hlt : p < l.length := (List.getElem?_eq_some_iff.1 hy).1
    have hye : l[p] = y := (List.getElem?_eq_some_iff.1 hy).2
    exact ⟨y, l.drop (p + 1), by rw [← hye]; exact List.drop_eq_getElem_cons hlt, hk, by rw [decide_eq_true hx]⟩
  · right
    refine ⟨fun y hy hk => ?_, by rw [decide_eq_false hx]⟩
    rw [← List.take_append_drop p l] at hy
    rcases List.mem_append.1 hy with hy | hy
    · have := e4 y hy; omega
    · obtain ⟨j, hj, hjx⟩ := List.mem_iff_getElem.1 hy
      rw [List.length_drop] at hj
      rw [List.getElem_drop] at hjx
      rcases Nat.eq_zero_or_pos j with rfl | hj0
      · apply hx; rw [List.getElem?_eq_getElem (by omega)]; simp only [Nat.add_zero] at hjx; rw [Option.map_some, hjx, hk]
      · have h8 := List.pairwise_iff_getElem.1 hp p (p + j) (by omega) (by omega) (by omega)
        have h9 := e5 l[p] (List.mem_iff_getElem.2 ⟨0, by rw [List.length_drop]; omega, by rw [List.getElem_drop]; simp⟩)
        rw [hjx, hk] at h8; omega
theorem deleteFunc_gen {α : Type} {P : α → Option Bool} {q : α → Bool} (hP : ∀ x, P x = some (q x)) {I : Nat → Int → Option Int} {L : Nat → List α → Int → Int → Option (List α)} {l : List α}
    (hI : ∀ f v, I (f + 1) v = bnd (decide (v < (l.length : Int))) fun x14 => bif x14 then (bno (gix l v) fun x16 => bno (P x16) fun x17 => bif x17 then some v else (bnd (IntKind.wrap .i64 (v + 1)) fun x19 => I f x19)) else some (-1))
    (hL : ∀ f a b c, L (f + 1) a b c = bnd (decide (c < (a.length : Int))) fun x32 => bif x32 then (bno (gix a c) fun x34 => bno (a[(c : Int).toNat]?) fun x35 => bno (P x35) fun x36 => bif (!x36) then (bno (gix a b) fun x38 => bno (a[(b : Int).toNat]?) fun x39 =>
      bnd (a.set ((b : Int).toNat) x35) fun x40 => bnd (IntKind.wrap .i64 (b + 1)) fun x41 => bnd (IntKind.wrap .i64 (c + 1)) fun x42 => L f x40 x41 x42) else (bnd (IntKind.wrap .i64 (c + 1)) fun x43 => L f a b x43)) else (bno (cut a 0 b) fun x44 => bno (cut x44 0 b) fun x45 => some x45))
    (hl : l.length ≤ 100000) : (bno (I fuel 0) fun x1 => bnd (decide (x1 = (-1))) fun x2 => bif x2 then some l else bnd (IntKind.wrap .i64 (x1 + 1)) fun x4 => L fuel l x1 x4) = some (l.filter fun y => !q y) := by
  refine delf_all hl (fun p x r f h => by
    rw [hI]; simp only [bndD, lt_at h, bif_tt, gix_at h, bnoS, hP, w_at h (show l.length ≤ 1000000 by omega)]) (fun f => by rw [hI]; simp only [bndD, lt_len, bif_ff]) (fun f a i j x ha hij hj hx => ?_) (fun f a i hi => ?_)
  · rw [hL]
    have hi : i < a.length := by omega
    simp only [bndD, decide_eq_true (show (j : Int) < (a.length : Int) by omega), bif_tt, gix_nat, hx, bnoS, Int.toNat_natCast, hP, List.getElem?_eq_getElem hi, w64 (show -9223372036854775808 ≤ (j : Int) + 1 by omega) (by omega), w64 (show -9223372036854775808 ≤ (i : Int) + 1 by omega) (by omega)]
    rfl
  · rw [hL]
    have e : (a.take i).length = i := by rw [List.length_take]; omega
    simp only [bndD, lt_len, bif_ff]
    have h1 := cut_at (l := a) (List.take_append_drop i a).symm
    have h2 := cut_at (l := a.take i) (p := a.take i) (r := []) (by simp)
    rw [e] at h1 h2
    rw [h1, bnoS, h2, bnoS]
theorem binaryFunc_gen {α : Type} {dflt : α} {C : α → Option Int} {c : α → Int} {key : α → Int} {x : Int} {L : Nat → Int → Int → Option (Int × Bool)} {l : List α} (hC : ∀ y ∈ l, C y = some (c y)) (hc : ∀ y ∈ l, (c y < 0 ↔ key y < x) ∧ (c y = 0 ↔ key y = x))
    (hL : ∀ f a b, L (f + 1) a b = bnd (decide (a < b)) fun x25 => bif x25 then (bnd (IntKind.wrap .i64 (a + b)) fun x27 => bnd (IntKind.wrap .u64 x27) fun x28 => bno (shrI .u64 x28 1) fun x29 => bnd (IntKind.wrap .i64 x29) fun x30 => bno (gix l x30) fun x31 => bno (C x31) fun x32 =>
      bnd (decide (x32 < 0)) fun x33 => bif x33 then (bnd (IntKind.wrap .i64 (x30 + 1)) fun x35 => L f x35 b) else (L f a x30)) else (bnd (decide (a < (l.length : Int))) fun x36 => bno (gd (x36 == true) (gix l a) (dflt : α)) fun x37 => bno (gd (x36 == true) (C x37) (default : Int)) fun x38 =>
      bnd (decide (x38 = 0)) fun x39 => bnd (x36 && x39) fun x40 => some (a, x40)))
    (hl : l.length ≤ 1000000) (hp : l.Pairwise (fun a b => key a < key b)) :
    ∃ a b : List α, l = a ++ b ∧ a = l.filter (fun y => decide (key y < x)) ∧ b = l.filter (fun y => decide (x ≤ key y)) ∧
      ((∃ y c, b = y :: c ∧ key y = x ∧ L fuel 0 (l.length : Int) = some ((a.length : Int), true)) ∨ ((∀ y ∈ l, key y ≠ x) ∧ L fuel 0 (l.length : Int) = some ((a.length : Int), false))) := by
  refine bsf_all hl (fun f lo hi m y h1 h2 h3 h4 => ?_) (fun f lo h1 => ?_) hp
  · rw [hL]
    have hy : y ∈ l := List.mem_of_getElem? h4
    have e1 : shrI .u64 ((lo : Int) + (hi : Int)) 1 = some ((m : Nat) : Int) := by
      rw [shr_at (k := .u64) (b := 1) 1 rfl (by decide), h3]; congr 1
    simp only [bndD, decide_eq_true (show (lo : Int) < (hi : Int) by omega), bif_tt, w64 (show -9223372036854775808 ≤ (lo : Int) + (hi : Int) by omega) (by omega), wU64 (show 0 ≤ (lo : Int) + (hi : Int) by omega) (by omega), e1, bnoS,
      w64 (show -9223372036854775808 ≤ ((m : Nat) : Int) by omega) (by omega), gix_nat, h4, hC y hy, w64 (show -9223372036854775808 ≤ (m : Int) + 1 by omega) (by omega)]
    by_cases hx : key y < x
    · rw [decide_eq_true hx, decide_eq_true ((hc y hy).1.2 hx)]; rfl
    · rw [decide_eq_false hx, decide_eq_false (fun h => hx ((hc y hy).1.1 h))]; rfl
  · rw [hL]
    simp only [bndD, decide_eq_false (show ¬ (lo : Int) < (lo : Int) by omega), bif_ff]
    by_cases hl' : lo < l.length
    · have hy : l[lo] ∈ l := List.getElem_mem hl'
      simp only [decide_eq_true (show (lo : Int) < (l.length : Int) by omega), beq_self_eq_true, gdtt, gix_nat, List.getElem?_eq_getElem hl', bnoS, hC _ hy, Bool.true_and, Option.map_some, Option.some.injEq]
      by_cases hx : key l[lo] = x
      · rw [decide_eq_true hx, decide_eq_true ((hc _ hy).2.2 hx)]
      · rw [decide_eq_false hx, decide_eq_false (fun h => hx ((hc _ hy).2.1 h))]
    · rw [List.getElem?_eq_none (by omega)]
      simp only [decide_eq_false (show ¬ (lo : Int) < (l.length : Int) by omega), ft, gdff, bnoS, Bool.false_and, Option.map_none]
      rfl
end Go.Fn
set_option linter.unusedSimpArgs false
set_option linter.unusedVariables false
open Go Go.IL
namespace Go.Fn
/-! Fold: where a node stands; what it depends on. -/
abbrev Nd := T_ptree_Node
abbrev Fs := T_fold_State
abbrev Fo := T_fold_Op
theorem awake34 : sennitlaw34_awake = some true := by kernel_rfl
def I64 (n : Int) : Prop := -9223372036854775808 ≤ n ∧ n ≤ 9223372036854775807
theorem wrap_ne {a id : Int} (ha : 1 ≤ a ∧ a ≤ 1048576) (h : I64 id) (hn : a ≠ id) : IntKind.wrap .i64 (a - id) ≠ 0 := by
  obtain ⟨h1, h2⟩ := h
  rw [IntKind.wrap_i64]
  omega
/-- A search among what is in no order ends, too. -/
theorem bs_any {N : List Nd} (hl : N.length ≤ 1000) (hr : ∀ n ∈ N, 1 ≤ n.ID ∧ n.ID ≤ 1048576) (id : Int) (hn : ∀ n ∈ N, n.ID ≠ id) (h64 : I64 id) : ∀ (f lo hi : Nat), hi - lo < f → lo ≤ hi → hi ≤ N.length →
    ∃ p : Nat, p ≤ N.length ∧ slices_BinarySearchFunc_ptree_Node_ptree_Node_int_find_1_L0 N id f (lo : Int) (hi : Int) = some ((p : Int), false)
  | 0, lo, hi, h, _, _ => absurd h (by omega)
  | f + 1, lo, hi, h, h1, h2 => by
    rw [slices_BinarySearchFunc_ptree_Node_ptree_Node_int_find_1_L0, bndD]
    by_cases hlt : lo < hi
    · have hm : (lo + hi) / 2 < N.length := by omega
      have e1 : shrI .u64 ((lo : Int) + (hi : Int)) 1 = some (((lo + hi) / 2 : Nat) : Int) := by
        rw [shr_at (k := .u64) (b := 1) 1 rfl (by decide)]; congr 1
      have hg : N[(lo + hi) / 2]? = some N[(lo + hi) / 2] := List.getElem?_eq_getElem hm
      have hc : fold_State_find_1 N[(lo + hi) / 2] id = some (IntKind.wrap .i64 (N[(lo + hi) / 2].ID - id)) := rfl
      simp only [bndD, decide_eq_true (show (lo : Int) < (hi : Int) by omega), bif_tt, w64 (show -9223372036854775808 ≤ (lo : Int) + (hi : Int) by omega) (by omega), wU64 (show 0 ≤ (lo : Int) + (hi : Int) by omega) (by omega), e1, bnoS,
        w64 (show -9223372036854775808 ≤ (((lo + hi) / 2 : Nat) : Int) by omega) (by omega), gix_nat, hg, hc]
      by_cases hx : IntKind.wrap .i64 (N[(lo + hi) / 2].ID - id) < 0
      · rw [decide_eq_true hx, bif_tt, w64 (by omega) (by omega)]
        have := bs_any hl hr id hn h64 f ((lo + hi) / 2 + 1) hi (by omega) (by omega) h2
        exact this
      · rw [decide_eq_false hx, bif_ff]
        exact bs_any hl hr id hn h64 f lo ((lo + hi) / 2) (by omega) (by omega) (by omega)
    · refine ⟨lo, by omega, ?_⟩
      simp only [bndD, decide_eq_false (show ¬ (lo : Int) < (hi : Int) by omega), bif_ff]
      by_cases hl' : lo < N.length
      · have hg : N[lo]? = some N[lo] := List.getElem?_eq_getElem hl'
        have hc : fold_State_find_1 N[lo] id = some (IntKind.wrap .i64 (N[lo].ID - id)) := rfl
        have hmem := List.getElem_mem hl'
        have hz := wrap_ne (hr _ hmem) h64 (hn _ hmem)
        simp only [decide_eq_true (show (lo : Int) < (N.length : Int) by omega), beq_self_eq_true, gdtt, gix_nat, hg, bnoS, hc, decide_eq_false hz, Bool.and_false]
      · simp only [decide_eq_false (show ¬ (lo : Int) < (N.length : Int) by omega), ft, gdff, bnoS, Bool.false_and]
/-- What a search tells. -/
inductive Fd (N : List Nd) (id : Int) : Int × Bool → Prop
  | yes (A : List Nd) (y : Nd) (C : List Nd) (h : N = A ++ y :: C) (e : y.ID = id) (ha : ∀ a ∈ A, a.ID < id) (hc : ∀ c ∈ C, id < c.ID) : Fd N id ((A.length : Int), true)
  | no (p : Nat) (hp : p ≤ N.length) (h : ∀ n ∈ N, n.ID ≠ id) (h2 : 0 ≤ id → id ≤ 1048576 → (∀ a ∈ N.take p, a.ID < id) ∧ ∀ c ∈ N.drop p, id < c.ID) : Fd N id ((p : Int), false)
theorem find_st (st : Fs) (id : Int) {r : Int × Bool} (h : slices_BinarySearchFunc_ptree_Node_ptree_Node_int_find_1 st.Nodes id = some r) : fold_State_find st id = some r := by
  unfold fold_State_find
  rw [h, bnoS]
theorem bs_ok {N : List Nd} (hl : N.length ≤ 1000) (hr : ∀ n ∈ N, 1 ≤ n.ID ∧ n.ID ≤ 1048576) (hs : N.Pairwise (fun a b => a.ID < b.ID)) {id : Int} (h64 : I64 id) : ∃ r, slices_BinarySearchFunc_ptree_Node_ptree_Node_int_find_1 N id = some r ∧ Fd N id r := by
  by_cases hin : 0 ≤ id ∧ id ≤ 1048576
  · obtain ⟨a, b, h1, h2, h3, h4⟩ := binaryFunc_gen (dflt := (default : Nd)) (C := fun y => fold_State_find_1 y id) (c := fun y => y.ID - id) (key := fun y => y.ID) (x := id) (L := slices_BinarySearchFunc_ptree_Node_ptree_Node_int_find_1_L0 N id) (l := N)
      (fun y hy => by
        have := hr y hy
        unfold fold_State_find_1
        rw [bndD, w64 (by omega) (by omega)])
      (fun y hy => ⟨by omega, by omega⟩) (fun f a b => rfl) (by omega) hs
    have hlt : ∀ y ∈ a, y.ID < id := fun y hy => by
      rw [h2] at hy; have := (List.mem_filter.1 hy).2; simpa using this
    have hge : ∀ y ∈ b, id ≤ y.ID := fun y hy => by
      rw [h3] at hy; have := (List.mem_filter.1 hy).2; simpa using this
    rcases h4 with ⟨y, c, e1, e2, e3⟩ | ⟨e1, e2⟩
    · subst e1
      have hpw := hs
      rw [h1] at hpw
      have hpw := (List.pairwise_cons.1 (List.pairwise_append.1 hpw).2.1).1
      exact ⟨_, e3, .yes a y c h1 e2 hlt (fun z hz => by have := hpw z hz; omega)⟩
    · refine ⟨_, e2, .no a.length (by rw [h1, List.length_append]; omega) e1 (fun _ _ => ?_)⟩
      rw [h1, List.take_left, List.drop_left]
      exact ⟨hlt, fun z hz => by have := hge z hz; have := e1 z (by rw [h1]; simp [hz]); omega⟩
  · have hn : ∀ n ∈ N, n.ID ≠ id := fun n hn => by have := hr n hn; omega
    obtain ⟨p, h1, h2⟩ := bs_any hl hr id hn h64 fuel 0 N.length (fuel_gt (by omega)) (Nat.zero_le _) (Nat.le_refl _)
    exact ⟨_, h2, .no p h1 hn (fun h3 h4 => absurd ⟨h3, h4⟩ hin)⟩
def parOf (N : List Nd) (id : Int) : Option Int := (N.find? fun n => decide (n.ID = id)).map (·.Parent)
theorem par_yes {N A C : List Nd} {y : Nd} {id : Int} (h : N = A ++ y :: C) (e : y.ID = id) (ha : ∀ a ∈ A, a.ID < id) : parOf N id = some y.Parent := by
  unfold parOf
  rw [h, List.find?_append]
  have h1 : A.find? (fun n => decide (n.ID = id)) = none := List.find?_eq_none.2 (fun a hm => by have := ha a hm; simp; omega)
  rw [h1]
  simp [e]
theorem par_no {N : List Nd} {id : Int} (h : ∀ n ∈ N, n.ID ≠ id) : parOf N id = none := by
  unfold parOf
  have h1 : N.find? (fun n => decide (n.ID = id)) = none := List.find?_eq_none.2 (fun a hm => by have := h a hm; simpa using this)
  rw [h1]; rfl
/-- What a node depends on, as far as this goes. -/
def pathS (N : List Nd) : Nat → Int → List Int
  | 0, _ => []
  | k + 1, id => match parOf N id with
    | some p => if p = 0 then [] else p :: pathS N k p
    | none => []
structure Ok34 (N : List Nd) : Prop where
  ln : N.length ≤ 1000
  ra : ∀ n ∈ N, 1 ≤ n.ID ∧ n.ID ≤ 1048576
  so : N.Pairwise (fun a b => a.ID < b.ID)
  pa : ∀ n ∈ N, I64 n.Parent
theorem find34 {st : Fs} (h : Ok34 st.Nodes) {id : Int} (h64 : I64 id) : ∃ r, fold_State_find st id = some r ∧ Fd st.Nodes id r := by
  obtain ⟨r, h1, h2⟩ := bs_ok h.ln h.ra h.so h64
  exact ⟨r, find_st st id h1, h2⟩
theorem path_L {st : Fs} (h : Ok34 st.Nodes) : ∀ (k f i : Nat) (id : Int) (acc : List Int), I64 id → i + k = st.Nodes.length → k < f → acc.length = i → fold_State_path_h_L0 st f id acc (i : Int) = some (acc ++ pathS st.Nodes k id)
  | k, 0, _, _, _, _, _, hf, _ => absurd hf (by omega)
  | 0, f + 1, i, id, acc, h64, hi, hf, ha => by
    rw [fold_State_path_h_L0, bndD, decide_eq_false (by omega), bif_ff]
    unfold pathS; rw [List.append_nil]
  | k + 1, f + 1, i, id, acc, h64, hi, hf, ha => by
    have hln := h.ln
    obtain ⟨r, h1, h2⟩ := find34 h h64
    rw [fold_State_path_h_L0, bndD, decide_eq_true (by omega), bif_tt, h1, bnoS]
    unfold pathS
    cases h2 with
    | yes A y C hN he hA hC =>
      have hg : gix st.Nodes (A.length : Int) = some y := gix_at hN
      have hy : y ∈ st.Nodes := by rw [hN]; simp
      rw [par_yes hN he hA]
      simp only [Bool.not_true, beq_self_eq_true, gdtt, hg, bnoS, bndD, Bool.false_or]
      by_cases hp : y.Parent = 0
      · rw [decide_eq_true hp, bif_tt]
        simp only [hp, if_true, List.append_nil]
      · rw [decide_eq_false hp, bif_ff]
        simp only [if_neg hp]
        rw [app_ok (by simp; omega) (by simp; omega), bnoS, w64 (by omega) (by omega)]
        have := path_L h k f (i + 1) y.Parent (acc ++ [y.Parent]) (h.pa y hy) (by omega) (by omega) (by rw [List.length_append, List.length_singleton]; omega)
        rw [show ((i : Int) + 1) = ((i + 1 : Nat) : Int) by omega, this, List.append_assoc]
        rfl
    | no p hp hn _ =>
      rw [par_no hn]
      simp only [Bool.not_false, tf, gdff, bnoS, bndD, Bool.true_or, bif_tt, List.append_nil]
theorem path34 {st : Fs} (h : Ok34 st.Nodes) {id : Int} (h64 : I64 id) : fold_State_path_h st id = some (pathS st.Nodes st.Nodes.length id) := by
  have hln := h.ln
  have := path_L h st.Nodes.length fuel 0 id [] h64 (by omega) (fuel_gt (by omega)) rfl
  rw [List.nil_append] at this
  exact this
end Go.Fn
set_option linter.unusedSimpArgs false
set_option linter.unusedVariables false
open Go Go.IL
namespace Go.Fn
/-! Fold: states that may be. -/
theorem cmem {α : Type} {P : α → Option Bool} {q : α → Bool} {I : Nat → Int → Option Int} {l : List α} (hP : ∀ x ∈ l, P x = some (q x))
    (hI : ∀ f v, I (f + 1) v = bnd (decide (v < (l.length : Int))) fun x14 => bif x14 then (bno (gix l v) fun x16 => bno (P x16) fun x17 => bif x17 then some v else (bnd (IntKind.wrap .i64 (v + 1)) fun x19 => I f x19)) else some (-1))
    (hl : l.length ≤ 1000000) : (bno (I fuel 0) fun x1 => bnd (decide (0 ≤ x1)) fun x2 => some x2) = some (l.any q) := by
  obtain ⟨k, h1, h2⟩ := idxf_any (L := I) (q := q) hl (fun p x r f h => by
    rw [hI]; simp only [bndD, lt_at h, bif_tt, gix_at h, bnoS, hP x (by rw [h]; simp), w_at h hl]) (fun f => by rw [hI]; simp only [bndD, lt_len, bif_ff])
  rw [h1, bnoS, bndD, h2]
theorem cint {l : List Int} {x : Int} (hl : l.length ≤ 1000000) : slices_Contains_int_int l x = some (decide (x ∈ l)) := by
  unfold slices_Contains_int_int slices_Index_int_int
  have := cmem (P := fun y => some (decide (x = y))) (q := fun y => decide (x = y)) (I := slices_Index_int_int_L0 l x) (l := l) (fun _ _ => rfl) (fun f v => rfl) hl
  rw [this]
  congr 1
  rw [Bool.eq_iff_iff, List.any_eq_true]
  simp
/-- A list without doubles is no longer than one that has all of it. -/
theorem nodup_le : ∀ {l m : List Int}, l.Nodup → (∀ x ∈ l, x ∈ m) → l.length ≤ m.length
  | [], m, _, _ => Nat.zero_le _
  | x :: l, m, hn, hs => by
    obtain ⟨h1, h2⟩ := List.nodup_cons.1 hn
    have hx := hs x (by simp)
    have := nodup_le (l := l) (m := m.erase x) h2 (fun y hy => by
      have hne : y ≠ x := fun e => h1 (e ▸ hy)
      exact (List.mem_erase_of_ne hne).2 (hs y (by simp [hy])))
    rw [List.length_erase_of_mem hx] at this
    have hp : 0 < m.length := List.length_pos_of_mem hx
    simp only [List.length_cons]; omega
theorem ids_nodup {N : List Nd} (h : N.Pairwise (fun a b => a.ID < b.ID)) : (N.map (·.ID)).Nodup := by
  unfold List.Nodup
  rw [List.pairwise_map]
  exact h.imp (fun h => by omega)
structure FV (K : Int) (st : Fs) : Prop where
  rm : st.Room = 24
  kp : st.Keep = K ∧ 0 ≤ K ∧ K ≤ 24
  ln : st.Nodes.length ≤ 24
  el : (st.Ended.length : Int) ≤ K
  so : st.Nodes.Pairwise (fun a b => a.ID < b.ID)
  ra : ∀ n ∈ st.Nodes, (1 ≤ n.ID ∧ n.ID ≤ 1048576) ∧ 1 ≤ n.Weight ∧ n.Weight ≤ 256
  pa : ∀ n ∈ st.Nodes, n.Parent = 0 ∨ ∃ m ∈ st.Nodes, m.ID = n.Parent
  rk : ∃ r : Int → Nat, ∀ n ∈ st.Nodes, n.Parent ≠ 0 → r n.Parent < r n.ID
  en : ∀ n ∈ st.Nodes, (n.Closed = true ↔ n.ID ∈ st.Ended)
  nd : st.Ended.Nodup
  es : ∀ e ∈ st.Ended, ∃ n ∈ st.Nodes, n.ID = e
theorem FV.ok {K : Int} {st : Fs} (h : FV K st) : Ok34 st.Nodes :=
  ⟨by have := h.ln; omega, fun n hn => (h.ra n hn).1, h.so, fun n hn => by
    rcases h.pa n hn with e | ⟨m, hm, e⟩
    · rw [e]; exact ⟨by decide, by decide⟩
    · have := (h.ra m hm).1; exact ⟨by omega, by omega⟩⟩
theorem uniq34 {N : List Nd} (h : N.Pairwise (fun a b => a.ID < b.ID)) {a b : Nd} (ha : a ∈ N) (hb : b ∈ N) (e : a.ID = b.ID) : a = b := by
  obtain ⟨A, C, rfl⟩ := List.append_of_mem ha
  have hp := List.pairwise_append.1 h
  have hp2 := List.pairwise_cons.1 hp.2.1
  rcases List.mem_append.1 hb with hb | hb
  · have := hp.2.2 b hb a (by simp); omega
  · rcases List.mem_cons.1 hb with hb | hb
    · exact hb.symm
    · have := hp2.1 b hb; omega
theorem par_mem {N : List Nd} {id p : Int} (h : parOf N id = some p) : ∃ n ∈ N, n.ID = id ∧ n.Parent = p := by
  unfold parOf at h
  cases hf : N.find? (fun n => decide (n.ID = id)) with
  | none => rw [hf] at h; cases h
  | some n =>
    rw [hf] at h
    have h1 := List.find?_some hf
    exact ⟨n, List.mem_of_find?_eq_some hf, by simpa using h1, by simpa using h⟩
theorem par_of {N : List Nd} (h : N.Pairwise (fun a b => a.ID < b.ID)) {n : Nd} (hn : n ∈ N) : parOf N n.ID = some n.Parent := by
  obtain ⟨A, C, rfl⟩ := List.append_of_mem hn
  have hp := List.pairwise_append.1 h
  exact par_yes rfl rfl (fun a ha => hp.2.2 a ha n (by simp))
theorem path_rank {N : List Nd} {r : Int → Nat} (h : ∀ n ∈ N, n.Parent ≠ 0 → r n.Parent < r n.ID) : ∀ (k : Nat) (id x : Int), x ∈ pathS N k id → r x < r id
  | 0, _, _, hx => (List.not_mem_nil hx).elim
  | k + 1, id, x, hx => by
    unfold pathS at hx
    cases hp : parOf N id with
    | none => rw [hp] at hx; exact (List.not_mem_nil hx).elim
    | some p =>
      rw [hp] at hx
      obtain ⟨n, hn, e1, e2⟩ := par_mem hp
      by_cases hz : p = 0
      · simp only [hz, if_true] at hx; exact (List.not_mem_nil hx).elim
      · simp only [if_neg hz] at hx
        have h1 := h n hn (by rw [e2]; exact hz)
        rw [e1, e2] at h1
        rcases List.mem_cons.1 hx with rfl | hx
        · exact h1
        · have := path_rank h k p x hx; omega
theorem path_len (N : List Nd) : ∀ (k : Nat) (id : Int), (pathS N k id).length ≤ k
  | 0, _ => Nat.le_refl _
  | k + 1, id => by
    unfold pathS
    cases parOf N id with
    | none => exact Nat.zero_le _
    | some p =>
      have := path_len N k p
      simp only
      split
      · exact Nat.zero_le _
      · rw [List.length_cons]; omega
theorem round_no {K : Int} {st : Fs} (h : FV K st) : slices_ContainsFunc_ptree_Node_ptree_Node_round st.Nodes st = some false := by
  obtain ⟨r, hr⟩ := h.rk
  have hln := h.ln
  unfold slices_ContainsFunc_ptree_Node_ptree_Node_round slices_IndexFunc_ptree_Node_ptree_Node_round
  have := cmem (P := fun y => fold_State_round st y) (q := fun _ => false) (I := slices_IndexFunc_ptree_Node_ptree_Node_round_L0 st.Nodes st) (l := st.Nodes) (fun n hn => by
    have hp := path_len st.Nodes st.Nodes.length n.ID
    have h64 : I64 n.ID := by have := (h.ra n hn).1; exact ⟨by omega, by omega⟩
    have hni : ¬ n.ID ∈ pathS st.Nodes st.Nodes.length n.ID := fun hm => by have := path_rank hr _ _ _ hm; omega
    unfold fold_State_round
    rw [path34 h.ok h64, bnoS, cint (by omega), bnoS, decide_eq_false hni]) (fun f v => rfl) (by omega)
  rw [this]
  congr 1
  rw [List.any_eq_false]; simp
theorem find_mem {K : Int} {st : Fs} (h : FV K st) {n : Nd} (hn : n ∈ st.Nodes) : ∃ A C, st.Nodes = A ++ n :: C ∧ fold_State_find st n.ID = some ((A.length : Int), true) := by
  have h64 : I64 n.ID := by have := (h.ra n hn).1; exact ⟨by omega, by omega⟩
  obtain ⟨r, h1, h2⟩ := find34 h.ok h64
  cases h2 with
  | yes A y C hN he hA hC =>
    have : y = n := uniq34 h.so (by rw [hN]; simp) hn he
    subst this
    exact ⟨A, C, hN, h1⟩
  | no p hp hno _ => exact absurd rfl (hno n hn)
theorem lost_no {K : Int} {st : Fs} (h : FV K st) : slices_ContainsFunc_ptree_Node_ptree_Node_lost st.Nodes st = some false := by
  have hln := h.ln
  unfold slices_ContainsFunc_ptree_Node_ptree_Node_lost slices_IndexFunc_ptree_Node_ptree_Node_lost
  have := cmem (P := fun y => fold_State_lost st y) (q := fun _ => false) (I := slices_IndexFunc_ptree_Node_ptree_Node_lost_L0 st.Nodes st) (l := st.Nodes) (fun n hn => by
    unfold fold_State_lost
    rcases h.pa n hn with e | ⟨m, hm, e⟩
    · obtain ⟨r, h1, _⟩ := find34 h.ok (id := n.Parent) (h.ok.pa n hn)
      rw [h1, bnoS]
      simp only [bndD, decide_eq_true e, Bool.not_true, Bool.false_and]
    · obtain ⟨A, C, _, h1⟩ := find_mem h hm
      rw [e] at h1
      rw [h1, bnoS]
      simp only [bndD, Bool.not_true, Bool.and_false]) (fun f v => rfl) (by omega)
  rw [this]
  congr 1
  rw [List.any_eq_false]; simp
theorem wrong_no {K : Int} {st : Fs} (h : FV K st) : slices_ContainsFunc_ptree_Node_ptree_Node_wrong st.Nodes = some false := by
  have hln := h.ln
  unfold slices_ContainsFunc_ptree_Node_ptree_Node_wrong slices_IndexFunc_ptree_Node_ptree_Node_wrong
  have := cmem (P := fold_wrong) (q := fun _ => false) (I := slices_IndexFunc_ptree_Node_ptree_Node_wrong_L0 st.Nodes) (l := st.Nodes) (fun n hn => by
    obtain ⟨⟨h1, h2⟩, h3, h4⟩ := h.ra n hn
    unfold fold_wrong
    simp only [bndD, decide_eq_false (show ¬ n.ID < 1 by omega), decide_eq_false (show ¬ 1048576 < n.ID by omega), decide_eq_false (show ¬ n.Weight < 1 by omega), decide_eq_false (show ¬ 256 < n.Weight by omega), Bool.or_self]) (fun f v => rfl) (by omega)
  rw [this]
  congr 1
  rw [List.any_eq_false]; simp
theorem closed_len {K : Int} {st : Fs} (h : FV K st) : (st.Nodes.filter (·.Closed)).length = st.Ended.length := by
  have h1 : ((st.Nodes.filter (·.Closed)).map (·.ID)).Nodup := ids_nodup (List.Pairwise.sublist List.filter_sublist h.so)
  have h2 := nodup_le h1 (m := st.Ended) (fun x hx => by
    obtain ⟨n, hn, rfl⟩ := List.mem_map.1 hx
    obtain ⟨hn, hc⟩ := List.mem_filter.1 hn
    exact (h.en n hn).1 hc)
  have h3 := nodup_le h.nd (m := (st.Nodes.filter (·.Closed)).map (·.ID)) (fun x hx => by
    obtain ⟨n, hn, e⟩ := h.es x hx
    exact List.mem_map.2 ⟨n, List.mem_filter.2 ⟨hn, (h.en n hn).2 (by rw [e]; exact hx)⟩, e⟩)
  rw [List.length_map] at h2 h3
  omega
theorem ended_L {K : Int} {st : Fs} (h : FV K st) : ∀ (r p : List Nd) (f : Nat), st.Nodes = p ++ r → r.length < f → fold_State_ended_L0 st f ((p.filter (·.Closed)).length : Int) (p.length : Int) = some true
  | [], p, f + 1, hN, _ => by
    have hc := closed_len h
    rw [List.append_nil] at hN
    rw [fold_State_ended_L0]
    rw [hN] at hc
    simp only [bndD, hN, lt_len, bif_ff]
    rw [decide_eq_true (congrArg (Nat.cast (R := Int)) hc)]
  | n :: r, p, f + 1, hN, hf => by
    have hln := h.ln
    have hn : n ∈ st.Nodes := by rw [hN]; simp
    have hel := h.el
    have hk := h.kp
    have hpl : p.length ≤ 24 := by rw [hN] at hln; simp at hln; omega
    have hfl := List.length_filter_le (·.Closed) p
    have hrec := ended_L h r (p ++ [n]) f (next_at hN) (by simpa using hf)
    have hcon := cint (l := st.Ended) (x := n.ID) (by omega)
    have hen := h.en n hn
    rw [fold_State_ended_L0]
    simp only [bndD, lt_at hN, bif_tt, gix_at hN, bnoS]
    rw [List.filter_append] at hrec
    cases hC : n.Closed
    · have : ¬ n.ID ∈ st.Ended := fun hm => by have := hen.2 hm; rw [hC] at this; cases this
      rw [decide_eq_false this] at hcon
      have e : [n].filter (·.Closed) = [] := by simp [hC]
      rw [e, List.append_nil] at hrec
      simp only [bif_ff]
      unfold fold_State_ended_J1
      simp only [hcon, bnoS, bndD, hC, beq_self_eq_true, Bool.not_true, bif_ff, w_at hN (show st.Nodes.length ≤ 1000000 by omega)]
      exact hrec
    · have : n.ID ∈ st.Ended := hen.1 hC
      rw [decide_eq_true this] at hcon
      have e : [n].filter (·.Closed) = [n] := by simp [hC]
      rw [e] at hrec
      simp only [bif_tt]
      unfold fold_State_ended_J1
      simp only [hcon, bnoS, bndD, hC, beq_self_eq_true, Bool.not_true, bif_ff, w_at hN (show st.Nodes.length ≤ 1000000 by omega), w64 (show -9223372036854775808 ≤ ((p.filter (·.Closed)).length : Int) + 1 by omega) (by omega)]
      rw [List.length_append, List.length_singleton] at hrec
      exact hrec
theorem check_L {K : Int} {st : Fs} (h : FV K st) : ∀ (r p : List Nd) (x : Nd) (f : Nat), st.Nodes = (p ++ [x]) ++ r → r.length < f → fold_Check_L0 st f ((p ++ [x]).length : Int) = some 0
  | [], p, x, f + 1, hN, _ => by
    have hend := ended_L h st.Nodes [] fuel rfl (fuel_gt (by have := h.ln; omega))
    rw [List.append_nil] at hN
    rw [fold_Check_L0]
    have hend : fold_State_ended st = some true := hend
    simp only [bndD, ← hN, lt_len, bif_ff, lost_no h, round_no h, hend, bnoS, Bool.not_true]
  | n :: r, p, x, f + 1, hN, hf => by
    have hln := h.ln
    have hpl : (p ++ [x]).length ≤ 24 := by rw [hN] at hln; simp at hln ⊢; omega
    have hlt : x.ID < n.ID := by
      have := h.so; rw [hN] at this
      exact (List.pairwise_append.1 this).2.2 x (by simp) n (by simp)
    have e1 : ((p ++ [x]).length : Int) - 1 = (p.length : Int) := by rw [List.length_append, List.length_singleton]; omega
    have hg1 : gix st.Nodes (p.length : Int) = some x := gix_at (l := st.Nodes) (r := n :: r) (by rw [hN, List.append_assoc]; rfl)
    have hrec := check_L h r (p ++ [x]) n f (by rw [hN]; simp) (by simpa using hf)
    rw [fold_Check_L0]
    simp only [bndD, lt_at hN, bif_tt, e1, w64 (show -9223372036854775808 ≤ (p.length : Int) by omega) (by rw [List.length_append] at hpl; omega), hg1, gix_at hN, bnoS, decide_eq_false (show ¬ n.ID ≤ x.ID by omega), bif_ff, w_at hN (show st.Nodes.length ≤ 1000000 by omega)]
    exact hrec
theorem check34 {K : Int} {st : Fs} (h : FV K st) : fold_Check st = some 0 := by
  have hrm := h.rm; have hkp := h.kp; have hln := h.ln; have hel := h.el
  have hL : fold_Check_L0 st fuel 1 = some 0 := by
    cases hN : st.Nodes with
    | nil =>
      have hend := ended_L h st.Nodes [] fuel rfl (fuel_gt (by omega))
      have hend : fold_State_ended st = some true := hend
      obtain ⟨m, hm⟩ : ∃ m, fuel = m + 1 := ⟨2 ^ 64 - 1, by show 2 ^ 64 = _; omega⟩
      have hlo := lost_no h; have hro := round_no h
      rw [hm, fold_Check_L0]
      rw [hN] at hlo hro
      simp only [bndD, hN, List.length_nil, show decide ((1 : Int) < ((0 : Nat) : Int)) = false from rfl, bif_ff, hlo, hro, hend, bnoS, Bool.not_true]
    | cons x r =>
      have := check_L h r [] x fuel (by rw [hN]; rfl) (fuel_gt (by rw [hN] at hln; simp at hln; omega))
      exact this
  unfold fold_Check
  simp only [bndD, decide_eq_false (show ¬ st.Room < 1 by omega), decide_eq_false (show ¬ 24 < st.Room by omega), decide_eq_false (show ¬ st.Keep < 0 by omega), decide_eq_false (show ¬ st.Room < st.Keep by omega), Bool.or_self, beq_self_eq_true, gdtt, wrong_no h, bnoS, bif_ff, decide_eq_false (show ¬ st.Room < (st.Nodes.length : Int) by omega), decide_eq_false (show ¬ st.Keep < (st.Ended.length : Int) by omega), hL]
end Go.Fn
set_option linter.unusedSimpArgs false
set_option linter.unusedVariables false
open Go Go.IL
namespace Go.Fn
/-! Fold: who is removed. -/
theorem get_app {α : Type} {l p r : List α} {x : α} (h : l = p ++ x :: r) : l[((p.length : Nat) : Int).toNat]? = some x := by
  rw [Int.toNat_natCast, h, List.getElem?_append_right (Nat.le_refl _)]; simp
theorem set_app {α : Type} {p r : List α} {x y : α} : (p ++ x :: r).set ((p.length : Nat) : Int).toNat y = p ++ y :: r := by
  rw [Int.toNat_natCast, List.set_append_right _ _ (Nat.le_refl _)]; simp
/-- The weights of those that depend on a node at once; how many they are. -/
def sumS : List Nd → Int → Int
  | [], _ => 0
  | n :: r, id => (if n.Parent = id then n.Weight else 0) + sumS r id
def kidS : List Nd → Int → Nat
  | [], _ => 0
  | n :: r, id => (if n.Parent = id then 1 else 0) + kidS r id
theorem sum_app : ∀ (a b : List Nd) (id : Int), sumS (a ++ b) id = sumS a id + sumS b id
  | [], b, id => by show sumS b id = 0 + sumS b id; omega
  | n :: a, b, id => by
    have := sum_app a b id
    show _ + sumS (a ++ b) id = _ + sumS a id + sumS b id
    omega
theorem kid_app : ∀ (a b : List Nd) (id : Int), kidS (a ++ b) id = kidS a id + kidS b id
  | [], b, id => by show kidS b id = 0 + kidS b id; omega
  | n :: a, b, id => by
    have := kid_app a b id
    show _ + kidS (a ++ b) id = _ + kidS a id + kidS b id
    omega
theorem sum_nn : ∀ {N : List Nd}, (∀ n ∈ N, 1 ≤ n.Weight ∧ n.Weight ≤ 256) → ∀ id, 0 ≤ sumS N id ∧ sumS N id ≤ 256 * N.length
  | [], _, _ => ⟨Int.le_refl _, Int.le_refl _⟩
  | n :: r, h, id => by
    have h1 := sum_nn (N := r) (fun x hx => h x (by simp [hx])) id
    have h2 := h n (by simp)
    have e : sumS (n :: r) id = (if n.Parent = id then n.Weight else 0) + sumS r id := rfl
    rw [e, List.length_cons]
    split <;> omega
theorem sum_ge : ∀ {N : List Nd} {n : Nd}, (∀ x ∈ N, 1 ≤ x.Weight ∧ x.Weight ≤ 256) → n ∈ N → n.Weight ≤ sumS N n.Parent
  | m :: r, n, h, hn => by
    have h1 := sum_nn (N := r) (fun x hx => h x (by simp [hx])) n.Parent
    have e : sumS (m :: r) n.Parent = (if m.Parent = n.Parent then m.Weight else 0) + sumS r n.Parent := rfl
    rw [e]
    rcases List.mem_cons.1 hn with rfl | hn
    · rw [if_pos rfl]; omega
    · have h2 := sum_ge (N := r) (fun x hx => h x (by simp [hx])) hn
      have h3 := h m (by simp)
      split <;> omega
theorem sum_L {st : Fs} (hl : st.Nodes.length ≤ 1000) (hw : ∀ n ∈ st.Nodes, 1 ≤ n.Weight ∧ n.Weight ≤ 256) (id : Int) : ∀ (r p : List Nd) (f : Nat), st.Nodes = p ++ r → r.length < f → fold_State_sum_L0 st id f (sumS p id) (p.length : Int) = some (sumS st.Nodes id)
  | [], p, f + 1, hN, _ => by
    rw [List.append_nil] at hN
    rw [fold_State_sum_L0]
    simp only [bndD, hN, lt_len, bif_ff]
  | n :: r, p, f + 1, hN, hf => by
    have hp := sum_nn (N := p) (fun x hx => hw x (by rw [hN]; simp [hx])) id
    have hpl : p.length ≤ 1000 := by rw [hN] at hl; simp at hl; omega
    have hn := hw n (by rw [hN]; simp)
    have hrec := sum_L hl hw id r (p ++ [n]) f (next_at hN) (by simpa using hf)
    have e1 : sumS [n] id = (if n.Parent = id then n.Weight else 0) + 0 := rfl
    rw [sum_app, e1] at hrec
    rw [fold_State_sum_L0]
    simp only [bndD, lt_at hN, bif_tt, gix_at hN, bnoS, w_at hN (show st.Nodes.length ≤ 1000000 by omega)]
    by_cases hq : n.Parent = id
    · rw [if_pos hq, Int.add_zero] at hrec
      rw [decide_eq_true hq, bif_tt, w64 (by omega) (by omega)]
      exact hrec
    · rw [if_neg hq, Int.add_zero, Int.add_zero] at hrec
      rw [decide_eq_false hq, bif_ff]
      exact hrec
theorem sum34 {st : Fs} (hl : st.Nodes.length ≤ 1000) (hw : ∀ n ∈ st.Nodes, 1 ≤ n.Weight ∧ n.Weight ≤ 256) (id : Int) : fold_State_sum st id = some (sumS st.Nodes id) :=
  sum_L hl hw id st.Nodes [] fuel rfl (fuel_gt (by omega))
/-- What a node becomes when another one goes. -/
def offN (y : Nd) (S : Int) (n : Nd) : Nd := if n.Parent = y.ID then ⟨n.ID, y.Parent, max (y.Weight * n.Weight / S) 1, n.Closed⟩ else n
theorem offN_id (y : Nd) (S : Int) (n : Nd) : (offN y S n).ID = n.ID := by unfold offN; split <;> rfl
theorem offN_closed (y : Nd) (S : Int) (n : Nd) : (offN y S n).Closed = n.Closed := by unfold offN; split <;> rfl
theorem off_L {a0 a1 : Int} {E : List Int} {y : Nd} {M : List Nd} {E' : List Int} (hl : M.length ≤ 1000) (hw : ∀ n ∈ M, 1 ≤ n.Weight ∧ n.Weight ≤ 256) (hy : 1 ≤ y.Weight ∧ y.Weight ≤ 256) (hE : slices_DeleteFunc_int_int_h_off_1 E y.ID = some E') : ∀ (r p : List Nd) (f : Nat), M = p ++ r → r.length < f →
    fold_State_off_h_L0 a0 a1 y.ID E y M (sumS M y.ID) f (p.length : Int) (p.map (offN y (sumS M y.ID)) ++ r) = some (a0, a1, M.map (offN y (sumS M y.ID)), E')
  | [], p, f + 1, hM, _ => by
    rw [List.append_nil] at hM
    rw [fold_State_off_h_L0]
    simp only [bndD, hM, lt_len, bif_ff, hE, bnoS, List.append_nil]
  | n :: r, p, f + 1, hM, hf => by
    have hn : n ∈ M := by rw [hM]; simp
    have hwn := hw n hn
    have hrec := off_L (a0 := a0) (a1 := a1) hl hw hy hE r (p ++ [n]) f (next_at hM) (by simpa using hf)
    have hlen : (p.map (offN y (sumS M y.ID))).length = p.length := List.length_map ..
    generalize hq : p.map (offN y (sumS M y.ID)) = P at *
    have hg : gix (P ++ n :: r) (p.length : Int) = some n := by rw [← hlen]; exact gix_at rfl
    have hg2 : ∀ z : Nd, (P ++ z :: r)[((p.length : Nat) : Int).toNat]? = some z := fun z => by rw [← hlen]; exact get_app rfl
    have hset : ∀ z w : Nd, (P ++ z :: r).set ((p.length : Nat) : Int).toNat w = P ++ w :: r := fun z w => by rw [← hlen]; exact set_app
    rw [fold_State_off_h_L0]
    simp only [bndD, lt_at hM, bif_tt, hg, hg2, bnoS, w_at hM (show M.length ≤ 1000000 by omega)]
    rw [List.map_append, hq, List.append_assoc] at hrec
    have eo : [n].map (offN y (sumS M y.ID)) ++ r = offN y (sumS M y.ID) n :: r := rfl
    rw [eo] at hrec
    by_cases hp : n.Parent = y.ID
    · have hge := sum_ge hw hn
      rw [hp] at hge
      have h1 : 1 ≤ y.Weight * n.Weight := by
        have := Int.mul_le_mul hy.1 hwn.1 (by decide) (by omega)
        simpa using this
      have h2 : y.Weight * n.Weight ≤ 65536 := by
        have := Int.mul_le_mul hy.2 hwn.2 (by omega) (by decide)
        simpa using this
      have hd0 : 0 ≤ y.Weight * n.Weight / sumS M y.ID := Int.ediv_nonneg (by omega) (by omega)
      have hd1 : y.Weight * n.Weight / sumS M y.ID ≤ y.Weight * n.Weight := Int.ediv_le_self _ (by omega)
      have hquo : quoI .i64 (y.Weight * n.Weight) (sumS M y.ID) = some (y.Weight * n.Weight / sumS M y.ID) := by
        unfold quoI
        rw [if_neg (by omega), Int.tdiv_eq_ediv_of_nonneg (by omega), w64 (by omega) (by omega)]
      have eo2 : offN y (sumS M y.ID) n = ⟨n.ID, y.Parent, max (y.Weight * n.Weight / sumS M y.ID) 1, n.Closed⟩ := by unfold offN; rw [if_pos hp]
      rw [eo2] at hrec
      simp only [decide_eq_true hp, bif_tt, w64 (show -9223372036854775808 ≤ y.Weight * n.Weight by omega) (by omega), hquo, bnoS, hset, hg2]
      exact hrec
    · have eo2 : offN y (sumS M y.ID) n = n := by unfold offN; rw [if_neg hp]
      rw [eo2] at hrec
      simp only [decide_eq_false hp, bif_ff]
      exact hrec
theorem del34 {E : List Int} {id : Int} (hl : E.length ≤ 100000) : slices_DeleteFunc_int_int_h_off_1 E id = some (E.filter fun y => !decide (y = id)) :=
  deleteFunc_gen (P := fun x => fold_State_off_1 x id) (q := fun y => decide (y = id)) (I := slices_IndexFunc_int_int_off_1_L0 E id) (L := slices_DeleteFunc_int_int_h_off_1_L0 id) (fun _ => rfl) (fun _ _ => rfl) (fun _ _ _ _ => rfl) hl
def offS (A : List Nd) (y : Nd) (C : List Nd) : List Nd := (A ++ C).map (offN y (sumS (A ++ C) y.ID))
theorem off34 {K : Int} {st : Fs} (h : FV K st) {id : Int} (hid : ∃ n ∈ st.Nodes, n.ID = id) : ∃ A y C, st.Nodes = A ++ y :: C ∧ y.ID = id ∧ fold_State_off_h st.Room st.Keep id st.Nodes st.Ended = some (st.Room, st.Keep, offS A y C, st.Ended.filter fun y => !decide (y = id)) := by
  obtain ⟨y, hy, rfl⟩ := hid
  obtain ⟨A, C, hN, hf⟩ := find_mem h hy
  have hln := h.ln; have hel := h.el; have hkp := h.kp
  have hra := h.ra
  have hlen : A.length + C.length + 1 ≤ 24 := by rw [hN] at hln; simp at hln; omega
  have hdel : slices_Delete_ptree_Node_ptree_Node_h (A.length : Int) ((A.length : Int) + 1) st.Nodes = some (A ++ C) := by
    unfold slices_Delete_ptree_Node_ptree_Node_h
    rw [delS_ok (by omega) (by omega) (by rw [hN]; simp; omega), hN]
    congr 1
    have e1 : ((A.length : Int)).toNat = A.length := by omega
    have e2 : ((A.length : Int) + 1).toNat = A.length + 1 := by omega
    rw [e1, e2, List.take_left, List.drop_append]
    simp
  have hw : ∀ n ∈ A ++ C, 1 ≤ n.Weight ∧ n.Weight ≤ 256 := fun n hn => (hra n (by rw [hN]; rcases List.mem_append.1 hn with hn | hn <;> simp [hn])).2
  have hl : (A ++ C).length ≤ 1000 := by rw [List.length_append]; omega
  have hsum := sum34 (st := ⟨st.Room, st.Keep, A ++ C, st.Ended⟩) hl hw y.ID
  have hoff := off_L (a0 := st.Room) (a1 := st.Keep) (E := st.Ended) (y := y) (M := A ++ C) hl hw (hra y hy).2 (del34 (by omega)) (A ++ C) [] fuel rfl (fuel_gt (by omega))
  refine ⟨A, y, C, hN, rfl, ?_⟩
  have hfs : fold_State_find ⟨st.Room, st.Keep, st.Nodes, st.Ended⟩ y.ID = some ((A.length : Int), true) := hf
  unfold fold_State_off_h
  rw [hfs, bnoS, gix_at hN, bnoS, get_app hN, bnoS, bndD, w64 (by omega) (by omega), hdel, bnoS, hsum, bnoS]
  exact hoff
theorem fv_off {K : Int} {st : Fs} (h : FV K st) {A C : List Nd} {y : Nd} (hN : st.Nodes = A ++ y :: C) : FV K ⟨st.Room, st.Keep, offS A y C, st.Ended.filter fun e => !decide (e = y.ID)⟩ := by
  obtain ⟨r, hr⟩ := h.rk
  have hso := h.so
  rw [hN] at hso
  have hp := List.pairwise_append.1 hso
  have hp2 := List.pairwise_cons.1 hp.2.1
  have hmem : ∀ n, n ∈ A ++ C → n ∈ st.Nodes ∧ n.ID ≠ y.ID := fun n hn => by
    rcases List.mem_append.1 hn with hn | hn
    · exact ⟨by rw [hN]; simp [hn], by have := hp.2.2 n hn y (by simp); omega⟩
    · exact ⟨by rw [hN]; simp [hn], by have := hp2.1 n hn; omega⟩
  have hback : ∀ n ∈ st.Nodes, n.ID ≠ y.ID → n ∈ A ++ C := fun n hn hne => by
    rw [hN] at hn
    rcases List.mem_append.1 hn with hn | hn
    · exact List.mem_append.2 (.inl hn)
    · rcases List.mem_cons.1 hn with rfl | hn
      · exact absurd rfl hne
      · exact List.mem_append.2 (.inr hn)
  have hy : y ∈ st.Nodes := by rw [hN]; simp
  have hw : ∀ n ∈ A ++ C, 1 ≤ n.Weight ∧ n.Weight ≤ 256 := fun n hn => (h.ra n (hmem n hn).1).2
  have hln := h.ln
  have himg : ∀ m ∈ offS A y C, ∃ n ∈ A ++ C, m = offN y (sumS (A ++ C) y.ID) n := fun m hm => by
    obtain ⟨n, hn, e⟩ := List.mem_map.1 hm
    exact ⟨n, hn, e.symm⟩
  have hin : ∀ n ∈ A ++ C, ∃ m ∈ offS A y C, m.ID = n.ID := fun n hn => ⟨_, List.mem_map.2 ⟨n, hn, rfl⟩, offN_id _ _ _⟩
  have hyp : y.Parent ≠ y.ID := fun e => by
    have hyr := (h.ra y hy).1
    have := hr y hy (by omega)
    rw [e] at this; omega
  refine ⟨h.rm, h.kp, ?_, ?_, ?_, fun m hm => ?_, fun m hm => ?_, ⟨r, fun m hm hz => ?_⟩, fun m hm => ?_, ?_, fun e he => ?_⟩
  · show (offS A y C).length ≤ 24
    unfold offS; rw [List.length_map, List.length_append]
    rw [hN] at hln; simp at hln; omega
  · show ((st.Ended.filter _).length : Int) ≤ K
    have := List.length_filter_le (fun e => !decide (e = y.ID)) st.Ended
    have := h.el; omega
  · show (offS A y C).Pairwise _
    unfold offS
    rw [List.pairwise_map]
    have : (A ++ C).Pairwise (fun a b => a.ID < b.ID) := List.pairwise_append.2 ⟨hp.1, hp2.2, fun a ha b hb => hp.2.2 a ha b (by simp [hb])⟩
    exact this.imp (fun hab => by rw [offN_id, offN_id]; exact hab)
  · obtain ⟨n, hn, rfl⟩ := himg m hm
    have hnr := h.ra n (hmem n hn).1
    unfold offN
    split
    · rename_i hpar
      refine ⟨hnr.1, ?_⟩
      have hge := sum_ge hw hn
      rw [hpar] at hge
      have hyw := (h.ra y hy).2
      have hd : y.Weight * n.Weight / sumS (A ++ C) y.ID ≤ y.Weight := by
        apply Int.ediv_le_of_le_mul (by omega)
        exact Int.mul_le_mul_of_nonneg_left hge (by omega)
      show 1 ≤ max (y.Weight * n.Weight / sumS (A ++ C) y.ID) 1 ∧ max (y.Weight * n.Weight / sumS (A ++ C) y.ID) 1 ≤ 256
      omega
    · exact hnr
  · obtain ⟨n, hn, rfl⟩ := himg m hm
    obtain ⟨hn1, hn2⟩ := hmem n hn
    have key : ∀ p : Int, p ≠ y.ID → (p = 0 ∨ ∃ m ∈ st.Nodes, m.ID = p) → (p = 0 ∨ ∃ m ∈ offS A y C, m.ID = p) := fun p hpy hh => by
      rcases hh with hh | ⟨q, hq, e⟩
      · exact .inl hh
      · obtain ⟨z, hz, ez⟩ := hin q (hback q hq (by rw [e]; exact hpy))
        exact .inr ⟨z, hz, ez.trans e⟩
    unfold offN
    split
    · exact key y.Parent hyp (h.pa y hy)
    · rename_i hpar
      exact key n.Parent hpar (h.pa n hn1)
  · obtain ⟨n, hn, rfl⟩ := himg m hm
    obtain ⟨hn1, hn2⟩ := hmem n hn
    rw [offN_id]
    unfold offN at hz ⊢
    split
    · rename_i hpar
      rw [if_pos hpar] at hz
      have hz : y.Parent ≠ 0 := hz
      have h1 := hr y hy hz
      have hyr := (h.ra y hy).1
      have h2 := hr n hn1 (by rw [hpar]; omega)
      rw [hpar] at h2
      show r y.Parent < r n.ID
      omega
    · rename_i hpar
      rw [if_neg hpar] at hz
      exact hr n hn1 hz
  · obtain ⟨n, hn, rfl⟩ := himg m hm
    obtain ⟨hn1, hn2⟩ := hmem n hn
    rw [offN_closed, offN_id]
    have := h.en n hn1
    show _ ↔ n.ID ∈ st.Ended.filter _
    rw [List.mem_filter, this]
    simp [hn2]
  · exact h.nd.filter _
  · obtain ⟨he1, he2⟩ := List.mem_filter.1 he
    have he2 : e ≠ y.ID := by simpa using he2
    obtain ⟨n, hn, en⟩ := h.es e he1
    obtain ⟨z, hz, ez⟩ := hin n (hback n hn (by rw [en]; exact he2))
    exact ⟨z, hz, ez.trans en⟩
end Go.Fn
set_option linter.unusedSimpArgs false
set_option linter.unusedVariables false
open Go Go.IL
namespace Go.Fn
/-! Fold: who hangs on whom; nobody on itself in the end. -/
/-- At or below a node. -/
inductive Anc (N : List Nd) (x : Int) : Int → Prop
  | here : Anc N x x
  | up (n : Nd) (hn : n ∈ N) (hx : n.ID ≠ x) (hp : n.Parent ≠ 0) (h : Anc N x n.Parent) : Anc N x n.ID
/-- Below a place, not by way of 'x'. -/
inductive Blw (N : List Nd) (x d : Int) : Int → Prop
  | child (n : Nd) (hn : n ∈ N) (hx : n.ID ≠ x) (hp : n.Parent = d) : Blw N x d n.ID
  | up (n : Nd) (hn : n ∈ N) (hx : n.ID ≠ x) (hp : n.Parent ≠ 0) (h : Blw N x d n.Parent) : Blw N x d n.ID
def Rk (N : List Nd) (x : Int) (r : Int → Nat) : Prop := ∀ n ∈ N, n.ID ≠ x → n.Parent ≠ 0 → r n.Parent < r n.ID
theorem anc_rank {N : List Nd} {x : Int} {r : Int → Nat} (h : Rk N x r) {z : Int} (ha : Anc N x z) : z = x ∨ r x < r z := by
  induction ha with
  | here => exact .inl rfl
  | up n hn hx hp _ ih =>
    have := h n hn hx hp
    rcases ih with e | e
    · rw [e] at this; exact .inr this
    · exact .inr (by omega)
theorem anc_node {N : List Nd} {x z : Int} (ha : Anc N x z) : z = x ∨ ∃ n ∈ N, n.ID = z := by
  cases ha with
  | here => exact .inl rfl
  | up n hn _ _ _ => exact .inr ⟨n, hn, rfl⟩
theorem blw_rank {N : List Nd} {x d : Int} {r : Int → Nat} (h : Rk N x r) (hd : d ≠ 0) {z : Int} (ha : Blw N x d z) : r d < r z := by
  induction ha with
  | child n hn hx hp => have := h n hn hx (by rw [hp]; exact hd); rw [hp] at this; exact this
  | up n hn hx hp _ ih => have := h n hn hx hp; omega
theorem anc_par {N : List Nd} (hs : N.Pairwise (fun a b => a.ID < b.ID)) {x : Int} {n : Nd} (hn : n ∈ N) (hx : n.ID ≠ x) (ha : Anc N x n.ID) : Anc N x n.Parent := by
  generalize hz : n.ID = z at ha
  cases ha with
  | here => exact absurd hz hx
  | up m hm hmx hmp h =>
    have : m = n := uniq34 hs hm hn hz.symm
    subst this; exact h
theorem blw_par {N : List Nd} (hs : N.Pairwise (fun a b => a.ID < b.ID)) {x d : Int} {n : Nd} (hn : n ∈ N) (ha : Blw N x d n.ID) : n.Parent = d ∨ Blw N x d n.Parent := by
  generalize hz : n.ID = z at ha
  cases ha with
  | child m hm hmx hmp =>
    have : m = n := uniq34 hs hm hn hz.symm
    subst this; exact .inl hmp
  | up m hm hmx hmp h =>
    have : m = n := uniq34 hs hm hn hz.symm
    subst this; exact .inr h
/-- What a node becomes when 'x' hangs on 'd'. -/
def hangN (x d w : Int) (only : Bool) (n : Nd) : Nd := if n.ID = x then ⟨n.ID, d, w, n.Closed⟩ else if only = true ∧ n.Parent = d then ⟨n.ID, x, n.Weight, n.Closed⟩ else n
theorem hangN_id (x d w : Int) (o : Bool) (n : Nd) : (hangN x d w o n).ID = n.ID := by unfold hangN; split; rfl; split <;> rfl
theorem hangN_closed (x d w : Int) (o : Bool) (n : Nd) : (hangN x d w o n).Closed = n.Closed := by unfold hangN; split; rfl; split <;> rfl
theorem hang_rank {N : List Nd} (hs : N.Pairwise (fun a b => a.ID < b.ID)) {x d w : Int} {o : Bool} {r : Int → Nat} (h : Rk N x r) (hx0 : x ≠ 0) (hz : ∀ n ∈ N, n.ID ≠ 0) (hd : d ≠ 0 → ¬ Anc N x d) : ∃ r' : Int → Nat, ∀ m ∈ N.map (hangN x d w o), m.Parent ≠ 0 → r' m.Parent < r' m.ID := by
  classical
  refine ⟨fun z => if Anc N x z then r z + (r x + r d + 1) else if Blw N x d z then r z + 2 * (r x + r d + 1) else r z, fun m hm hp => ?_⟩
  obtain ⟨n, hn, rfl⟩ := List.mem_map.1 hm
  rw [hangN_id]
  have hxa : Anc N x x := .here
  have hnb : d ≠ 0 → ¬ Blw N x d d := fun h0 hb => by have := blw_rank h h0 hb; omega
  by_cases hx : n.ID = x
  · -- the node itself
    have e : (hangN x d w o n).Parent = d := by unfold hangN; rw [if_pos hx]
    rw [e] at hp ⊢
    rw [hx]
    simp only [if_neg (hd hp), if_neg (hnb hp), if_pos hxa]
    omega
  · by_cases ho : o = true ∧ n.Parent = d
    · have e : (hangN x d w o n).Parent = x := by unfold hangN; rw [if_neg hx, if_pos ho]
      rw [e]
      have hb : Blw N x d n.ID := .child n hn hx ho.2
      have hna : ¬ Anc N x n.ID := fun ha => by
        have h1 := anc_par hs hn hx ha
        rw [ho.2] at h1
        by_cases h0 : d = 0
        · rw [h0] at h1
          rcases anc_node h1 with e | ⟨q, hq, e⟩
          · exact hx0 e.symm
          · exact hz q hq e
        · exact hd h0 h1
      simp only [if_pos hxa, if_neg hna, if_pos hb]
      omega
    · have e : hangN x d w o n = n := by unfold hangN; rw [if_neg hx, if_neg ho]
      rw [e] at hp ⊢
      have hr := h n hn hx hp
      by_cases ha : Anc N x n.ID
      · have h1 := anc_par hs hn hx ha
        simp only [if_pos ha, if_pos h1]
        omega
      · have h1 : ¬ Anc N x n.Parent := fun h1 => ha (.up n hn hx hp h1)
        by_cases hb : Blw N x d n.ID
        · rcases blw_par hs hn hb with h2 | h2
          · have hd0 : d ≠ 0 := by rw [← h2]; exact hp
            have h3 : ¬ Blw N x d n.Parent := by rw [h2]; exact hnb hd0
            simp only [if_neg ha, if_neg h1, if_pos hb, if_neg h3]
            omega
          · simp only [if_neg ha, if_neg h1, if_pos hb, if_pos h2]
            omega
        · have h2 : ¬ Blw N x d n.Parent := fun h2 => hb (.up n hn hx hp h2)
          simp only [if_neg ha, if_neg h1, if_neg hb, if_neg h2]
          omega
/-- What a path tells: who depends on whom. -/
theorem path_anc {N : List Nd} (hs : N.Pairwise (fun a b => a.ID < b.ID)) {x : Int} : ∀ (k : Nat) (z : Int), z ≠ x → x ∈ pathS N k z → x ≠ 0 → Anc N x z
  | 0, _, _, hx, _ => (List.not_mem_nil hx).elim
  | k + 1, z, hzx, hx, h0 => by
    unfold pathS at hx
    cases hp : parOf N z with
    | none => rw [hp] at hx; exact (List.not_mem_nil hx).elim
    | some p =>
      rw [hp] at hx
      obtain ⟨n, hn, e1, e2⟩ := par_mem hp
      by_cases hq : p = 0
      · simp only [hq, if_true] at hx; exact (List.not_mem_nil hx).elim
      · simp only [if_neg hq] at hx
        subst e1 e2
        by_cases hpx : n.Parent = x
        · exact .up n hn hzx hq (by rw [hpx]; exact .here)
        · rcases List.mem_cons.1 hx with e | hx
          · exact absurd e.symm hpx
          · exact .up n hn hzx hq (path_anc hs k n.Parent hpx hx h0)
theorem path_more {N : List Nd} : ∀ (k : Nat) (z x : Int), x ∈ pathS N k z → x ∈ pathS N (k + 1) z
  | 0, _, _, hx => (List.not_mem_nil hx).elim
  | k + 1, z, x, hx => by
    unfold pathS at hx ⊢
    cases hp : parOf N z with
    | none => rw [hp] at hx; exact (List.not_mem_nil hx).elim
    | some p =>
      rw [hp] at hx
      by_cases hq : p = 0
      · simp only [hq, if_true] at hx; exact (List.not_mem_nil hx).elim
      · simp only [if_neg hq] at hx ⊢
        rcases List.mem_cons.1 hx with e | hx
        · rw [e]; exact List.mem_cons_self
        · exact List.mem_cons_of_mem _ (path_more k p x hx)
theorem path_stop {N : List Nd} : ∀ (k : Nat) (z : Int), (pathS N k z).length < k → pathS N (k + 1) z = pathS N k z
  | 0, _, h => absurd h (by omega)
  | k + 1, z, h => by
    rw [pathS] at h
    rw [pathS, pathS]
    cases hp : parOf N z with
    | none => rfl
    | some p =>
      rw [hp] at h
      by_cases hq : p = 0
      · simp only [hq, if_true]
      · simp only [if_neg hq, List.length_cons] at h ⊢
        rw [path_stop k p (by omega)]
theorem anc_path {N : List Nd} (hs : N.Pairwise (fun a b => a.ID < b.ID)) {x z : Int} (h : Anc N x z) : z = x ∨ ∃ k, x ∈ pathS N k z := by
  induction h with
  | here => exact .inl rfl
  | up n hn hx hp _ ih =>
    right
    rcases ih with e | ⟨k, hk⟩
    · refine ⟨1, ?_⟩
      rw [pathS, par_of hs hn]
      simp only [if_neg hp]
      rw [e]; exact List.mem_cons_self
    · refine ⟨k + 1, ?_⟩
      rw [pathS, par_of hs hn]
      simp only [if_neg hp]
      exact List.mem_cons_of_mem _ hk
/-- A path without a place twice is shorter than all there are. -/
theorem path_short {N : List Nd} (hs : N.Pairwise (fun a b => a.ID < b.ID)) {r : Int → Nat} (hr : ∀ n ∈ N, n.Parent ≠ 0 → r n.Parent < r n.ID) (hpa : ∀ n ∈ N, n.Parent = 0 ∨ ∃ m ∈ N, m.ID = n.Parent) : ∀ (k : Nat) (z : Int), (∃ n ∈ N, n.ID = z) → (z :: pathS N k z).Nodup ∧ ∀ y ∈ z :: pathS N k z, y ∈ N.map (·.ID)
  | 0, z, ⟨n, hn, e⟩ => ⟨by simp [pathS], fun y hy => by
    rcases List.mem_cons.1 hy with rfl | hy
    · exact List.mem_map.2 ⟨n, hn, e⟩
    · exact (List.not_mem_nil hy).elim⟩
  | k + 1, z, ⟨n, hn, e⟩ => by
    subst e
    have hz : n.ID ∈ N.map (·.ID) := List.mem_map.2 ⟨n, hn, rfl⟩
    have hnot : ¬ n.ID ∈ pathS N (k + 1) n.ID := fun hm => by have := path_rank hr (k + 1) _ _ hm; omega
    refine ⟨List.nodup_cons.2 ⟨hnot, ?_⟩, fun y hy => ?_⟩
    · rw [pathS, par_of hs hn]
      by_cases hq : n.Parent = 0
      · simp only [if_pos hq]; exact List.nodup_nil
      · simp only [if_neg hq]
        rcases hpa n hn with e | ⟨m, hm, e⟩
        · exact absurd e hq
        · exact (path_short hs hr hpa k n.Parent ⟨m, hm, e⟩).1
    · rcases List.mem_cons.1 hy with rfl | hy
      · exact hz
      · rw [pathS, par_of hs hn] at hy
        by_cases hq : n.Parent = 0
        · simp only [if_pos hq] at hy; exact (List.not_mem_nil hy).elim
        · simp only [if_neg hq] at hy
          rcases hpa n hn with e | ⟨m, hm, e⟩
          · exact absurd e hq
          · exact (path_short hs hr hpa k n.Parent ⟨m, hm, e⟩).2 y hy
theorem path_full {N : List Nd} (hs : N.Pairwise (fun a b => a.ID < b.ID)) {r : Int → Nat} (hr : ∀ n ∈ N, n.Parent ≠ 0 → r n.Parent < r n.ID) (hpa : ∀ n ∈ N, n.Parent = 0 ∨ ∃ m ∈ N, m.ID = n.Parent) {z : Int} (hz : ∃ n ∈ N, n.ID = z) : ∀ (j : Nat), pathS N (N.length + j) z = pathS N N.length z
  | 0 => rfl
  | j + 1 => by
    have h1 := path_full hs hr hpa hz j
    obtain ⟨h2, h3⟩ := path_short hs hr hpa N.length z hz
    have h4 := nodup_le h2 h3
    rw [List.length_cons, List.length_map] at h4
    have := path_stop (N := N) (N.length + j) z (by rw [h1]; omega)
    rw [show N.length + (j + 1) = N.length + j + 1 by omega, this, h1]
theorem path_mono {N : List Nd} (k : Nat) (z x : Int) (h : x ∈ pathS N k z) : ∀ j, x ∈ pathS N (k + j) z
  | 0 => h
  | j + 1 => path_more _ _ _ (path_mono k z x h j)
/-- 'x' is not told by a path: it is not above. -/
theorem not_anc {N : List Nd} (hs : N.Pairwise (fun a b => a.ID < b.ID)) {r : Int → Nat} (hr : ∀ n ∈ N, n.Parent ≠ 0 → r n.Parent < r n.ID) (hpa : ∀ n ∈ N, n.Parent = 0 ∨ ∃ m ∈ N, m.ID = n.Parent) {x z : Int} (hz : ∃ n ∈ N, n.ID = z) (hzx : z ≠ x) (h : ¬ x ∈ pathS N N.length z) : ¬ Anc N x z := fun ha => by
  rcases anc_path hs ha with e | ⟨k, hk⟩
  · exact hzx e
  · have h1 := path_mono k z x hk N.length
    rw [show k + N.length = N.length + k by omega, path_full hs hr hpa hz k] at h1
    exact h h1
end Go.Fn
set_option linter.unusedSimpArgs false
set_option linter.unusedVariables false
open Go Go.IL
namespace Go.Fn
/-! Fold: hang. -/
theorem path_Lb {a0 a1 : Int} {N : List Nd} {E : List Int} (h : Ok34 N) : ∀ (k f i : Nat) (id : Int) (acc : List Int), I64 id → i + k = N.length → k < f → acc.length = i → fold_State_path_h_v2_L0 a0 a1 N E f id acc (i : Int) = some (acc ++ pathS N k id)
  | k, 0, _, _, _, _, _, hf, _ => absurd hf (by omega)
  | 0, f + 1, i, id, acc, h64, hi, hf, ha => by
    rw [fold_State_path_h_v2_L0, bndD, decide_eq_false (by omega), bif_ff]
    unfold pathS; rw [List.append_nil]
  | k + 1, f + 1, i, id, acc, h64, hi, hf, ha => by
    have hln := h.ln
    obtain ⟨r, h1, h2⟩ := find34 (st := ⟨a0, a1, N, E⟩) h h64
    have h2 : Fd N id r := h2
    rw [fold_State_path_h_v2_L0, bndD, decide_eq_true (by omega), bif_tt, h1, bnoS]
    unfold pathS
    cases h2 with
    | yes A y C hN he hA hC =>
      have hg : gix N (A.length : Int) = some y := gix_at hN
      have hg2 : N[((A.length : Nat) : Int).toNat]? = some y := get_app hN
      have hy : y ∈ N := by rw [hN]; simp
      rw [par_yes hN he hA]
      simp only [Bool.not_true, beq_self_eq_true, gdtt, hg, hg2, bnoS, bndD, Bool.false_or]
      by_cases hp : y.Parent = 0
      · rw [decide_eq_true hp, bif_tt]
        simp only [hp, if_true, List.append_nil]
      · rw [decide_eq_false hp, bif_ff]
        simp only [if_neg hp]
        rw [app_ok (by simp; omega) (by simp; omega), bnoS, w64 (by omega) (by omega)]
        have := path_Lb (a0 := a0) (a1 := a1) (E := E) h k f (i + 1) y.Parent (acc ++ [y.Parent]) (h.pa y hy) (by omega) (by omega) (by rw [List.length_append, List.length_singleton]; omega)
        rw [show ((i : Int) + 1) = ((i + 1 : Nat) : Int) by omega, this, List.append_assoc]
        rfl
    | no p hp hn _ =>
      rw [par_no hn]
      simp only [Bool.not_false, tf, gdff, bnoS, bndD, Bool.true_or, bif_tt, List.append_nil]
theorem path34b {a0 a1 : Int} {N : List Nd} {E : List Int} (h : Ok34 N) {id : Int} (h64 : I64 id) : fold_State_path_h_v2 a0 a1 id N E = some (pathS N N.length id) := by
  have hln := h.ln
  have := path_Lb (a0 := a0) (a1 := a1) (E := E) h N.length fuel 0 id [] h64 (by omega) (fuel_gt (by omega)) rfl
  rw [List.nil_append] at this
  exact this
def onlyN (x d : Int) (o : Bool) (n : Nd) : Nd := if (o && decide (n.Parent = d) && !decide (n.ID = x)) = true then ⟨n.ID, x, n.Weight, n.Closed⟩ else n
theorem apart34 {A C : List Nd} {y : Nd} (hs : (A ++ y :: C).Pairwise (fun a b => a.ID < b.ID)) : (∀ a ∈ A, a.ID ≠ y.ID) ∧ ∀ c ∈ C, c.ID ≠ y.ID := by
  have hp := List.pairwise_append.1 hs
  have hp2 := List.pairwise_cons.1 hp.2.1
  exact ⟨fun a ha => by have := hp.2.2 a ha y (by simp); omega, fun c hc => by have := hp2.1 c hc; omega⟩
theorem only_hang {x d w : Int} {o : Bool} {l : List Nd} (h : ∀ n ∈ l, n.ID ≠ x) : l.map (onlyN x d o) = l.map (hangN x d w o) := by
  apply List.map_congr_left
  intro n hn
  have := h n hn
  unfold onlyN hangN
  rw [if_neg this, decide_eq_false this]
  cases o <;> simp
theorem hang_L {a0 a1 : Int} {op : Fo} {E : List Int} {v6 v7 : Int} {v8 : Bool} {M A C : List Nd} {y : Nd} (hM : M = A ++ y :: C) (hs : M.Pairwise (fun a b => a.ID < b.ID)) (hl : M.length ≤ 1000) (hy : y.ID = op.ID) : ∀ (r p : List Nd) (f : Nat), M = p ++ r → r.length < f →
    fold_State_hang_h_L2 a0 a1 op E v6 v7 v8 ((A.length : Int), true) M f (p.length : Int) (p.map (onlyN op.ID v6 v8) ++ r) = some (a0, a1, M.map (hangN op.ID v6 v7 v8), E)
  | [], p, f + 1, hp, _ => by
    rw [List.append_nil] at hp
    subst hp
    have hs2 := hs
    rw [hM] at hs2
    obtain ⟨hA, hC⟩ := apart34 hs2
    rw [hy] at hA hC
    have e1 : M.map (onlyN op.ID v6 v8) ++ [] = A.map (hangN op.ID v6 v7 v8) ++ y :: C.map (hangN op.ID v6 v7 v8) := by
      rw [List.append_nil, hM, List.map_append, List.map_cons, only_hang (w := v7) hA, only_hang (w := v7) hC]
      congr 2
      unfold onlyN
      rw [hy]; simp
    have e2 : M.map (hangN op.ID v6 v7 v8) = A.map (hangN op.ID v6 v7 v8) ++ (⟨y.ID, v6, v7, y.Closed⟩ : Nd) :: C.map (hangN op.ID v6 v7 v8) := by
      rw [hM, List.map_append, List.map_cons]
      congr 2
      unfold hangN
      rw [if_pos hy]
    have hlen : (A.map (hangN op.ID v6 v7 v8)).length = A.length := List.length_map ..
    rw [fold_State_hang_h_L2]
    simp only [bndD, lt_len, bif_ff]
    rw [e1, e2]
    generalize A.map (hangN op.ID v6 v7 v8) = P at *
    generalize C.map (hangN op.ID v6 v7 v8) = Q at *
    have hg : ∀ z : Nd, gix (P ++ z :: Q) (A.length : Int) = some z := fun z => by rw [← hlen]; exact gix_at rfl
    have hg2 : ∀ z : Nd, (P ++ z :: Q)[((A.length : Nat) : Int).toNat]? = some z := fun z => by rw [← hlen]; exact get_app rfl
    have hset : ∀ z w : Nd, (P ++ z :: Q).set ((A.length : Nat) : Int).toNat w = P ++ w :: Q := fun z w => by rw [← hlen]; exact set_app
    simp only [hg, hg2, hset, bnoS]
  | n :: r, p, f + 1, hp, hf => by
    have hrec := hang_L (a0 := a0) (a1 := a1) (op := op) (E := E) (v6 := v6) (v7 := v7) (v8 := v8) hM hs hl hy r (p ++ [n]) f (next_at hp) (by simpa using hf)
    have hlen : (p.map (onlyN op.ID v6 v8)).length = p.length := List.length_map ..
    rw [List.map_append, List.append_assoc] at hrec
    have eo : [n].map (onlyN op.ID v6 v8) ++ r = onlyN op.ID v6 v8 n :: r := rfl
    rw [eo] at hrec
    generalize p.map (onlyN op.ID v6 v8) = P at *
    have hg : gix (P ++ n :: r) (p.length : Int) = some n := by rw [← hlen]; exact gix_at rfl
    have hg2 : (P ++ n :: r)[((p.length : Nat) : Int).toNat]? = some n := by rw [← hlen]; exact get_app rfl
    have hset : ∀ w : Nd, (P ++ n :: r).set ((p.length : Nat) : Int).toNat w = P ++ w :: r := fun w => by rw [← hlen]; exact set_app
    rw [fold_State_hang_h_L2]
    simp only [bndD, lt_at hp, bif_tt, hg, hg2, bnoS, w_at hp (show M.length ≤ 1000000 by omega)]
    cases h8 : v8
    · have e : onlyN op.ID v6 v8 n = n := by unfold onlyN; rw [h8]; simp
      rw [e, h8] at hrec
      simp only [ft, gdff, bnoS, Bool.false_and, bif_ff]
      exact hrec
    · simp only [beq_self_eq_true, gdtt, bnoS, Bool.true_and]
      by_cases hq : n.Parent = v6
      · simp only [decide_eq_true hq, beq_self_eq_true, gdtt, bnoS, Bool.true_and]
        by_cases hx : n.ID = op.ID
        · have e : onlyN op.ID v6 v8 n = n := by unfold onlyN; rw [hx]; simp
          rw [e, h8] at hrec
          simp only [decide_eq_true hx, Bool.not_true, bif_ff]
          exact hrec
        · have e : onlyN op.ID v6 v8 n = ⟨n.ID, op.ID, n.Weight, n.Closed⟩ := by unfold onlyN; rw [h8, decide_eq_true hq, decide_eq_false hx]; rfl
          rw [e, h8] at hrec
          simp only [decide_eq_false hx, Bool.not_false, bif_tt, hset]
          exact hrec
      · have e : onlyN op.ID v6 v8 n = n := by unfold onlyN; rw [decide_eq_false hq]; simp
        rw [e, h8] at hrec
        simp only [decide_eq_false hq, ft, gdff, bnoS, Bool.false_and, bif_ff]
        exact hrec
def mvN (d p : Int) (n : Nd) : Nd := if n.ID = d then ⟨n.ID, p, n.Weight, n.Closed⟩ else n
theorem mvN_id (d p : Int) (n : Nd) : (mvN d p n).ID = n.ID := by unfold mvN; split <;> rfl
theorem map_mv {A C : List Nd} {y : Nd} {p : Int} (hs : (A ++ y :: C).Pairwise (fun a b => a.ID < b.ID)) : (A ++ y :: C).map (mvN y.ID p) = A ++ (⟨y.ID, p, y.Weight, y.Closed⟩ : Nd) :: C := by
  obtain ⟨hA, hC⟩ := apart34 hs
  rw [List.map_append, List.map_cons]
  have e1 : A.map (mvN y.ID p) = A := by
    conv => rhs; rw [← List.map_id A]
    exact List.map_congr_left (fun a ha => by unfold mvN; rw [if_neg (hA a ha)]; rfl)
  have e2 : C.map (mvN y.ID p) = C := by
    conv => rhs; rw [← List.map_id C]
    exact List.map_congr_left (fun a ha => by unfold mvN; rw [if_neg (hC a ha)]; rfl)
  rw [e1, e2]
  congr 2
  unfold mvN; rw [if_pos rfl]
theorem anc_child {N : List Nd} {x z : Int} (h : Anc N x z) : z = x ∨ ∃ n ∈ N, n.ID ≠ x ∧ n.Parent = x := by
  induction h with
  | here => exact .inl rfl
  | up n hn hx hp _ ih =>
    right
    rcases ih with e | e
    · exact ⟨n, hn, hx, e⟩
    · exact e
/-- What may hang on another one. -/
structure HP (N : List Nd) (x : Int) (r : Int → Nat) : Prop where
  ok : Ok34 N
  xm : ∃ n ∈ N, n.ID = x
  ra : ∀ n ∈ N, 1 ≤ n.Weight ∧ n.Weight ≤ 256
  pa : ∀ n ∈ N, n.ID ≠ x → n.Parent = 0 ∨ ∃ m ∈ N, m.ID = n.Parent
  rk : Rk N x r
  xs : ((∀ n ∈ N, n.Parent ≠ 0 → r n.Parent < r n.ID) ∧ ∀ n ∈ N, n.Parent = 0 ∨ ∃ m ∈ N, m.ID = n.Parent) ∨ ∀ n ∈ N, n.ID ≠ x → n.Parent ≠ x
structure Hung (N : List Nd) (g : Nd → Nd) : Prop where
  id : ∀ n, (g n).ID = n.ID
  cl : ∀ n, (g n).Closed = n.Closed
  ra : ∀ n ∈ N, 1 ≤ (g n).Weight ∧ (g n).Weight ≤ 256
  pa : ∀ n ∈ N, (g n).Parent = 0 ∨ ∃ m ∈ N, m.ID = (g n).Parent
  rk : ∃ r : Int → Nat, ∀ m ∈ N.map g, m.Parent ≠ 0 → r m.Parent < r m.ID
theorem hung_of {N : List Nd} {x d w : Int} {o : Bool} {r : Int → Nat} (h : HP N x r) (hw : 1 ≤ w ∧ w ≤ 256) (hd : d ≠ 0 → (∃ m ∈ N, m.ID = d) ∧ ¬ Anc N x d) : Hung N (hangN x d w o) := by
  obtain ⟨y, hy, hyx⟩ := h.xm
  have hyr := h.ok.ra y hy
  refine ⟨hangN_id x d w o, hangN_closed x d w o, fun n hn => ?_, fun n hn => ?_, hang_rank h.ok.so h.rk (by omega) (fun n hn => by have := h.ok.ra n hn; omega) (fun h0 => (hd h0).2)⟩
  · have := h.ra n hn
    unfold hangN
    split
    · exact hw
    · split <;> exact this
  · unfold hangN
    split
    · by_cases h0 : d = 0
      · exact .inl h0
      · exact .inr (hd h0).1
    · rename_i hx
      split
      · exact .inr ⟨y, hy, hyx⟩
      · exact h.pa n hn hx
end Go.Fn
set_option linter.unusedSimpArgs false
set_option linter.unusedVariables false
open Go Go.IL
namespace Go.Fn
/-! Fold: hang, whole. -/
theorem find_b {R K : Int} {N : List Nd} {E : List Int} (h : Ok34 N) {id : Int} (h64 : I64 id) : ∃ r, fold_State_find ⟨R, K, N, E⟩ id = some r ∧ Fd N id r := find34 (st := ⟨R, K, N, E⟩) h h64
theorem find_at {R K : Int} {N : List Nd} {E : List Int} (h : Ok34 N) {id : Int} (hx : ∃ n ∈ N, n.ID = id) : ∃ A y C, N = A ++ y :: C ∧ y.ID = id ∧ fold_State_find ⟨R, K, N, E⟩ id = some ((A.length : Int), true) := by
  obtain ⟨n, hn, e⟩ := hx
  have hr := h.ra n hn
  obtain ⟨r, h1, h2⟩ := find_b (R := R) (K := K) (E := E) h (id := id) ⟨by omega, by omega⟩
  cases h2 with
  | yes A y C hN he _ _ => exact ⟨A, y, C, hN, he, h1⟩
  | no p hp hno _ => exact absurd e (hno n hn)
theorem hang_end {R K : Int} {op : Fo} {E : List Int} {v6 v7 : Int} {v8 : Bool} {M A C : List Nd} {y : Nd} (hM : M = A ++ y :: C) (hs : M.Pairwise (fun a b => a.ID < b.ID)) (hl : M.length ≤ 1000) (hy : y.ID = op.ID) : fold_State_hang_h_J1 R K op E v6 v7 v8 ((A.length : Int), true) M = some (R, K, M.map (hangN op.ID v6 v7 v8), E) :=
  hang_L hM hs hl hy M [] fuel rfl (fuel_gt (by omega))
theorem hp_move {N : List Nd} {x : Int} {r : Int → Nat} (h : HP N x r) {y k : Nd} (hy : y ∈ N) (hyx : y.ID = x) (hk : k ∈ N) (hkx : k.ID ≠ x) (ha : Anc N x k.ID) (hfull : (∀ n ∈ N, n.Parent ≠ 0 → r n.Parent < r n.ID) ∧ ∀ n ∈ N, n.Parent = 0 ∨ ∃ m ∈ N, m.ID = n.Parent) : HP (N.map (mvN k.ID y.Parent)) x r ∧ ¬ Anc (N.map (mvN k.ID y.Parent)) x k.ID := by
  obtain ⟨hf1, hf2⟩ := hfull
  have hso : (N.map (mvN k.ID y.Parent)).Pairwise (fun a b => a.ID < b.ID) := by
    rw [List.pairwise_map]
    exact h.ok.so.imp (fun hab => by rw [mvN_id, mvN_id]; exact hab)
  have himg : ∀ m ∈ N.map (mvN k.ID y.Parent), ∃ n ∈ N, m = mvN k.ID y.Parent n := fun m hm => by
    obtain ⟨n, hn, e⟩ := List.mem_map.1 hm
    exact ⟨n, hn, e.symm⟩
  have hin : ∀ p : Int, (p = 0 ∨ ∃ m ∈ N, m.ID = p) → (p = 0 ∨ ∃ m ∈ N.map (mvN k.ID y.Parent), m.ID = p) := fun p hp => hp.imp id (fun ⟨m, hm, e⟩ => ⟨_, List.mem_map.2 ⟨m, hm, rfl⟩, (mvN_id _ _ _).trans e⟩)
  have hxk : r x < r k.ID := by
    rcases anc_rank h.rk ha with e | e
    · exact absurd e hkx
    · exact e
  have hpar : ∀ n ∈ N, (mvN k.ID y.Parent n).Parent ≠ 0 → r (mvN k.ID y.Parent n).Parent < r n.ID := fun n hn hz => by
    unfold mvN at hz ⊢
    split
    · rename_i e
      rw [if_pos e] at hz
      have hz : y.Parent ≠ 0 := hz
      have := hf1 y hy hz
      rw [hyx] at this
      show r y.Parent < r n.ID
      rw [e]; omega
    · rename_i e
      rw [if_neg e] at hz
      exact hf1 n hn hz
  have hpas : ∀ n ∈ N, (mvN k.ID y.Parent n).Parent = 0 ∨ ∃ m ∈ N.map (mvN k.ID y.Parent), m.ID = (mvN k.ID y.Parent n).Parent := fun n hn => by
    apply hin
    unfold mvN
    split
    · exact hf2 y hy
    · exact hf2 n hn
  have hrk : Rk (N.map (mvN k.ID y.Parent)) x r := fun m hm hx hz => by
    obtain ⟨n, hn, rfl⟩ := himg m hm
    rw [mvN_id]
    exact hpar n hn hz
  refine ⟨⟨⟨by rw [List.length_map]; exact h.ok.ln, fun m hm => ?_, hso, fun m hm => ?_⟩, ?_, fun m hm => ?_, fun m hm _ => ?_, hrk, .inl ⟨fun m hm hz => ?_, fun m hm => ?_⟩⟩, fun hb => ?_⟩
  · obtain ⟨n, hn, rfl⟩ := himg m hm
    rw [mvN_id]; exact h.ok.ra n hn
  · obtain ⟨n, hn, rfl⟩ := himg m hm
    unfold mvN
    split
    · exact h.ok.pa y hy
    · exact h.ok.pa n hn
  · exact ⟨_, List.mem_map.2 ⟨y, hy, rfl⟩, (mvN_id _ _ _).trans hyx⟩
  · obtain ⟨n, hn, rfl⟩ := himg m hm
    have := h.ra n hn
    unfold mvN
    split <;> exact this
  · obtain ⟨n, hn, rfl⟩ := himg m hm
    exact hpas n hn
  · obtain ⟨n, hn, rfl⟩ := himg m hm
    rw [mvN_id]
    exact hpar n hn hz
  · obtain ⟨n, hn, rfl⟩ := himg m hm
    exact hpas n hn
  · have hkm : mvN k.ID y.Parent k ∈ N.map (mvN k.ID y.Parent) := List.mem_map.2 ⟨k, hk, rfl⟩
    have e1 : (mvN k.ID y.Parent k).Parent = y.Parent := by unfold mvN; rw [if_pos rfl]
    have h1 := anc_par hso hkm (by rw [mvN_id]; exact hkx) (by rw [mvN_id]; exact hb)
    rw [e1] at h1
    have hyr := h.ok.ra y hy
    by_cases hz : y.Parent = 0
    · rcases anc_node h1 with e | ⟨m, hm, e⟩
      · omega
      · obtain ⟨n, hn, rfl⟩ := himg m hm
        rw [mvN_id] at e
        have := h.ok.ra n hn; omega
    · have h2 := hf1 y hy hz
      rw [hyx] at h2
      rcases anc_rank hrk h1 with e | e
      · rw [e] at h2; omega
      · omega
theorem hang34 {N : List Nd} {E : List Int} {R K : Int} {op : Fo} {r : Int → Nat} (h : HP N op.ID r) (hd : 0 ≤ op.Dep ∧ op.Dep ≤ 1048576) (hne : op.Dep ≠ op.ID) (hw : 1 ≤ op.Weight ∧ op.Weight ≤ 256) :
    ∃ g, fold_State_hang_h R K op N E = some (R, K, N.map g, E) ∧ Hung N g := by
  have hln := h.ok.ln
  obtain ⟨A, y, C, hN, hyx, hfy⟩ := find_at (R := R) (K := K) (E := E) h.ok h.xm
  have hy : y ∈ N := by rw [hN]; simp
  obtain ⟨q, hq1, hq2⟩ := find_b (R := R) (K := K) (E := E) h.ok (id := op.Dep) ⟨by omega, by omega⟩
  unfold fold_State_hang_h
  rw [hq1, bnoS, bndD, bndD]
  cases hq2 with
  | no p hp hno _ =>
    by_cases h0 : op.Dep = 0
    · refine ⟨hangN op.ID op.Dep op.Weight op.Only, ?_, hung_of h hw (fun hh => absurd h0 hh)⟩
      have e : ((!false) && !decide (op.Dep = 0)) = false := by rw [decide_eq_true h0]; rfl
      show (bif ((!false) && !decide (op.Dep = 0)) then _ else _) = _
      rw [e, bif_ff]
      unfold fold_State_hang_h_J0
      rw [hfy, bnoS]
      show (bif false then _ else _) = _
      rw [bif_ff, bndD]
      exact hang_end hN h.ok.so hln hyx
    · refine ⟨hangN op.ID 0 16 false, ?_, hung_of h (by decide) (fun hh => absurd rfl hh)⟩
      have e : ((!false) && !decide (op.Dep = 0)) = true := by rw [decide_eq_false h0]; rfl
      show (bif ((!false) && !decide (op.Dep = 0)) then _ else _) = _
      rw [e, bif_tt]
      unfold fold_State_hang_h_J0
      rw [hfy, bnoS]
      show (bif false then _ else _) = _
      rw [bif_ff, bndD]
      exact hang_end hN h.ok.so hln hyx
  | yes B k D hB hk _ _ =>
    have hkm : k ∈ N := by rw [hB]; simp
    have hkr := h.ok.ra k hkm
    have hkx : k.ID ≠ op.ID := by rw [hk]; exact hne
    have hpl := path_len N N.length op.Dep
    have hmem := cint (l := pathS N N.length op.Dep) (x := op.ID) (by omega)
    have hp34 := path34b (a0 := R) (a1 := K) (E := E) h.ok (id := op.Dep) ⟨by omega, by omega⟩
    have e0 : ((!true) && !decide (op.Dep = 0)) = false := rfl
    by_cases hin : op.ID ∈ pathS N N.length op.Dep
    · -- the other one is below: it goes up first
      rw [decide_eq_true hin] at hmem
      have hanc : Anc N op.ID k.ID := by rw [hk]; exact path_anc h.ok.so _ _ hne hin (by have := h.ok.ra y hy; omega)
      have hfull := h.xs.resolve_right (fun hno => by
        rcases anc_child hanc with e | ⟨n, hn, e1, e2⟩
        · exact hkx e
        · exact hno n hn e1 e2)
      obtain ⟨h1, h2⟩ := hp_move h hy hyx hkm hkx hanc hfull
      have hu := hung_of (d := op.Dep) (w := op.Weight) (o := op.Only) h1 hw (fun _ => ⟨⟨_, List.mem_map.2 ⟨k, hkm, rfl⟩, (mvN_id _ _ _).trans hk⟩, by rw [← hk]; exact h2⟩)
      have hso := h.ok.so
      rw [hB] at hso
      have hset : N.set ((B.length : Nat) : Int).toNat (⟨k.ID, y.Parent, k.Weight, k.Closed⟩ : Nd) = N.map (mvN k.ID y.Parent) := by
        conv => lhs; rw [hB]
        rw [set_app, ← map_mv hso, ← hB]
      have hN1 : N.map (mvN k.ID y.Parent) = A.map (mvN k.ID y.Parent) ++ mvN k.ID y.Parent y :: C.map (mvN k.ID y.Parent) := by
        conv => lhs; rw [hN]
        rw [List.map_append, List.map_cons]
      have hend := hang_end (R := R) (K := K) (op := op) (E := E) (v6 := op.Dep) (v7 := op.Weight) (v8 := op.Only) hN1 h1.ok.so h1.ok.ln ((mvN_id _ _ _).trans hyx)
      rw [List.length_map, List.map_map] at hend
      refine ⟨hangN op.ID op.Dep op.Weight op.Only ∘ mvN k.ID y.Parent, ?_, ⟨fun n => (hu.id _).trans (mvN_id _ _ _), fun n => (hu.cl _).trans ?_, fun n hn => hu.ra _ (List.mem_map.2 ⟨n, hn, rfl⟩), fun n hn => ?_, ?_⟩⟩
      · show (bif ((!true) && !decide (op.Dep = 0)) then _ else _) = _
        rw [e0, bif_ff]
        unfold fold_State_hang_h_J0
        rw [hfy, bnoS]
        show (bif true then _ else _) = _
        rw [bif_tt, hp34, bnoS, hmem, bnoS, bndD]
        show (bif true then _ else _) = _
        rw [bif_tt, gix_at hN, bnoS, get_app hN, bnoS, gix_at hB, bnoS]
        show bno (N[((B.length : Nat) : Int).toNat]?) _ = _
        rw [get_app hB, bnoS, bndD]
        show fold_State_hang_h_J1 R K op E op.Dep op.Weight op.Only ((A.length : Int), true) (N.set ((B.length : Nat) : Int).toNat (⟨k.ID, y.Parent, k.Weight, k.Closed⟩ : Nd)) = _
        rw [hset]
        exact hend
      · unfold mvN; split <;> rfl
      · rcases hu.pa _ (List.mem_map.2 ⟨n, hn, rfl⟩) with e | ⟨m, hm, e⟩
        · exact .inl e
        · obtain ⟨z, hz, ez⟩ := List.mem_map.1 hm
          have e2 : z.ID = m.ID := by rw [← ez, mvN_id]
          exact .inr ⟨z, hz, e2.trans e⟩
      · obtain ⟨r', hr'⟩ := hu.rk
        rw [List.map_map] at hr'
        exact ⟨r', hr'⟩
    · rw [decide_eq_false hin] at hmem
      have hna : ¬ Anc N op.ID op.Dep := by
        rcases h.xs with ⟨f1, f2⟩ | hno
        · exact not_anc h.ok.so f1 f2 ⟨k, hkm, hk⟩ hne hin
        · intro ha
          rcases anc_child ha with e | ⟨n, hn, e1, e2⟩
          · exact hne e
          · exact hno n hn e1 e2
      refine ⟨hangN op.ID op.Dep op.Weight op.Only, ?_, hung_of h hw (fun _ => ⟨⟨k, hkm, hk⟩, hna⟩)⟩
      show (bif ((!true) && !decide (op.Dep = 0)) then _ else _) = _
      rw [e0, bif_ff]
      unfold fold_State_hang_h_J0
      rw [hfy, bnoS]
      show (bif true then _ else _) = _
      rw [bif_tt, hp34, bnoS, hmem, bnoS, bndD]
      show (bif false then _ else _) = _
      rw [bif_ff]
      exact hang_end hN h.ok.so hln hyx
end Go.Fn
set_option linter.unusedSimpArgs false
set_option linter.unusedVariables false
open Go Go.IL
namespace Go.Fn
/-! Fold: what is done leaves a state that may be. -/
theorem nclone {l : List Nd} (hl : l.length ≤ 100000) : slices_Clone_ptree_Node_ptree_Node_h l = some l := by
  unfold slices_Clone_ptree_Node_ptree_Node_h
  have h : (bno (app 32 ([] : (List Nd)) l) fun x3 => some x3) = some l := by
    rw [app_ok (by simp; omega) (by simp; omega), bnoS, List.nil_append]
  rw [h, bothE_same]
  rintro rfl; rfl
theorem eclone {l : List Int} (hl : l.length ≤ 100000) : slices_Clone_int_int_h l = some l := by
  unfold slices_Clone_int_int_h
  have h : (bno (app 8 ([] : (List Int)) l) fun x3 => some x3) = some l := by
    rw [app_ok (by simp; omega) (by simp; omega), bnoS, List.nil_append]
  rw [h, bothE_same]
  rintro rfl; rfl
/-- What a state keeps when its nodes change in their places. -/
structure BS (K : Int) (N : List Nd) (E : List Int) : Prop where
  kp : 0 ≤ K ∧ K ≤ 24
  ln : N.length ≤ 24
  el : (E.length : Int) ≤ K
  so : N.Pairwise (fun a b => a.ID < b.ID)
  ra : ∀ n ∈ N, 1 ≤ n.ID ∧ n.ID ≤ 1048576
  en : ∀ n ∈ N, (n.Closed = true ↔ n.ID ∈ E)
  nd : E.Nodup
  es : ∀ e ∈ E, ∃ n ∈ N, n.ID = e
theorem FV.bs {K : Int} {st : Fs} (h : FV K st) : BS K st.Nodes st.Ended := ⟨h.kp.2, h.ln, h.el, h.so, fun n hn => (h.ra n hn).1, h.en, h.nd, h.es⟩
theorem fv_hung {K : Int} {N : List Nd} {E : List Int} {g : Nd → Nd} (b : BS K N E) (h : Hung N g) : FV K ⟨24, K, N.map g, E⟩ := by
  have himg : ∀ m ∈ N.map g, ∃ n ∈ N, m = g n := fun m hm => by
    obtain ⟨n, hn, e⟩ := List.mem_map.1 hm
    exact ⟨n, hn, e.symm⟩
  have hin : ∀ p : Int, (∃ m ∈ N, m.ID = p) → ∃ m ∈ N.map g, m.ID = p := fun p ⟨m, hm, e⟩ => ⟨_, List.mem_map.2 ⟨m, hm, rfl⟩, (h.id m).trans e⟩
  refine ⟨rfl, ⟨rfl, b.kp⟩, by show (N.map g).length ≤ 24; rw [List.length_map]; exact b.ln, b.el, ?_, fun m hm => ?_, fun m hm => ?_, h.rk, fun m hm => ?_, b.nd, fun e he => hin e (b.es e he)⟩
  · show (N.map g).Pairwise _
    rw [List.pairwise_map]
    exact b.so.imp (fun hab => by rw [h.id, h.id]; exact hab)
  · obtain ⟨n, hn, rfl⟩ := himg m hm
    rw [h.id]
    exact ⟨b.ra n hn, h.ra n hn⟩
  · obtain ⟨n, hn, rfl⟩ := himg m hm
    exact (h.pa n hn).imp id (hin _)
  · obtain ⟨n, hn, rfl⟩ := himg m hm
    rw [h.id, h.cl]
    exact b.en n hn
theorem hp_of {K : Int} {st : Fs} (h : FV K st) {x : Int} (hx : ∃ n ∈ st.Nodes, n.ID = x) : ∃ r, HP st.Nodes x r := by
  obtain ⟨r, hr⟩ := h.rk
  exact ⟨r, h.ok, hx, fun n hn => (h.ra n hn).2, fun n hn _ => h.pa n hn, fun n hn _ hz => hr n hn hz, .inl ⟨hr, h.pa⟩⟩
/-- What may be planted. -/
def may34 (op : Fo) : Prop := (1 ≤ op.ID ∧ op.ID ≤ 1048576) ∧ (1 ≤ op.Weight ∧ op.Weight ≤ 256) ∧ (0 ≤ op.Dep ∧ op.Dep ≤ 1048576) ∧ op.Dep ≠ op.ID
theorem wrong34 (n : Nd) : fold_wrong n = some (decide (n.ID < 1) || decide (1048576 < n.ID) || decide (n.Weight < 1) || decide (256 < n.Weight)) := rfl
theorem plant_new {K : Int} {st : Fs} {op : Fo} (h : FV K st) (hm : may34 op) (hno : ∀ n ∈ st.Nodes, n.ID ≠ op.ID) (hlt : st.Nodes.length < 24) : ∃ st' : Fs, fold_State_plant_h_J1 op st.Room st.Keep st.Nodes st.Ended = some (st'.Room, st'.Keep, st'.Nodes, st'.Ended, 0) ∧ FV K st' := by
  obtain ⟨hid, hw, hd, hne⟩ := hm
  obtain ⟨q, hq1, hq2⟩ := find_b (R := st.Room) (K := st.Keep) (E := st.Ended) h.ok (id := op.ID) ⟨by omega, by omega⟩
  cases hq2 with
  | yes A y C hN he _ _ => exact absurd he (hno y (by rw [hN]; simp))
  | no p hp _ hsp =>
    obtain ⟨h1, h2⟩ := hsp (by omega) (by omega)
    obtain ⟨r, hr⟩ := h.rk
    have hN : st.Nodes.take p ++ st.Nodes.drop p = st.Nodes := List.take_append_drop p st.Nodes
    have hins : slices_Insert_ptree_Node_ptree_Node_h (p : Int) ([(⟨op.ID, op.ID, 16, false⟩ : Nd)]) st.Nodes = some (st.Nodes.take p ++ [(⟨op.ID, op.ID, 16, false⟩ : Nd)] ++ st.Nodes.drop p) := by
      unfold slices_Insert_ptree_Node_ptree_Node_h
      rw [insS_ok (by omega) (by omega) (by simp; omega) (by simp; omega), Int.toNat_natCast]
    generalize hA : st.Nodes.take p = A at *
    generalize hC : st.Nodes.drop p = C at *
    have hmem : ∀ n, n ∈ A ++ [(⟨op.ID, op.ID, 16, false⟩ : Nd)] ++ C ↔ n = ⟨op.ID, op.ID, 16, false⟩ ∨ n ∈ st.Nodes := fun n => by
      rw [← hN]; simp only [List.mem_append, List.mem_singleton]
      constructor
      · rintro ((a | a) | a)
        · exact .inr (.inl a)
        · exact .inl a
        · exact .inr (.inr a)
      · rintro (a | a | a)
        · exact .inl (.inr a)
        · exact .inl (.inl a)
        · exact .inr a
    have hso := h.so
    rw [← hN] at hso
    have hpw := List.pairwise_append.1 hso
    have hlen : A.length + C.length = st.Nodes.length := by rw [← hN, List.length_append]
    have hbs : BS K (A ++ [(⟨op.ID, op.ID, 16, false⟩ : Nd)] ++ C) st.Ended := by
      refine ⟨h.kp.2, by rw [List.length_append, List.length_append, List.length_singleton]; omega, h.el, ?_, fun n hn => ?_, fun n hn => ?_, h.nd, fun e he => ?_⟩
      · refine List.pairwise_append.2 ⟨List.pairwise_append.2 ⟨hpw.1, List.pairwise_singleton _ _, fun a ha b hb => by rw [List.mem_singleton.1 hb]; exact h1 a ha⟩, hpw.2.1, fun a ha b hb => ?_⟩
        rcases List.mem_append.1 ha with ha | ha
        · exact hpw.2.2 a ha b hb
        · rw [List.mem_singleton.1 ha]; exact h2 b hb
      · rcases (hmem n).1 hn with e | hn
        · rw [e]; exact hid
        · exact (h.ra n hn).1
      · rcases (hmem n).1 hn with e | hn
        · rw [e]
          refine ⟨fun hc => (by cases hc), fun hc => ?_⟩
          obtain ⟨m, hm, e2⟩ := h.es _ hc
          exact absurd e2 (hno m hm)
        · exact h.en n hn
      · obtain ⟨n, hn, e2⟩ := h.es e he
        exact ⟨n, (hmem n).2 (.inr hn), e2⟩
    have hhp : HP (A ++ [(⟨op.ID, op.ID, 16, false⟩ : Nd)] ++ C) op.ID r := by
      refine ⟨⟨by have := hbs.ln; omega, hbs.ra, hbs.so, fun n hn => ?_⟩, ⟨_, (hmem _).2 (.inl rfl), rfl⟩, fun n hn => ?_, fun n hn hx => ?_, fun n hn hx hz => ?_, .inr fun n hn hx hp => ?_⟩
      · rcases (hmem n).1 hn with e | hn
        · rw [e]; exact ⟨by show -9223372036854775808 ≤ op.ID; omega, by show op.ID ≤ _; omega⟩
        · exact h.ok.pa n hn
      · rcases (hmem n).1 hn with e | hn
        · rw [e]; exact ⟨by show (1 : Int) ≤ 16; decide, by show (16 : Int) ≤ 256; decide⟩
        · exact (h.ra n hn).2
      · rcases (hmem n).1 hn with e | hn
        · rw [e] at hx; exact absurd rfl hx
        · rcases h.pa n hn with e | ⟨m, hm, e⟩
          · exact .inl e
          · exact .inr ⟨m, (hmem m).2 (.inr hm), e⟩
      · rcases (hmem n).1 hn with e | hn
        · rw [e] at hx; exact absurd rfl hx
        · exact hr n hn hz
      · rcases (hmem n).1 hn with e | hn
        · rw [e] at hx; exact absurd rfl hx
        · rcases h.pa n hn with e | ⟨m, hm, e⟩
          · omega
          · exact hno m hm (e.trans hp)
    obtain ⟨g, hg1, hg2⟩ := hang34 (E := st.Ended) (R := st.Room) (K := st.Keep) hhp hd hne hw
    refine ⟨⟨24, K, _, st.Ended⟩, ?_, fv_hung hbs hg2⟩
    unfold fold_State_plant_h_J1
    rw [hq1, bnoS, hins, bnoS, hg1, bnoS, h.rm, h.kp.1]
theorem plant34 {K : Int} {st : Fs} {op : Fo} (h : FV K st) (h64 : I64 op.ID) : ∃ (st' : Fs) (e : Int), fold_State_plant_h st.Room st.Keep op st.Nodes st.Ended = some (st'.Room, st'.Keep, st'.Nodes, st'.Ended, e) ∧ FV K st' := by
  have hbad : ∀ b, b = true → fold_State_plant_h_J0 st.Room st.Keep op st.Nodes st.Ended b = some (st.Room, st.Keep, st.Nodes, st.Ended, 8) := fun b hb => by rw [hb]; rfl
  unfold fold_State_plant_h
  rw [wrong34, bnoS]
  show ∃ (st' : Fs) (e : Int), (bif (decide (op.ID < 1) || decide (1048576 < op.ID) || decide (op.Weight < 1) || decide (256 < op.Weight)) then _ else _) = _ ∧ _
  cases hb1 : (decide (op.ID < 1) || decide (1048576 < op.ID) || decide (op.Weight < 1) || decide (256 < op.Weight))
  · rw [bif_ff, bndD]
    by_cases h1 : op.Dep < 0
    · rw [decide_eq_true h1, bif_tt]
      exact ⟨st, 8, hbad _ rfl, h⟩
    · rw [decide_eq_false h1, bif_ff, bndD]
      by_cases h2 : 1048576 < op.Dep
      · rw [decide_eq_true h2]
        exact ⟨st, 8, hbad _ rfl, h⟩
      · rw [decide_eq_false h2]
        have hnum : (1 ≤ op.ID ∧ op.ID ≤ 1048576) ∧ (1 ≤ op.Weight ∧ op.Weight ≤ 256) := by
          simp only [Bool.or_eq_false_iff, decide_eq_false_iff_not] at hb1
          omega
        unfold fold_State_plant_h_J0
        rw [bif_ff, bndD]
        by_cases h3 : op.ID = op.Dep
        · rw [decide_eq_true h3, bif_tt]
          exact ⟨st, 4, rfl, h⟩
        · rw [decide_eq_false h3, bif_ff]
          have hm : may34 op := ⟨hnum.1, hnum.2, ⟨by omega, by omega⟩, fun e => h3 e.symm⟩
          obtain ⟨q, hq1, hq2⟩ := find_b (R := st.Room) (K := st.Keep) (E := st.Ended) h.ok (id := op.ID) h64
          rw [hq1, bnoS]
          cases hq2 with
          | yes A y C hN he _ _ =>
            show ∃ (st' : Fs) (e : Int), (bif true then _ else _) = _ ∧ _
            rw [bif_tt, bndD]
            by_cases hk : op.Kind = 0
            · rw [decide_eq_true hk, bif_tt]
              exact ⟨st, 13, rfl, h⟩
            · rw [decide_eq_false hk, bif_ff]
              obtain ⟨r, hp⟩ := hp_of h (x := op.ID) ⟨y, by rw [hN]; simp, he⟩
              obtain ⟨g, hg1, hg2⟩ := hang34 (E := st.Ended) (R := st.Room) (K := st.Keep) hp hm.2.2.1 hm.2.2.2 hm.2.1
              rw [hg1, bnoS]
              exact ⟨⟨24, K, _, st.Ended⟩, 0, by rw [h.rm, h.kp.1], fv_hung h.bs hg2⟩
          | no p hp hno _ =>
            show ∃ (st' : Fs) (e : Int), (bif false then _ else _) = _ ∧ _
            rw [bif_ff, bndD]
            have hrm := h.rm
            by_cases hf : st.Room ≤ (st.Nodes.length : Int)
            · rw [decide_eq_true hf, bif_tt, bndD]
              cases hE : st.Ended with
              | nil =>
                show ∃ (st' : Fs) (e : Int), (bif true then _ else _) = _ ∧ _
                rw [bif_tt]
                exact ⟨st, 7, by rw [hE], h⟩
              | cons x E =>
                have hx : decide (((x :: E).length : Int) = 0) = false := decide_eq_false (by simp only [List.length_cons]; omega)
                rw [hx, bif_ff]
                have hg : gix (x :: E) 0 = some x := rfl
                have hg2 : (x :: E)[((0 : Int)).toNat]? = some x := rfl
                rw [hg, bnoS, hg2, bnoS, ← hE]
                obtain ⟨A, y, C, hN, hyx, hoff⟩ := off34 h (h.es x (by rw [hE]; simp))
                have hfv := fv_off h hN
                rw [hyx] at hfv
                rw [hoff, bnoS]
                have hln := h.ln
                have hl2 : (offS A y C).length < 24 := by
                  unfold offS; rw [List.length_map, List.length_append]
                  rw [hN] at hln; simp at hln; omega
                obtain ⟨st', e1, e2⟩ := plant_new (st := ⟨st.Room, st.Keep, offS A y C, st.Ended.filter fun y => !decide (y = x)⟩) hfv hm (fun n hn => by
                  obtain ⟨m, hm2, e⟩ := List.mem_map.1 hn
                  rw [← e, offN_id]
                  refine hno m ?_
                  rw [hN]
                  rcases List.mem_append.1 hm2 with hm2 | hm2 <;> simp [hm2]) hl2
                exact ⟨st', 0, e1, e2⟩
            · rw [decide_eq_false hf, bif_ff]
              obtain ⟨st', e1, e2⟩ := plant_new h hm hno (by omega)
              exact ⟨st', 0, e1, e2⟩
  · rw [bif_tt]
    exact ⟨st, 8, hbad _ rfl, h⟩
end Go.Fn
set_option linter.unusedSimpArgs false
set_option linter.unusedVariables false
open Go Go.IL
namespace Go.Fn
/-! Fold: shut, Do. -/
def clN (id : Int) (n : Nd) : Nd := if n.ID = id then ⟨n.ID, n.Parent, n.Weight, true⟩ else n
theorem clN_id (id : Int) (n : Nd) : (clN id n).ID = n.ID := by unfold clN; split <;> rfl
theorem clN_par (id : Int) (n : Nd) : (clN id n).Parent = n.Parent := by unfold clN; split <;> rfl
theorem clN_w (id : Int) (n : Nd) : (clN id n).Weight = n.Weight := by unfold clN; split <;> rfl
theorem map_cl {A C : List Nd} {y : Nd} (hs : (A ++ y :: C).Pairwise (fun a b => a.ID < b.ID)) : (A ++ y :: C).map (clN y.ID) = A ++ (⟨y.ID, y.Parent, y.Weight, true⟩ : Nd) :: C := by
  obtain ⟨hA, hC⟩ := apart34 hs
  rw [List.map_append, List.map_cons]
  have e1 : A.map (clN y.ID) = A := by
    conv => rhs; rw [← List.map_id A]
    exact List.map_congr_left (fun a ha => by unfold clN; rw [if_neg (hA a ha)]; rfl)
  have e2 : C.map (clN y.ID) = C := by
    conv => rhs; rw [← List.map_id C]
    exact List.map_congr_left (fun a ha => by unfold clN; rw [if_neg (hC a ha)]; rfl)
  rw [e1, e2]
  congr 2
  unfold clN; rw [if_pos rfl]
theorem fv_shut {st : Fs} (h : FV 24 st) {y : Nd} (hy : y ∈ st.Nodes) (hc : y.Closed = false) : FV 24 ⟨st.Room, st.Keep, st.Nodes.map (clN y.ID), st.Ended ++ [y.ID]⟩ ∧ st.Ended.length + 1 ≤ 24 := by
  obtain ⟨r, hr⟩ := h.rk
  have hln := h.ln
  have hlen : st.Ended.length + 1 ≤ 24 := by
    obtain ⟨A, C, hN⟩ := List.append_of_mem hy
    have h1 : (A.filter (·.Closed)).length + (C.filter (·.Closed)).length = st.Ended.length := by
      have := closed_len h
      rw [hN, List.filter_append, List.filter_cons_of_neg (by rw [hc]; simp), List.length_append] at this
      exact this
    rw [hN] at hln
    have h2 := List.length_filter_le (·.Closed) A
    have h3 := List.length_filter_le (·.Closed) C
    simp only [List.length_append, List.length_cons] at hln
    omega
  have hni : ¬ y.ID ∈ st.Ended := fun hm => by have := (h.en y hy).2 hm; rw [hc] at this; cases this
  have himg : ∀ m ∈ st.Nodes.map (clN y.ID), ∃ n ∈ st.Nodes, m = clN y.ID n := fun m hm => by
    obtain ⟨n, hn, e⟩ := List.mem_map.1 hm
    exact ⟨n, hn, e.symm⟩
  have hin : ∀ p : Int, (∃ m ∈ st.Nodes, m.ID = p) → ∃ m ∈ st.Nodes.map (clN y.ID), m.ID = p := fun p ⟨m, hm, e⟩ => ⟨_, List.mem_map.2 ⟨m, hm, rfl⟩, (clN_id _ _).trans e⟩
  refine ⟨⟨h.rm, h.kp, by show (st.Nodes.map _).length ≤ 24; rw [List.length_map]; exact hln, by show ((st.Ended ++ [y.ID]).length : Int) ≤ 24; rw [List.length_append, List.length_singleton]; omega, ?_, fun m hm => ?_, fun m hm => ?_, ⟨r, fun m hm hz => ?_⟩, fun m hm => ?_, ?_, fun e he => ?_⟩, hlen⟩
  · show (st.Nodes.map _).Pairwise _
    rw [List.pairwise_map]
    exact h.so.imp (fun hab => by rw [clN_id, clN_id]; exact hab)
  · obtain ⟨n, hn, rfl⟩ := himg m hm
    rw [clN_id, clN_w]; exact h.ra n hn
  · obtain ⟨n, hn, rfl⟩ := himg m hm
    rw [clN_par]; exact (h.pa n hn).imp id (hin _)
  · obtain ⟨n, hn, rfl⟩ := himg m hm
    rw [clN_par] at hz ⊢
    rw [clN_id]
    exact hr n hn hz
  · obtain ⟨n, hn, rfl⟩ := himg m hm
    have hen := h.en n hn
    rw [clN_id]
    show _ ↔ n.ID ∈ st.Ended ++ [y.ID]
    rw [List.mem_append, List.mem_singleton]
    unfold clN
    split
    · rename_i e
      exact ⟨fun _ => .inr e, fun _ => rfl⟩
    · rename_i e
      rw [hen]
      exact ⟨.inl, fun hh => hh.resolve_right e⟩
  · show (st.Ended ++ [y.ID]).Nodup
    rw [List.nodup_append]
    exact ⟨h.nd, by simp, fun a ha b hb => by rw [List.mem_singleton.1 hb]; rintro rfl; exact hni ha⟩
  · have he : e ∈ st.Ended ++ [y.ID] := he
    rcases List.mem_append.1 he with he | he
    · exact hin e (h.es e he)
    · exact hin e ⟨y, hy, (List.mem_singleton.1 he).symm⟩
theorem shut_no {st : Fs} (h : FV 24 st) {id : Int} (h64 : I64 id) (hno : ∀ n ∈ st.Nodes, n.ID ≠ id) : fold_State_shut_h st.Room st.Keep id st.Nodes st.Ended = some (st.Room, st.Keep, st.Nodes, st.Ended, 6) := by
  obtain ⟨q, hq1, hq2⟩ := find_b (R := st.Room) (K := st.Keep) (E := st.Ended) h.ok h64
  cases hq2 with
  | yes A y C hN he _ _ => exact absurd he (hno y (by rw [hN]; simp))
  | no p hp _ _ =>
    unfold fold_State_shut_h
    rw [hq1, bnoS]; rfl
theorem shut_yes {st : Fs} (h : FV 24 st) {y : Nd} (hy : y ∈ st.Nodes) : fold_State_shut_h st.Room st.Keep y.ID st.Nodes st.Ended = some (if y.Closed = true then (st.Room, st.Keep, st.Nodes, st.Ended, 9) else (st.Room, st.Keep, st.Nodes.map (clN y.ID), st.Ended ++ [y.ID], 0)) := by
  obtain ⟨A, C, hN, hf⟩ := find_mem h hy
  have hf : fold_State_find ⟨st.Room, st.Keep, st.Nodes, st.Ended⟩ y.ID = some ((A.length : Int), true) := hf
  have hg := gix_at hN
  have hg2 := get_app hN
  unfold fold_State_shut_h
  rw [hf, bnoS]
  show (bif false then _ else _) = _
  rw [bif_ff, hg, bnoS]
  show bno (st.Nodes[((A.length : Nat) : Int).toNat]?) _ = _
  rw [hg2, bnoS]
  cases hc : y.Closed
  · obtain ⟨h1, h2⟩ := fv_shut h hy hc
    have hso := h.so
    rw [hN] at hso
    have hset : st.Nodes.set ((A.length : Nat) : Int).toNat (⟨y.ID, y.Parent, y.Weight, true⟩ : Nd) = st.Nodes.map (clN y.ID) := by
      conv => lhs; rw [hN]
      rw [set_app, ← map_cl hso, ← hN]
    have hkp := h.kp.1
    have hlt : decide (st.Keep < ((st.Ended ++ [y.ID]).length : Int)) = false := decide_eq_false (by rw [List.length_append, List.length_singleton]; omega)
    rw [bif_ff, bnoS, bnoS, bndD]
    show bno (app 8 st.Ended [y.ID]) _ = _
    rw [app_ok (by simp; omega) (by simp; omega), bnoS, bndD, hlt, bif_ff]
    show some (st.Room, st.Keep, st.Nodes.set ((A.length : Nat) : Int).toNat (⟨y.ID, y.Parent, y.Weight, true⟩ : Nd), st.Ended ++ [y.ID], (0 : Int)) = _
    rw [hset]
    rfl
  · rw [bif_tt]; rfl
theorem own34 {st : Fs} (h : FV 24 st) : fold_State_own_h st = some (st.Room, st.Keep, st.Nodes, st.Ended) := by
  have hln := h.ln; have hel := h.el
  unfold fold_State_own_h
  rw [nclone (by omega), bnoS, eclone (by omega), bnoS]
/-- The three kinds of what is done. -/
theorem do_key {st : Fs} (h : FV 24 st) (op : Fo) : fold_Do st op = if op.Kind = 0 ∨ op.Kind = 1 then (bno (fold_State_plant_h st.Room st.Keep op st.Nodes st.Ended) fun x10 => some (⟨x10.1, x10.2.1, x10.2.2.1, x10.2.2.2.1⟩, x10.2.2.2.2)) else if op.Kind = 2 then (bno (fold_State_shut_h st.Room st.Keep op.ID st.Nodes st.Ended) fun x13 => some (⟨x13.1, x13.2.1, x13.2.2.1, x13.2.2.2.1⟩, x13.2.2.2.2))
    else if op.Kind = 3 then (bno (fold_State_find st op.ID) fun x16 => bif (!x16.2) then some (st, 6) else (bno (fold_State_off_h st.Room st.Keep op.ID st.Nodes st.Ended) fun x18 => some (⟨x18.1, x18.2.1, x18.2.2.1, x18.2.2.2⟩, 0))) else some (st, 12) := by
  unfold fold_Do
  rw [own34 h, bnoS, check34 h, bnoS, bndD, show (!decide ((0 : Int) = 0)) = false from rfl, bif_ff, bndD]
  by_cases h0 : op.Kind = 0
  · rw [decide_eq_true h0, bif_tt, if_pos (.inl h0)]; rfl
  · rw [decide_eq_false h0, bif_ff, bndD]
    by_cases h1 : op.Kind = 1
    · rw [decide_eq_true h1, if_pos (.inr h1)]; rfl
    · rw [decide_eq_false h1, if_neg (by omega)]
      unfold fold_Do_J0
      rw [bif_ff, bndD]
      by_cases h2 : op.Kind = 2
      · rw [decide_eq_true h2, bif_tt, if_pos h2]
      · rw [decide_eq_false h2, bif_ff, if_neg h2, bndD]
        by_cases h3 : op.Kind = 3
        · rw [decide_eq_true h3, bif_tt, if_pos h3]
        · rw [decide_eq_false h3, bif_ff, if_neg h3]
theorem do_remove {st : Fs} (h : FV 24 st) {op : Fo} (hk : op.Kind = 3) (hid : ∃ n ∈ st.Nodes, n.ID = op.ID) : ∃ A y C, st.Nodes = A ++ y :: C ∧ y.ID = op.ID ∧ fold_Do st op = some (⟨st.Room, st.Keep, offS A y C, st.Ended.filter fun e => !decide (e = op.ID)⟩, 0) := by
  obtain ⟨A, y, C, hN, hyx, hoff⟩ := off34 h hid
  have hy : y ∈ st.Nodes := by rw [hN]; simp
  obtain ⟨B, D, _, hf⟩ := find_mem h hy
  rw [hyx] at hf
  refine ⟨A, y, C, hN, hyx, ?_⟩
  rw [do_key h, if_neg (by omega), if_neg (by omega), if_pos hk, hf, bnoS]
  show (bif false then _ else _) = _
  rw [bif_ff, hoff, bnoS]
theorem do_remove_no {st : Fs} (h : FV 24 st) {op : Fo} (hk : op.Kind = 3) (h64 : I64 op.ID) (hno : ∀ n ∈ st.Nodes, n.ID ≠ op.ID) : fold_Do st op = some (st, 6) := by
  obtain ⟨q, hq1, hq2⟩ := find34 h.ok h64
  rw [do_key h, if_neg (by omega), if_neg (by omega), if_pos hk, hq1, bnoS]
  cases hq2 with
  | yes A y C hN he _ _ => exact absurd he (hno y (by rw [hN]; simp))
  | no p hp _ _ => rfl
theorem do34 {st : Fs} (h : FV 24 st) (op : Fo) (h64 : I64 op.ID) : ∃ st' e, fold_Do st op = some (st', e) ∧ FV 24 st' := by
  by_cases h0 : op.Kind = 0 ∨ op.Kind = 1
  · obtain ⟨st', e, h1, h2⟩ := plant34 (op := op) h h64
    rw [do_key h, if_pos h0, h1, bnoS]
    exact ⟨_, _, rfl, h2⟩
  · by_cases h2 : op.Kind = 2
    · rw [do_key h, if_neg h0, if_pos h2]
      by_cases hid : ∃ n ∈ st.Nodes, n.ID = op.ID
      · obtain ⟨y, hy, e⟩ := hid
        rw [← e, shut_yes h hy, bnoS]
        cases hc : y.Closed
        · exact ⟨_, _, rfl, (fv_shut h hy hc).1⟩
        · exact ⟨_, _, rfl, h⟩
      · rw [shut_no h h64 (fun n hn e => hid ⟨n, hn, e⟩), bnoS]
        exact ⟨_, _, rfl, h⟩
    · by_cases h3 : op.Kind = 3
      · by_cases hid : ∃ n ∈ st.Nodes, n.ID = op.ID
        · obtain ⟨A, y, C, hN, hyx, e⟩ := do_remove h h3 hid
          refine ⟨_, _, e, ?_⟩
          rw [← hyx]
          exact fv_off h hN
        · exact ⟨_, _, do_remove_no h h3 h64 (fun n hn e => hid ⟨n, hn, e⟩), h⟩
      · rw [do_key h, if_neg h0, if_neg h2, if_neg h3]
        exact ⟨_, _, rfl, h⟩
end Go.Fn
set_option linter.unusedSimpArgs false
set_option linter.unusedVariables false
open Go Go.IL
namespace Go.Fn
/-! FoldWeights. -/
def ksum (W S id : Int) : List Nd → Int
  | [] => 0
  | n :: r => (if n.Parent = id then max (W * n.Weight / S) 1 else 0) + ksum W S id r
def qsum (W S id : Int) : List Nd → Int
  | [] => 0
  | n :: r => (if n.Parent = id then W * n.Weight / S else 0) + qsum W S id r
theorem ks_lo (W S id : Int) : ∀ l : List Nd, (kidS l id : Int) ≤ ksum W S id l
  | [] => Int.le_refl _
  | n :: r => by
    have := ks_lo W S id r
    have e1 : kidS (n :: r) id = (if n.Parent = id then 1 else 0) + kidS r id := rfl
    have e2 : ksum W S id (n :: r) = (if n.Parent = id then max (W * n.Weight / S) 1 else 0) + ksum W S id r := rfl
    rw [e1, e2]
    split <;> omega
theorem ks_hi {W S id : Int} (h0 : 0 ≤ W) (hS : 0 ≤ S) : ∀ {l : List Nd}, (∀ n ∈ l, 1 ≤ n.Weight ∧ n.Weight ≤ 256) → ksum W S id l ≤ qsum W S id l + kidS l id
  | [], _ => Int.le_refl _
  | n :: r, hw => by
    have := ks_hi (S := S) (id := id) h0 hS (l := r) (fun x hx => hw x (by simp [hx]))
    have e1 : kidS (n :: r) id = (if n.Parent = id then 1 else 0) + kidS r id := rfl
    have e2 : ksum W S id (n :: r) = (if n.Parent = id then max (W * n.Weight / S) 1 else 0) + ksum W S id r := rfl
    have e3 : qsum W S id (n :: r) = (if n.Parent = id then W * n.Weight / S else 0) + qsum W S id r := rfl
    have hn := hw n (by simp)
    have hq : 0 ≤ W * n.Weight / S := Int.ediv_nonneg (Int.mul_nonneg h0 (by omega)) hS
    rw [e1, e2, e3]
    split <;> omega
theorem qs_hi {W S id : Int} (h0 : 0 ≤ W) (hS : 0 < S) : ∀ (l : List Nd), qsum W S id l * S ≤ W * sumS l id
  | [] => by show (0 : Int) * S ≤ W * 0; simp
  | n :: r => by
    have h1 := qs_hi (id := id) h0 hS r
    have e1 : sumS (n :: r) id = (if n.Parent = id then n.Weight else 0) + sumS r id := rfl
    have e3 : qsum W S id (n :: r) = (if n.Parent = id then W * n.Weight / S else 0) + qsum W S id r := rfl
    rw [e1, e3, Int.add_mul, Int.mul_add]
    split
    · have := Int.ediv_mul_le (W * n.Weight) (show S ≠ 0 by omega)
      omega
    · rw [Int.zero_mul, Int.mul_zero]; omega
theorem kid_sum : ∀ {l : List Nd} (id : Int), (∀ n ∈ l, 1 ≤ n.Weight ∧ n.Weight ≤ 256) → sumS l id = 0 → kidS l id = 0
  | [], _, _, _ => rfl
  | n :: r, id, hw, h => by
    have e1 : sumS (n :: r) id = (if n.Parent = id then n.Weight else 0) + sumS r id := rfl
    have e2 : kidS (n :: r) id = (if n.Parent = id then 1 else 0) + kidS r id := rfl
    have h1 := sum_nn (N := r) (fun x hx => hw x (by simp [hx])) id
    have hn := hw n (by simp)
    rw [e1] at h
    have hr := kid_sum (l := r) id (fun x hx => hw x (by simp [hx]))
    rw [e2]
    by_cases hp : n.Parent = id
    · rw [if_pos hp] at h; omega
    · rw [if_neg hp] at h ⊢
      rw [hr (by omega)]
theorem k_le {W id : Int} (h0 : 1 ≤ W) {l : List Nd} (hw : ∀ n ∈ l, 1 ≤ n.Weight ∧ n.Weight ≤ 256) : ksum W (sumS l id) id l ≤ W + kidS l id := by
  have hS := (sum_nn hw id).1
  have h1 := ks_hi (W := W) (S := sumS l id) (id := id) (by omega) hS hw
  by_cases hz : sumS l id = 0
  · have := kid_sum id hw hz
    have hk : ∀ l : List Nd, kidS l id = 0 → ksum W (sumS l id) id l ≤ 0 := fun l => by
      intro h
      have : ∀ (S : Int) (l : List Nd), kidS l id = 0 → ksum W S id l = 0 := fun S l => by
        induction l with
        | nil => intro _; rfl
        | cons n r ih =>
          intro h
          have e2 : kidS (n :: r) id = (if n.Parent = id then 1 else 0) + kidS r id := rfl
          have e3 : ksum W S id (n :: r) = (if n.Parent = id then max (W * n.Weight / S) 1 else 0) + ksum W S id r := rfl
          rw [e2] at h
          by_cases hp : n.Parent = id
          · rw [if_pos hp] at h; omega
          · rw [if_neg hp] at h
            rw [e3, if_neg hp, ih (by omega)]; rfl
      rw [this _ _ h]; omega
    have := hk l this
    omega
  · have h2 := qs_hi (W := W) (S := sumS l id) (id := id) (by omega) (by omega) l
    have h3 : qsum W (sumS l id) id l ≤ W := Int.le_of_mul_le_mul_right h2 (by omega)
    omega
theorem sum_off {y : Nd} {S : Int} (hp : y.Parent ≠ y.ID) : ∀ l : List Nd, sumS (l.map (offN y S)) y.Parent = sumS l y.Parent + ksum y.Weight S y.ID l
  | [] => rfl
  | n :: r => by
    have h := sum_off (S := S) hp r
    have e1 : sumS ((n :: r).map (offN y S)) y.Parent = (if (offN y S n).Parent = y.Parent then (offN y S n).Weight else 0) + sumS (r.map (offN y S)) y.Parent := rfl
    have e2 : sumS (n :: r) y.Parent = (if n.Parent = y.Parent then n.Weight else 0) + sumS r y.Parent := rfl
    have e3 : ksum y.Weight S y.ID (n :: r) = (if n.Parent = y.ID then max (y.Weight * n.Weight / S) 1 else 0) + ksum y.Weight S y.ID r := rfl
    rw [e1, e2, e3, h]
    unfold offN
    by_cases hn : n.Parent = y.ID
    · rw [if_pos hn]
      simp only [if_true, if_pos hn]
      rw [if_neg (fun e : n.Parent = y.Parent => hp (e.symm.trans hn))]
      omega
    · rw [if_neg hn, if_neg hn]
      omega
theorem there34 {st : Fs} (h : FV 24 st) {id : Int} (hx : ∃ n ∈ st.Nodes, n.ID = id) : fold_State_there st id = some true := by
  obtain ⟨y, hy, e⟩ := hx
  obtain ⟨A, C, _, hf⟩ := find_mem h hy
  rw [e] at hf
  unfold fold_State_there
  simp only [hf, bnoS, beq_self_eq_true, gdtt, check34 h, bndD, decide_true, Bool.and_self]
theorem depth34 {st : Fs} (h : FV 24 st) {id : Int} (hx : ∃ n ∈ st.Nodes, n.ID = id) : fold_Depth st id = some ((pathS st.Nodes st.Nodes.length id).length + 1 : Int) := by
  have ht := there34 h hx
  obtain ⟨y, hy, e⟩ := hx
  have hr := (h.ra y hy).1
  have hl := path_len st.Nodes st.Nodes.length id
  have hln := h.ln
  unfold fold_Depth
  rw [ht, bnoS]
  show (bif false then _ else _) = _
  rw [bif_ff, path34 h.ok ⟨by omega, by omega⟩, bnoS, bndD, w64 (by omega) (by omega)]
theorem sumx {st : Fs} (h : FV 24 st) {p : Int} (hp : p = 0 ∨ ∃ n ∈ st.Nodes, n.ID = p) : fold_Sum st p = some (sumS st.Nodes p) := by
  have hln := h.ln
  have hs := sum34 (st := st) (by omega) (fun n hn => (h.ra n hn).2) p
  unfold fold_Sum
  by_cases hz : p = 0
  · simp only [check34 h, bnoS, bndD, decide_true, Bool.not_true, decide_eq_true hz, beq_self_eq_true, show ((false : Bool) == true) = false from rfl, Bool.true_and, gdff, Bool.false_and, Bool.or_self, bif_ff, hs]
  · have ht := there34 h (hp.resolve_left hz)
    simp only [check34 h, bnoS, bndD, decide_true, Bool.not_true, decide_eq_false hz, Bool.not_false, beq_self_eq_true, Bool.and_self, gdtt, ht, Bool.and_false, Bool.or_self, bif_ff, hs]
theorem neq34 {l m : List Nd} (hl : l.length ≤ 1000000) : slices_Equal_ptree_Node_ptree_Node l m = some (decide (l = m)) := by
  have heq : ∀ x y : Nd, (decide (x.ID = y.ID) && (decide (x.Parent = y.Parent) && (decide (x.Weight = y.Weight) && ((x.Closed == y.Closed) && true)))) = decide (x = y) := fun x y => by
    obtain ⟨a, b, c, d⟩ := x; obtain ⟨e, f, g, i⟩ := y; rw [Bool.eq_iff_iff]; simp
  have := equal_all (L := slices_Equal_ptree_Node_ptree_Node_L0 l m) (m := m) (z := true) hl (fun p x r s y t f h k e => by
    rw [slices_Equal_ptree_Node_ptree_Node_L0]
    simp only [bndD, lt_at h, bif_tt, gix_at h, show gix m (p.length : Int) = some y by rw [e]; exact gix_at k, bnoS, heq, w_at h hl]) (fun _ f => by
    rw [slices_Equal_ptree_Node_ptree_Node_L0]
    simp only [bndD, lt_len, bif_ff])
  rw [Bool.and_true] at this
  exact this
theorem ieq34 {l m : List Int} (hl : l.length ≤ 1000000) : slices_Equal_int_int l m = some (decide (l = m)) := by
  have := equal_all (L := slices_Equal_int_int_L0 l m) (m := m) (z := true) hl (fun p x r s y t f h k e => by
    rw [slices_Equal_int_int_L0]
    simp only [bndD, lt_at h, bif_tt, gix_at h, show gix m (p.length : Int) = some y by rw [e]; exact gix_at k, bnoS, w_at h hl]) (fun _ f => by
    rw [slices_Equal_int_int_L0]
    simp only [bndD, lt_len, bif_ff])
  rw [Bool.and_true] at this
  exact this
theorem same34 {st : Fs} (h : FV 24 st) : fold_Same st st = some true := by
  have hln := h.ln; have hel := h.el
  unfold fold_Same
  simp only [bndD, decide_true, Bool.and_self, beq_self_eq_true, gdtt, neq34 (l := st.Nodes) (m := st.Nodes) (by omega), ieq34 (l := st.Ended) (m := st.Ended) (by omega), bnoS]
theorem path_cl {N : List Nd} (c : Int) : ∀ (k : Nat) (id : Int), pathS (N.map (clN c)) k id = pathS N k id
  | 0, _ => rfl
  | k + 1, id => by
    have hp : ∀ M : List Nd, parOf (M.map (clN c)) id = parOf M id := fun M => by
      induction M with
      | nil => rfl
      | cons n r ih =>
        unfold parOf at ih ⊢
        rw [List.map_cons, List.find?_cons, List.find?_cons, clN_id]
        cases decide (n.ID = id)
        · exact ih
        · show some (clN c n).Parent = some n.Parent
          rw [clN_par]
    unfold pathS
    rw [hp]
    cases parOf N id with
    | none => rfl
    | some p =>
      simp only
      rw [path_cl c k p]
end Go.Fn
set_option linter.unusedSimpArgs false
set_option linter.unusedVariables false
open Go Go.IL
namespace Go.Fn
/-! FoldWeights: the law. -/
theorem w1_skip {R K id w p : Int} {c : Bool} {N : List Nd} {E : List Int} (hl : N.length ≤ 1000) : ∀ (r q s : List Nd) (f : Nat), N = q ++ r ++ s → (∀ n ∈ r, n.ID ≠ id) → sennitlaw34_FoldWeights_L1 R K N E id (f + r.length) w p c (q.length : Int) = sennitlaw34_FoldWeights_L1 R K N E id f w p c ((q ++ r).length : Int)
  | [], q, s, f, _, _ => by rw [List.append_nil]; rfl
  | n :: r, q, s, f, h, hn => by
    have h1 : N = q ++ n :: (r ++ s) := by rw [h]; simp
    have hrec := w1_skip (R := R) (K := K) (w := w) (p := p) (c := c) (E := E) hl r (q ++ [n]) s f (by rw [h]; simp) (fun m hm => hn m (by simp [hm]))
    rw [List.append_assoc] at hrec
    rw [show f + (n :: r).length = (f + r.length) + 1 by simp only [List.length_cons]; omega, sennitlaw34_FoldWeights_L1]
    simp only [bndD, lt_at h1, bif_tt, gix_at h1, bnoS, decide_eq_false (hn n (by simp)), bif_ff, w_at h1 (show N.length ≤ 1000000 by omega)]
    exact hrec
theorem w2_all {R K id w p : Int} {c : Bool} {N : List Nd} {E : List Int} {x60 x61 : Fs × Int} (hl : N.length ≤ 1000) : ∀ (r q : List Nd) (f : Nat), N = q ++ r → sennitlaw34_FoldWeights_L2 R K N E id w p c x60 x61 (f + r.length) (kidS q id : Int) (q.length : Int) = sennitlaw34_FoldWeights_L2 R K N E id w p c x60 x61 f (kidS N id : Int) (N.length : Int)
  | [], q, f, h => by rw [List.append_nil] at h; rw [h]; rfl
  | n :: r, q, f, h => by
    have hrec := w2_all (R := R) (K := K) (w := w) (p := p) (c := c) (E := E) (x60 := x60) (x61 := x61) (id := id) hl r (q ++ [n]) f (next_at h)
    have e1 : kidS [n] id = (if n.Parent = id then 1 else 0) + 0 := rfl
    rw [kid_app, e1] at hrec
    have hk : ∀ l : List Nd, kidS l id ≤ l.length := fun l => by
      induction l with
      | nil => exact Nat.le_refl _
      | cons m t ih =>
        have e : kidS (m :: t) id = (if m.Parent = id then 1 else 0) + kidS t id := rfl
        rw [e, List.length_cons]; split <;> omega
    have hq := hk q
    have hql : q.length ≤ 1000 := by rw [h] at hl; simp at hl; omega
    rw [show f + (n :: r).length = (f + r.length) + 1 by simp only [List.length_cons]; omega, sennitlaw34_FoldWeights_L2]
    simp only [bndD, lt_at h, bif_tt, gix_at h, bnoS, w_at h (show N.length ≤ 1000000 by omega)]
    by_cases hp : n.Parent = id
    · rw [if_pos hp] at hrec
      rw [decide_eq_true hp, bif_tt, w64 (by omega) (by omega)]
      have e2 : ((kidS q id + (1 + 0) : Nat) : Int) = (kidS q id : Int) + 1 := by omega
      rw [e2] at hrec
      exact hrec
    · rw [if_neg hp] at hrec
      rw [decide_eq_false hp, bif_ff]
      exact hrec
theorem w_end {st : Fs} (h : FV 24 st) {y : Nd} (hy : y ∈ st.Nodes) {f : Nat} {x60 x61 : Fs × Int} (h60 : fold_Do st ⟨3, y.ID, 0, 0, false⟩ = some x60) (h61 : fold_Do st ⟨2, y.ID, 0, 0, false⟩ = some x61) :
    sennitlaw34_FoldWeights_L2 st.Room st.Keep st.Nodes st.Ended y.ID y.Weight y.Parent y.Closed x60 x61 (f + 1) (kidS st.Nodes y.ID : Int) (st.Nodes.length : Int) = some true := by
  have hln := h.ln
  have hra := h.ra y hy
  obtain ⟨r, hr⟩ := h.rk
  have hyp : y.Parent ≠ y.ID := fun e => by
    have := hr y hy (by omega)
    rw [e] at this; omega
  -- removed
  obtain ⟨A, z, C, hN, hz, hrm⟩ := do_remove h (op := ⟨3, y.ID, 0, 0, false⟩) rfl ⟨y, hy, rfl⟩
  have hzy : z = y := uniq34 h.so (by rw [hN]; simp) hy hz
  subst hzy
  rw [hrm] at h60
  obtain rfl := Option.some.inj h60
  have hfv := fv_off h hN
  have hw : ∀ n ∈ A ++ C, 1 ≤ n.Weight ∧ n.Weight ≤ 256 := fun n hn => (h.ra n (by rw [hN]; rcases List.mem_append.1 hn with hn | hn <;> simp [hn])).2
  have hs1 : fold_Sum ⟨st.Room, st.Keep, offS A z C, st.Ended.filter fun e => !decide (e = z.ID)⟩ z.Parent = some (sumS (offS A z C) z.Parent) := sumx hfv (by
    rcases h.pa z hy with e | ⟨m, hm, e⟩
    · exact .inl e
    · right
      have hmz : m.ID ≠ z.ID := by rw [e]; exact hyp
      have hmem : m ∈ A ++ C := by
        rw [hN] at hm
        rcases List.mem_append.1 hm with hm | hm
        · exact List.mem_append.2 (.inl hm)
        · rcases List.mem_cons.1 hm with e2 | hm
          · rw [e2] at hmz; exact absurd rfl hmz
          · exact List.mem_append.2 (.inr hm)
      exact ⟨_, List.mem_map.2 ⟨m, hmem, rfl⟩, (offN_id _ _ _).trans e⟩)
  have hs2 : fold_Sum ⟨st.Room, st.Keep, st.Nodes, st.Ended⟩ z.Parent = some (sumS st.Nodes z.Parent) := sumx h (h.pa z hy)
  have hsum1 : sumS (offS A z C) z.Parent = sumS (A ++ C) z.Parent + ksum z.Weight (sumS (A ++ C) z.ID) z.ID (A ++ C) := sum_off hyp (A ++ C)
  have hsum2 : sumS st.Nodes z.Parent = sumS (A ++ C) z.Parent + z.Weight := by
    have e : sumS (z :: C) z.Parent = (if z.Parent = z.Parent then z.Weight else 0) + sumS C z.Parent := rfl
    rw [hN, sum_app, e, if_pos rfl, sum_app]; omega
  have hkid : kidS st.Nodes z.ID = kidS (A ++ C) z.ID := by
    have e : kidS (z :: C) z.ID = (if z.Parent = z.ID then 1 else 0) + kidS C z.ID := rfl
    rw [hN, kid_app, e, if_neg hyp, kid_app]; omega
  have hlo := ks_lo z.Weight (sumS (A ++ C) z.ID) z.ID (A ++ C)
  have hhi := k_le (W := z.Weight) (id := z.ID) hra.2.1 hw
  have hb1 := sum_nn hw z.Parent
  have hlen1 : (A ++ C).length + 1 = st.Nodes.length := by rw [hN]; simp; omega
  have hlen2 : (offS A z C).length = (A ++ C).length := by unfold offS; rw [List.length_map]
  have hkl : (kidS (A ++ C) z.ID : Int) ≤ 24 := by
    have : ∀ l : List Nd, kidS l z.ID ≤ l.length := fun l => by
      induction l with
      | nil => exact Nat.le_refl _
      | cons m t ih =>
        have e : kidS (m :: t) z.ID = (if m.Parent = z.ID then 1 else 0) + kidS t z.ID := rfl
        rw [e, List.length_cons]; split <;> omega
    have := this (A ++ C); omega
  -- closed
  have hdo : fold_Do st ⟨2, z.ID, 0, 0, false⟩ = some (if z.Closed = true then (st, 9) else (⟨st.Room, st.Keep, st.Nodes.map (clN z.ID), st.Ended ++ [z.ID]⟩, 0)) := by
    rw [do_key h, if_neg (show ¬ ((2 : Int) = 0 ∨ (2 : Int) = 1) by decide), if_pos rfl]
    show bno (fold_State_shut_h st.Room st.Keep z.ID st.Nodes st.Ended) _ = _
    rw [shut_yes h hy, bnoS]
    cases z.Closed <;> rfl
  rw [hdo] at h61
  obtain rfl := Option.some.inj h61
  have hd1 : fold_Depth ⟨st.Room, st.Keep, st.Nodes, st.Ended⟩ z.ID = some ((pathS st.Nodes st.Nodes.length z.ID).length + 1 : Int) := depth34 h ⟨z, hy, rfl⟩
  have hd2 : fold_Depth (if z.Closed = true then (st, (9 : Int)) else (⟨st.Room, st.Keep, st.Nodes.map (clN z.ID), st.Ended ++ [z.ID]⟩, 0)).1 z.ID = some ((pathS st.Nodes st.Nodes.length z.ID).length + 1 : Int) := by
    cases hc : z.Closed
    · have := depth34 (fv_shut h hy hc).1 (id := z.ID) ⟨_, List.mem_map.2 ⟨z, hy, rfl⟩, clN_id _ _⟩
      simp only [List.length_map, path_cl] at this
      exact this
    · exact hd1
  have hl61 : ((if z.Closed = true then (st, (9 : Int)) else (⟨st.Room, st.Keep, st.Nodes.map (clN z.ID), st.Ended ++ [z.ID]⟩, 0)).1.Nodes.length : Int) = (st.Nodes.length : Int) := by
    cases z.Closed
    · show ((st.Nodes.map _).length : Int) = _; rw [List.length_map]
    · rfl
  have he61 : (decide ((if z.Closed = true then (st, (9 : Int)) else (⟨st.Room, st.Keep, st.Nodes.map (clN z.ID), st.Ended ++ [z.ID]⟩, 0)).2 = 0) == !z.Closed) = true := by
    cases z.Closed <;> rfl
  generalize (if z.Closed = true then (st, (9 : Int)) else (⟨st.Room, st.Keep, st.Nodes.map (clN z.ID), st.Ended ++ [z.ID]⟩, 0)) = X at *
  rw [hsum1] at hs1
  rw [hsum2] at hs2
  rw [sennitlaw34_FoldWeights_L2]
  generalize ksum z.Weight (sumS (A ++ C) z.ID) z.ID (A ++ C) = k at *
  generalize sumS (A ++ C) z.Parent = s at *
  simp only [bndD, lt_len, bif_ff, hs1, hs2, bnoS, w64 (show -9223372036854775808 ≤ s + z.Weight - z.Weight by omega) (by omega), w64 (show -9223372036854775808 ≤ s + k - (s + z.Weight - z.Weight) by omega) (by omega), w64 (show -9223372036854775808 ≤ (st.Nodes.length : Int) - 1 by omega) (by omega), decide_true, he61, Bool.and_self, decide_eq_true (show ((offS A z C).length : Int) = (st.Nodes.length : Int) - 1 by omega), decide_eq_true hl61, beq_self_eq_true, gdtt, hd1, hd2, w64 (show -9223372036854775808 ≤ z.Weight + (kidS st.Nodes z.ID : Int) by omega) (by omega),
    decide_eq_true (show s + k - (s + z.Weight - z.Weight) ≤ z.Weight + (kidS st.Nodes z.ID : Int) by omega), decide_eq_true (show (kidS st.Nodes z.ID : Int) ≤ s + k - (s + z.Weight - z.Weight) by omega), awake34]
theorem w1_end {st : Fs} (h : FV 24 st) {id : Int} (hid : 0 ≤ id ∧ id ≤ 13) : sennitlaw34_FoldWeights_L1 st.Room st.Keep st.Nodes st.Ended id fuel 0 (-1) false 0 = some true := by
  have hln := h.ln
  have h64 : I64 id := ⟨by omega, by omega⟩
  obtain ⟨m, hm⟩ : ∃ m, fuel = m + 2 + st.Nodes.length := ⟨2 ^ 64 - 2 - st.Nodes.length, by show 2 ^ 64 = _; omega⟩
  by_cases hx : ∃ n ∈ st.Nodes, n.ID = id
  · obtain ⟨y, hy, hyx⟩ := hx
    obtain ⟨A, C, hN⟩ := List.append_of_mem hy
    have hso := h.so
    rw [hN] at hso
    obtain ⟨hA, hC⟩ := apart34 hso
    rw [hyx] at hA hC
    have hra := h.ra y hy
    have hlen : st.Nodes.length = A.length + 1 + C.length := by rw [hN]; simp; omega
    have s1 := w1_skip (R := st.Room) (K := st.Keep) (E := st.Ended) (id := id) (w := 0) (p := -1) (c := false) (N := st.Nodes) (by omega) A [] (y :: C) (m + 2 + 1 + C.length) (by rw [hN]; rfl) hA
    have s2 := w1_skip (R := st.Room) (K := st.Keep) (E := st.Ended) (id := id) (w := y.Weight) (p := y.Parent) (c := y.Closed) (N := st.Nodes) (by omega) C (A ++ [y]) [] (m + 2) (by rw [hN]; simp) hC
    rw [List.nil_append] at s1
    rw [show m + 2 + 1 + C.length + A.length = m + 2 + st.Nodes.length by omega] at s1
    rw [hm]
    have s1 : sennitlaw34_FoldWeights_L1 st.Room st.Keep st.Nodes st.Ended id (m + 2 + st.Nodes.length) 0 (-1) false 0 = _ := s1
    rw [s1, show m + 2 + 1 + C.length = (m + 2 + C.length) + 1 by omega, sennitlaw34_FoldWeights_L1]
    simp only [bndD, lt_at hN, bif_tt, gix_at hN, bnoS, decide_eq_true hyx, w_at hN (show st.Nodes.length ≤ 1000000 by omega)]
    rw [s2, show (A ++ [y] ++ C).length = st.Nodes.length by rw [hN]; simp, show m + 2 = (m + 1) + 1 by omega, sennitlaw34_FoldWeights_L1]
    obtain ⟨x60, e60, h60, _⟩ := do34 h ⟨3, id, 0, 0, false⟩ h64
    obtain ⟨x61, e61, h61, _⟩ := do34 h ⟨2, id, 0, 0, false⟩ h64
    have h60' : fold_Do ⟨st.Room, st.Keep, st.Nodes, st.Ended⟩ ⟨3, id, 0, 0, false⟩ = some (x60, e60) := h60
    have h61' : fold_Do ⟨st.Room, st.Keep, st.Nodes, st.Ended⟩ ⟨2, id, 0, 0, false⟩ = some (x61, e61) := h61
    have hp0 : ¬ y.Parent < 0 := by
      rcases h.pa y hy with e | ⟨n, hn, e⟩
      · omega
      · have := (h.ra n hn).1; omega
    simp only [bndD, lt_len, bif_ff, h60', h61', bnoS, decide_eq_false hp0]
    rw [← hyx] at h60 h61 ⊢
    obtain ⟨j, hj⟩ : ∃ j, fuel = (j + 1) + st.Nodes.length := ⟨2 ^ 64 - 1 - st.Nodes.length, by show 2 ^ 64 = _; omega⟩
    have s3 := w2_all (R := st.Room) (K := st.Keep) (E := st.Ended) (id := y.ID) (w := y.Weight) (p := y.Parent) (c := y.Closed) (N := st.Nodes) (x60 := (x60, e60)) (x61 := (x61, e61)) (by omega) st.Nodes [] (j + 1) rfl
    rw [hj]
    exact s3.trans (w_end h hy h60 h61)
  · have hno : ∀ n ∈ st.Nodes, n.ID ≠ id := fun n hn e => hx ⟨n, hn, e⟩
    have s1 := w1_skip (R := st.Room) (K := st.Keep) (E := st.Ended) (id := id) (w := 0) (p := -1) (c := false) (N := st.Nodes) (by omega) st.Nodes [] [] (m + 2) (by simp) hno
    rw [List.nil_append] at s1
    rw [hm]
    have s1 : sennitlaw34_FoldWeights_L1 st.Room st.Keep st.Nodes st.Ended id (m + 2 + st.Nodes.length) 0 (-1) false 0 = _ := s1
    have h60 : fold_Do ⟨st.Room, st.Keep, st.Nodes, st.Ended⟩ ⟨3, id, 0, 0, false⟩ = some (st, 6) := do_remove_no h (op := ⟨3, id, 0, 0, false⟩) rfl h64 hno
    have h61 : fold_Do ⟨st.Room, st.Keep, st.Nodes, st.Ended⟩ ⟨2, id, 0, 0, false⟩ = some (st, 6) := by
      have := do_key h ⟨2, id, 0, 0, false⟩
      rw [if_neg (show ¬ ((2 : Int) = 0 ∨ (2 : Int) = 1) by decide), if_pos rfl] at this
      have h2 := shut_no h h64 hno
      have this : fold_Do st ⟨2, id, 0, 0, false⟩ = bno (fold_State_shut_h st.Room st.Keep id st.Nodes st.Ended) _ := this
      rw [h2, bnoS] at this
      exact this
    have hsm : fold_Same st ⟨st.Room, st.Keep, st.Nodes, st.Ended⟩ = some true := same34 h
    rw [s1, show m + 2 = (m + 1) + 1 by omega, sennitlaw34_FoldWeights_L1]
    simp only [bndD, lt_len, bif_ff, h60, h61, bnoS, show decide ((-1 : Int) < 0) = true from rfl, bif_tt, decide_true, Bool.and_self, beq_self_eq_true, gdtt, hsm, awake34]
theorem w0_L {ds : List Fo} {i : Int} (hl : ds.length ≤ 60) (hd : ∀ d ∈ ds, I64 d.ID) (hi : 0 ≤ i ∧ i ≤ 255) (r : List Fo) : ∀ (p : List Fo) (f : Nat) (st : Fs), ds = p ++ r → r.length < f → FV 24 st → sennitlaw34_FoldWeights_L0 ds i f (p.length : Int) st.Room st.Keep st.Nodes st.Ended = some true := by
  induction r with
  | nil =>
    intro p f st h hf hst
    obtain ⟨f, rfl⟩ : ∃ g, f = g + 1 := ⟨f - 1, by omega⟩
    rw [List.append_nil] at h
    rw [sennitlaw34_FoldWeights_L0, bndD, ← h, lt_len, bif_ff, rem_ok hi.1 (by decide), bnoS, bndD, w64 (by omega) (by omega)]
    exact w1_end hst (by omega)
  | cons d r ih =>
    intro p f st h hf hst
    obtain ⟨f, rfl⟩ : ∃ g, f = g + 1 := ⟨f - 1, by omega⟩
    obtain ⟨st', e, h1, h2⟩ := do34 hst d (hd d (by rw [h]; simp))
    have h1 : fold_Do ⟨st.Room, st.Keep, st.Nodes, st.Ended⟩ d = some (st', e) := h1
    rw [sennitlaw34_FoldWeights_L0, bndD, lt_at h, bif_tt, gix_at h, bnoS, h1, bnoS, bndD, w_at h (show ds.length ≤ 1000000 by omega)]
    exact ih (p ++ [d]) f st' (next_at h) (by simpa using hf) h2
theorem fv_start : FV 24 ⟨24, 24, [], []⟩ :=
  ⟨rfl, ⟨rfl, by decide, by decide⟩, by show ([] : List Nd).length ≤ 24; decide, by show (([] : List Int).length : Int) ≤ 24; decide, .nil, fun _ h => (List.not_mem_nil h).elim, fun _ h => (List.not_mem_nil h).elim, ⟨fun _ => 0, fun _ h => (List.not_mem_nil h).elim⟩, fun _ h => (List.not_mem_nil h).elim, .nil, fun _ h => (List.not_mem_nil h).elim⟩
theorem foldWeights {ds : List Fo} {i : Int} (hd : ∀ d ∈ ds, I64 d.ID) (hi : 0 ≤ i ∧ i ≤ 255) : sennitlaw34_FoldWeights ds i = some true := by
  unfold sennitlaw34_FoldWeights
  rw [bndD]
  by_cases hl : 60 < (ds.length : Int)
  · rw [decide_eq_true hl, bif_tt, awake34, bnoS]
  · rw [decide_eq_false hl, bif_ff]
    have := w0_L (ds := ds) (i := i) (by omega) hd hi ds [] fuel ⟨24, 24, [], []⟩ rfl (fuel_gt (by omega)) fv_start
    exact this
end Go.Fn
open Go.RowKit Go.WideShapes Go.ChangeShapes
namespace Go.IL

/-! A law's arguments: how they read. -/
def Spotless (v : Value) : Prop := ∀ a n c, v = .slice (some a) n c → a.spot = none
theorem spot_cell {P : Program} {w : World} {r : Reach} {b : Nat} {t : TypeId} {v : Value} (h : Cell.okWide P w r b t v) : Spotless v := by
  intro a n c e
  subst e
  have h2 : Cell.ok P w r b t (.slice (some a) n c) := by
    unfold Cell.okWide at h
    split at h <;> first | exact h | (rename_i h3 _; cases h3) | (rename_i h3; cases h3) | skip
    all_goals first | exact h | simp_all
  unfold Cell.ok at h2
  split at h2 <;> simp_all [World.has]
theorem spot_val {P : Program} {w : World} {r : Reach} {b : Nat} {t : TypeId} {v : Value} (h : Value.okWide P w r b t v) : ∀ u ∈ v.cells.toList, Spotless u := by
  have agg : ∀ cs : Array Value, Row.okWide P w r b t cs → ∀ u ∈ cs.toList, Spotless u := by
    intro cs ⟨ts, _, _, h3⟩ u hu
    obtain ⟨i, hi⟩ := List.getElem?_of_mem hu
    obtain ⟨q, _, hq⟩ := h3 i u (by simpa using hi)
    exact spot_cell hq
  unfold Value.okWide at h
  split at h
  · obtain ⟨cs, rfl, _, h⟩ := h; simpa [Value.cells] using agg cs h
  · obtain ⟨cs, rfl, _, h⟩ := h; simpa [Value.cells] using agg cs h
  · have h2 := spot_cell h
    intro u hu
    cases v with
    | agg cs =>
      exfalso
      unfold Cell.okWide at h
      split at h <;> simp_all [Cell.ok]
    | _ => simp [Value.cells] at hu; subst hu; exact h2

def Env.none (w : World) : Env := ⟨w, fun _ _ => False⟩
/-- What the cells of a type read as. -/
def OpD (P : Program) (sp : Bool) (t : TypeId) (Q : List D → Prop) : Prop :=
  ∀ {H : Type} {enc : TypeId × Value → H} {w : World} {base : Nat} {spare : Nat → Bool} {held : Bool} {fuel : Nat} {cs : List Value} {x : DataW H × List MemPlace},
    DataW.trod enc P w base spare held fuel t cs = some x → (sp = true → ∀ v ∈ cs, Spotless v) → ∃ ds, RdL (Env.none w) β0 cs ds ∧ Q ds
def qInt (k : IntKind) (ds : List D) : Prop := ∃ n : Int, ds = [.int k n] ∧ (k.min ≤ n ∧ n ≤ k.max)
def qBool (ds : List D) : Prop := ∃ b : Bool, ds = [.bool b]
def qSlice {α : Type} (f : Enc α) (wf : α → Prop) (ds : List D) : Prop := ∃ l : List α, ds = [.slice false (l.map f.d)] ∧ l.length ≤ 9223372036854775807 ∧ ∀ x ∈ l, wf x
def qList : List (List D → Prop) → List D → Prop
  | [], ds => ds = []
  | Q :: Qs, ds => ∃ a b, ds = a ++ b ∧ Q a ∧ qList Qs b

section
variable {P : Program} {sp : Bool} {t : TypeId}
theorem opd_int {k : IntKind} (hu : P.underlying t = some (.int k)) : OpD P sp t (qInt k) := by
  intro H enc w base spare held fuel cs x h _
  obtain ⟨n, rfl, rfl, hw⟩ := DataW.trod_int hu h
  exact ⟨[.int k n], .cons (.int _ _ _) (.nil _), n, rfl, by simpa [Lit.wf] using hw⟩
theorem opd_bool (hu : P.underlying t = some .bool) : OpD P sp t qBool := by
  intro H enc w base spare held fuel cs x h _
  obtain ⟨b, rfl, rfl⟩ := DataW.trod_bool hu h
  exact ⟨[.bool b], .cons (.bool _ _) (.nil _), b, rfl⟩
theorem opd_slice {α : Type} {f : Enc α} {e : TypeId} {wf : α → Prop} (hu : P.underlying t = some (.slice e)) (hc : P.cellsOf e = f.sz) (he : OpD P false e (fun ds => ∃ a, ds = (f.d a).cells ∧ wf a)) : OpD P sp t (qSlice f wf) := by
  intro H enc w base spare held fuel cs x h hs
  rcases DataW.trod_slice hu h with ⟨rfl, _⟩ | ⟨a, len, cap, elems, rest, n, _, rfl, rfl, hb, hl, hm, hlen, hel, _, _⟩
  · exact ⟨[.slice false []], .cons (.nslice _ _) (.nil _), [], rfl, by simp, by simp⟩
  · by_cases hl0 : len = 0
    · subst hl0; exact ⟨[.slice false []], .cons (.eslice _ a cap false (fun h => by cases h)) (.nil _), [], rfl, by simp, by simp⟩
    have hsp0 : a.spot = none := by
      have h1 := hel 0 (by omega)
      have h2 : elems[0]? = some (elems[0]'(by omega)) := List.getElem?_eq_getElem _
      rw [h2, Option.bind_eq_some_iff] at h1
      obtain ⟨vs, h3, _⟩ := h1
      have h7 := World.cells?_some h3
      have hp := f.pos
      have h8 := h7.2.2 0 (by rw [hc]; exact hp)
      rw [Nat.zero_mul] at h8
      have e0 : ((a.add 0).add 0) = a := rfl
      rw [e0] at h8
      cases hsp : a.spot with
      | none => rfl
      | some q =>
        exfalso
        unfold World.cell? at h8
        rw [hsp] at h8
        split at h8
        · simp at h8; have := h7.1; simp_all
        · have := h7.1; simp_all
    have ha : a = ⟨a.block, a.off, none⟩ := by cases a; simp_all
    have each : ∀ i, i < len → ∃ (vs : List Value) (y : α), (∀ k v, vs[k]? = some v → w.cell? ⟨a.block, a.off + (i * f.sz + k), none⟩ = some v) ∧ RdL (Env.none w) β0 vs (f.d y).cells ∧ wf y := by
      intro i hi
      have h1 := hel i hi
      have h2 : elems[i]? = some (elems[i]'(by omega)) := List.getElem?_eq_getElem _
      rw [h2, Option.bind_eq_some_iff] at h1
      obtain ⟨vs, h3, h4⟩ := h1
      obtain ⟨ds, h5, y, rfl, h6⟩ := he h4 (by simp)
      refine ⟨vs, y, fun k v hk => ?_, h5, h6⟩
      have h7 := World.cells?_some h3
      have hk' := (List.getElem?_eq_some_iff.1 hk).1
      have h8 := h7.2.2 k (by omega)
      rw [hk, ha, hc] at h8
      rw [← h8]
      congr 1
      by_cases h9 : i * f.sz = 0
      · by_cases h10 : k = 0
        · simp [Addr.add, h9, h10]
        · simp [Addr.add, h9, h10]
      · by_cases h10 : k = 0
        · simp [Addr.add, h9, h10]
        · simp [Addr.add, h9, h10, Nat.add_assoc]
    have all : ∀ m, m ≤ len → ∃ (vs : List Value) (l : List α), l.length = m ∧ (∀ k v, vs[k]? = some v → w.cell? ⟨a.block, a.off + k, none⟩ = some v) ∧ RdL (Env.none w) β0 vs (D.flat (l.map f.d)) ∧ ∀ y ∈ l, wf y := by
      intro m
      induction m with
      | zero => intro _; exact ⟨[], [], rfl, by simp, .nil _, by simp⟩
      | succ m ih =>
        intro hm'
        obtain ⟨vs, l, h1, h2, h3, h4⟩ := ih (by omega)
        obtain ⟨us, y, h5, h6, h7⟩ := each m (by omega)
        have hvl : vs.length = m * f.sz := by rw [h3.length, f.flat_len, h1]
        refine ⟨vs ++ us, l ++ [y], by simp [h1], fun k v hk => ?_, ?_, ?_⟩
        · by_cases hk' : k < vs.length
          · exact h2 k v (by rwa [List.getElem?_append_left hk'] at hk)
          · rw [List.getElem?_append_right (by omega)] at hk
            have := h5 _ _ hk
            rwa [hvl, show m * f.sz + (k - m * f.sz) = k by omega] at this
        · rw [List.map_append]
          have e2 : D.flat (l.map f.d ++ [y].map f.d) = D.flat (l.map f.d) ++ (f.d y).cells := by simp [D.flat]
          rw [e2]; exact h3.append h6
        · intro z hz
          rcases List.mem_append.1 hz with h | h
          · exact h4 z h
          · simp at h; subst h; exact h7
    obtain ⟨vs, l, h1, h2, h3, h4⟩ := all len (Nat.le_refl _)
    refine ⟨[.slice false (l.map f.d)], .cons ?_ (.nil _), l, rfl, by unfold maxLen at hm; omega, h4⟩
    rw [ha]
    exact .slice _ _ _ len cap f.sz false vs _ (by rw [List.length_map, h1]) hl (by simp) (f.len l) f.pos (fun k v hk => ⟨h2 k v hk, fun h => h⟩) h3

/-- The fields of a struct, one behind the other. -/
def fieldsAt (P : Program) : Nat → List Field → Bool
  | _, [] => true
  | k, f :: fs => f.offset == k && fieldsAt P (k + P.cellsOf f.type) fs
inductive OpFs (P : Program) (sp : Bool) : List Field → List (List D → Prop) → Prop
  | nil : OpFs P sp [] []
  | cons {f fs Q Qs} (h : OpD P sp f.type Q) (t : OpFs P sp fs Qs) : OpFs P sp (f :: fs) (Q :: Qs)
theorem opd_struct {fs : Array Field} {Qs : List (List D → Prop)} (hu : P.underlying t = some (.struct fs)) (hf : fieldsAt P 0 fs.toList = true) (hn : P.cellsOf t = (fs.toList.map fun f => P.cellsOf f.type).sum) (h : OpFs P sp fs.toList Qs) : OpD P sp t (qList Qs) := by
  intro H enc w base spare held fuel cs x hx hs
  obtain ⟨xs, n, _, _, hlen, hxl, hfld⟩ := DataW.trod_struct hu hx
  have key : ∀ (l : List Field) (Qs : List (List D → Prop)) (k : Nat), OpFs P sp l Qs → fieldsAt P k l = true → k + (l.map fun f => P.cellsOf f.type).sum = cs.length →
      (∀ f ∈ l, ∃ y, DataW.trod enc P w base spare held n f.type ((cs.drop f.offset).take (P.cellsOf f.type)) = some y) → ∃ ds, RdL (Env.none w) β0 (cs.drop k) ds ∧ qList Qs ds := by
    intro l Qs k ho
    induction ho generalizing k with
    | nil =>
      intro _ h1 _
      refine ⟨[], ?_, rfl⟩
      rw [List.drop_of_length_le (by simp at h1; omega)]; exact .nil _
    | @cons f fs Q Qs h t ih =>
      intro h1 h2 h3
      simp only [fieldsAt, Bool.and_eq_true, beq_iff_eq] at h1
      simp only [List.map_cons, List.sum_cons] at h2
      obtain ⟨y, hy⟩ := h3 f (by simp)
      rw [h1.1] at hy
      obtain ⟨ds, h4, h5⟩ := h hy (fun hsp v hv => hs hsp v (List.mem_of_mem_drop (List.mem_of_mem_take hv)))
      obtain ⟨es, h6, h7⟩ := ih (k + P.cellsOf f.type) h1.2 (by omega) (fun g hg => h3 g (by simp [hg]))
      refine ⟨ds ++ es, ?_, ds, es, rfl, h5, h7⟩
      have := h4.append h6
      rwa [← List.drop_drop, List.take_append_drop] at this
  have := key fs.toList Qs 0 h hf (by rw [Nat.zero_add, ← hn, hlen]) (fun f hf => by
    obtain ⟨i, hi⟩ := List.getElem?_of_mem hf
    have h1 := hfld i f (by simpa using hi)
    have h2 : i < xs.length := by rw [hxl]; have := (List.getElem?_eq_some_iff.1 hi).1; simpa using this
    exact ⟨xs[i], by rw [h1, List.getElem?_eq_getElem h2]⟩)
  rwa [List.drop_zero] at this
theorem OpD.to {Q R : List D → Prop} (h : OpD P sp t Q) (k : ∀ ds, Q ds → R ds) : OpD P sp t R := by
  intro H enc w base spare held fuel cs x hx hs
  obtain ⟨ds, h1, h2⟩ := h hx hs
  exact ⟨ds, h1, k ds h2⟩
/-- An argument. -/
theorem opd_val {Q : List D → Prop} (h : OpD P true t Q) {H : Type} {enc : TypeId × Value → H} {w : World} {base b0 : Nat} {spare : Nat → Bool} {held : Bool} {v : Value} {d : DataW H} {ps : List MemPlace} {r : Reach}
    (hv : Value.okWide P w r b0 t v) (hd : DataW.Trod enc P w base spare held t v d ps) : ∃ ds, RdL (Env.none w) β0 v.cells.toList ds ∧ Q ds := by
  obtain ⟨fuel, hf⟩ := hd
  exact h hf (fun _ => spot_val hv)
theorem rd_scalar {E : Env} {v : Value} {d : D} (h : RdL E β0 v.cells.toList [d]) (hn : ∀ cs, v ≠ .agg cs) : Rd E β0 v d := by
  cases v with
  | agg cs => exact absurd rfl (hn cs)
  | _ => simp [Value.cells] at h; cases h with | cons h _ => exact h
section
variable {H : Type} {enc : TypeId × Value → H}
theorem trodAll_below (hl : laidOutB P = true) {W W' : World} (hb : Below W.heap.size W W') {sp : Nat → Bool} : ∀ {ts : List TypeId} {vs : List Value} {ds : List (DataW H)} {ps : List MemPlace},
    (∀ t ∈ ts, P.readableRec t = true ∧ t < P.types.size) → DataW.TrodAll enc P W 0 (fun _ => true) true ts vs ds ps → (∀ x ∈ ps, x.block < W.heap.size) → (∀ x ∈ ps, sp x.block = true) →
    DataW.TrodAll enc P W' 0 sp true ts vs ds ps
  | [], vs, ds, ps, _, h, _, _ => by
    obtain ⟨rfl, rfl, rfl⟩ := trodAll_nil h; exact rfl
  | t :: ts, vs, ds, ps, hr, h, hlt, hsp => by
    obtain ⟨v, vs', d, ds', p, q, rfl, rfl, rfl, h1, h2⟩ := trodAll_cons h
    refine ⟨p, q, ?_, trodAll_below hl hb (fun t ht => hr t (by simp [ht])) h2 (fun x hx => hlt x (by simp [hx])) (fun x hx => hsp x (by simp [hx])), rfl⟩
    have hx : ∀ x ∈ p, x ∈ p ++ q := fun x hx => by simp [hx]
    exact WideElems.Trod_stays hl (hr t (by simp)).1 (hr t (by simp)).2 h1 (fun x hxp => hb.same (hlt x (hx x hxp))) (fun x hxp => hsp x (hx x hxp))
theorem post_of_below {f : Func} {s : ChangeSpec} {apart fresh handsOn again : Bool} {W W' : World} {args : Array Value} {v : Value} {ds gs : List (DataW H)} {before pa pv : List MemPlace}
    (hW : DataW.Whole enc P f.params.toList s.vars apart W args.toList ds gs before)
    (hres : ∀ (b : Nat) (sp : Nat → Bool) (hd : Bool), DataW.TrodAll enc P W' b sp hd f.resultTypes.toList (v.resultList f.resultTypes.size) (s.fn H (ds ++ gs)).results [])
    (hargs : ∀ sp : Nat → Bool, (∀ p ∈ before, sp p.block = true) → DataW.TrodAll enc P W' 0 sp true f.params.toList args.toList (s.fn H (ds ++ gs)).args pa)
    (hvars : ∀ sp : Nat → Bool, (∀ p ∈ before, sp p.block = true) → DataW.TrodVars enc P W' sp s.vars (s.fn H (ds ++ gs)).vars pv)
    (hps : before = pa ++ pv) (hb : Below W.heap.size W W')
    (hok : ∀ (j : Nat) (t : TypeId) (r : Value), f.resultTypes[j]? = some t → (v.resultList f.resultTypes.size)[j]? = some r → Value.okWide P W' .any 0 t r) :
    s.post enc P f apart fresh handsOn again W args v W' := by
  have hlt : ∀ p ∈ before, p.block < W.heap.size := fun p hp => hW.lt p hp
  have hold : ∀ p ∈ before, (fun b => decide (b < W.heap.size)) p.block = true := fun p hp => by simpa using hlt p hp
  refine ⟨ds, gs, before, [], pa, pv, hW, hres _ _ _, hargs _ hold, hvars _ hold, World.keptBut_mono (fun p hp => ⟨hp, ?_⟩) (hb.frame (· ∈ before)), fun _ => ?_⟩
  · rw [hps, List.mem_append] at hp
    exact Or.inr hp
  · obtain ⟨_, _, _, _, _, hz, hn⟩ := hW
    refine ⟨hok, _, _, ([] ++ pa) ++ pv, ⟨[] ++ pa, pv, trodAll_append (hargs _ (fun _ _ => rfl)) (hres _ _ _), hvars _ (fun _ _ => rfl), rfl, ?_, ?_⟩, ?_⟩
    · intro b off hp
      have hin : MemPlace.cell b off ∈ before := by rw [hps]; simpa using hp
      rw [hb.frozen (hlt _ hin)]
      exact hz b off hin
    · intro ha
      have := hn ha
      rw [hps] at this
      simpa using this
    · intro p hp _
      rw [hps]
      simpa using hp
theorem law_post {f : Func} {s : ChangeSpec} {apart fresh handsOn again : Bool} {W W' : World} {args : Array Value} {ds gs : List (DataW H)} {before : List MemPlace} {tb : TypeId}
    (hl : laidOutB P = true) (hr : ∀ t ∈ f.params.toList, P.readableRec t = true ∧ t < P.types.size) (hv : s.vars = []) (hres : f.resultTypes = #[tb]) (hbool : P.underlying tb = some .bool)
    (hfn : s.fn H (ds ++ gs) = { results := [.lit (.bool true)], args := ds })
    (hW : DataW.Whole enc P f.params.toList s.vars apart W args.toList ds gs before) (hb : Below W.heap.size W W') : s.post enc P f apart fresh handsOn again W args (.bool true) W' := by
  have hW' := hW
  obtain ⟨p, q, hA, hV, hbef, hfz, hnd⟩ := hW
  rw [hv] at hV
  obtain ⟨rfl, rfl⟩ := trodVars_none hV
  have hlt : ∀ x ∈ before, x.block < W.heap.size := fun x hx => hW'.lt x hx
  have hsub : ∀ x ∈ p, x ∈ before := fun x hx => by rw [hbef]; simp [hx]
  refine post_of_below (pa := p) (pv := []) hW' ?_ ?_ ?_ ?_ hb ?_
  · intro b sp hd
    rw [hfn, hres]
    exact trodAll_mk1 (shut_bool hbool true)
  · intro sp hsp
    rw [hfn]
    exact trodAll_below hl hb hr hA (fun x hx => hlt x (hsub x hx)) (fun x hx => hsp x (hsub x hx))
  · intro sp hsp
    rw [hfn, hv]; exact rfl
  · exact hbef
  · exact ok_one hres rfl (okWide_bool_mk hbool true)
end
end
end Go.IL
namespace Go.IL
theorem rd_arg_one {P : Program} {w W : World} {r : Reach} {b : Nat} {t : TypeId} {v : Value} {d : D} (hv : Value.okWide P W r b t v) (hg : aggOf P t = false) (h : RdL (Env.none w) β0 v.cells.toList [d]) : Rd (Env.none w) β0 v d := by
  refine rd_scalar h fun cs e => ?_
  subst e
  unfold aggOf at hg
  unfold Value.okWide at hv
  split at hv
  · rename_i h1; rw [h1] at hg; cases hg
  · rename_i h1; rw [h1] at hg; cases hg
  · unfold Cell.okWide at hv
    split at hv <;> simp_all [Cell.ok]
end Go.IL
open Go.RowKit Go.WideShapes Go.ChangeShapes
namespace Go.IL
end Go.IL
