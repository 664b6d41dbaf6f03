/-
  A part of the proof: rules and plain facts. No condition.
-/
import Derived.Test.YthjfhdlaockolaaIlSh
import Derived.KernelRfl
import Derived.Test.YthjfhdlaockolaaIlA34bD
set_option linter.all false
set_option linter.unusedSimpArgs false
set_option linter.unusedVariables false
open Go Go.IL
namespace Go.Fn
/-! Loops over lists, at any functions that are as the library's. -/
theorem gix_at {α : Type} {l p r : List α} {x : α} (h : l = p ++ x :: r) : gix l (p.length : Int) = some x := by
  subst h; rw [gix_nat, List.getElem?_append_right (Nat.le_refl _)]; simp
theorem lt_at {α : Type} {l p r : List α} {x : α} (h : l = p ++ x :: r) : decide ((p.length : Int) < (l.length : Int)) = true := by
  subst h; simp; omega
theorem lt_len {α : Type} {l : List α} : decide ((l.length : Int) < (l.length : Int)) = false := by simp
theorem w_at {α : Type} {l p r : List α} {x : α} (h : l = p ++ x :: r) (hl : l.length ≤ 1000000) : IntKind.wrap .i64 ((p.length : Int) + 1) = ((p ++ [x]).length : Int) := by
  subst h; simp only [List.length_append, List.length_cons, List.length_nil] at hl ⊢; rw [w64 (by omega) (by omega)]; omega
theorem next_at {α : Type} {l p r : List α} {x : α} (h : l = p ++ x :: r) : l = (p ++ [x]) ++ r := by rw [h]; simp
theorem tf : (true == false) = false := rfl
theorem ft : (false == true) = false := rfl
theorem cut_at {α : Type} {l p r : List α} (h : l = p ++ r) : cut l 0 (p.length : Int) = some p := by
  subst h; unfold cut; rw [if_pos (by simp; omega)]; simp
theorem idxf_gen {α : Type} {L : Nat → Int → Option Int} {l : List α} {q : α → Bool}
    (h1 : ∀ p x r f, l = p ++ x :: r → L (f + 1) (p.length : Int) = bif q x then some (p.length : Int) else L f ((p ++ [x]).length : Int)) (h0 : ∀ f, L (f + 1) (l.length : Int) = some (-1)) :
    ∀ (r p : List α) (f : Nat), l = p ++ r → r.length < f → (∀ y ∈ p, q y = false) →
      (L f (p.length : Int) = some (-1) ∧ ∀ y ∈ l, q y = false) ∨ ∃ a x t, l = a ++ x :: t ∧ (∀ y ∈ a, q y = false) ∧ q x = true ∧ L f (p.length : Int) = some (a.length : Int)
  | [], p, f + 1, h, _, ha => by
    left
    rw [List.append_nil] at h
    subst h
    exact ⟨h0 f, ha⟩
  | y :: r, p, f + 1, h, hf, ha => by
    rw [h1 p y r f h]
    rcases Bool.eq_false_or_eq_true (q y) with hb | hb
    · right; exact ⟨p, y, r, h, ha, hb, by rw [hb]; rfl⟩
    · rw [hb, bif_ff]
      exact idxf_gen h1 h0 r (p ++ [y]) f (next_at h) (by simpa using hf) (fun z hz => by
        rcases List.mem_append.1 hz with hz | hz
        · exact ha z hz
        · rw [List.mem_singleton.1 hz]; exact hb)
theorem idxf_any {α : Type} {L : Nat → Int → Option Int} {l : List α} {q : α → Bool} (hl : l.length ≤ 1000000)
    (h1 : ∀ p x r f, l = p ++ x :: r → L (f + 1) (p.length : Int) = bif q x then some (p.length : Int) else L f ((p ++ [x]).length : Int)) (h0 : ∀ f, L (f + 1) (l.length : Int) = some (-1)) :
    ∃ k : Int, L fuel 0 = some k ∧ decide (0 ≤ k) = l.any q := by
  rcases idxf_gen h1 h0 l [] fuel rfl (fuel_gt (by omega)) (fun _ h => (List.not_mem_nil h).elim) with ⟨h2, h3⟩ | ⟨a, x, t, h2, h3, h4, h5⟩
  · refine ⟨-1, h2, ?_⟩
    symm
    have : l.any q = false := by rw [List.any_eq_false]; intro y hy; rw [h3 y hy]; decide
    rw [this]; rfl
  · refine ⟨a.length, h5, ?_⟩
    have : l.any q = true := List.any_eq_true.2 ⟨x, by rw [h2]; simp, h4⟩
    rw [this]; exact decide_eq_true (by omega)
theorem delf_gen {α : Type} {L : Nat → List α → Int → Int → Option (List α)} {q : α → Bool}
    (h1 : ∀ (f : Nat) (l : List α) (i j : Nat) (x : α), l.length ≤ 100000 → i ≤ j → j < l.length → l[j]? = some x → L (f + 1) l (i : Int) (j : Int) = bif !q x then L f (l.set i x) ((i + 1 : Nat) : Int) ((j + 1 : Nat) : Int) else L f l (i : Int) ((j + 1 : Nat) : Int))
    (h0 : ∀ (f : Nat) (l : List α) (i : Nat), i ≤ l.length → L (f + 1) l (i : Int) (l.length : Int) = some (l.take i)) :
    ∀ (r k m : List α) (f : Nat), k.length + m.length + r.length ≤ 100000 → r.length < f →
      L f (k ++ m ++ r) (k.length : Int) ((k.length + m.length : Nat) : Int) = some (k ++ r.filter fun y => !q y)
  | [], k, m, f + 1, hl, _ => by
    have := h0 f (k ++ m) k.length (by simp)
    rw [List.append_nil, show ((k.length + m.length : Nat) : Int) = ((k ++ m).length : Int) by simp, this]; simp
  | y :: r, k, m, f + 1, hl, hf => by
    simp only [List.length_cons] at hl hf
    have hy : (k ++ m ++ y :: r)[k.length + m.length]? = some y := by
      rw [List.getElem?_append_right (by simp)]; simp
    have hlen : (k ++ m ++ y :: r).length = k.length + m.length + (r.length + 1) := by simp; omega
    rw [h1 f (k ++ m ++ y :: r) k.length (k.length + m.length) y (by omega) (by omega) (by omega) hy]
    rcases Bool.eq_false_or_eq_true (q y) with hb | hb
    · rw [hb, Bool.not_true, bif_ff, List.filter_cons_of_neg (by simp [hb])]
      have := delf_gen h1 h0 r k (m ++ [y]) f (by simp; omega) (by omega)
      rw [show k ++ m ++ y :: r = k ++ (m ++ [y]) ++ r by simp, ← this]; congr 1; simp; omega
    · rw [hb, Bool.not_false, bif_tt, List.filter_cons_of_pos (by simp [hb])]
      obtain ⟨m2, h3, h2⟩ : ∃ m2 : List α, m2.length = m.length ∧ (k ++ m ++ y :: r).set k.length y = k ++ [y] ++ m2 ++ r := by
        rw [List.append_assoc k m, List.set_append_right _ _ (Nat.le_refl _), Nat.sub_self]
        cases m with
        | nil => exact ⟨[], rfl, by simp⟩
        | cons a m => exact ⟨m ++ [y], by simp, by simp⟩
      rw [h2]
      have := delf_gen h1 h0 r (k ++ [y]) m2 f (by simp; omega) (by omega)
      rw [show k ++ y :: List.filter (fun y => !q y) r = k ++ [y] ++ List.filter (fun y => !q y) r by simp, ← this]
      congr 1 <;> simp <;> omega
theorem delf_all {α : Type} {I : Nat → Int → Option Int} {L : Nat → List α → Int → Int → Option (List α)} {l : List α} {q : α → Bool} (hl : l.length ≤ 100000)
    (i1 : ∀ p x r f, l = p ++ x :: r → I (f + 1) (p.length : Int) = bif q x then some (p.length : Int) else I f ((p ++ [x]).length : Int)) (i0 : ∀ f, I (f + 1) (l.length : Int) = some (-1))
    (h1 : ∀ (f : Nat) (l : List α) (i j : Nat) (x : α), l.length ≤ 100000 → i ≤ j → j < l.length → l[j]? = some x → L (f + 1) l (i : Int) (j : Int) = bif !q x then L f (l.set i x) ((i + 1 : Nat) : Int) ((j + 1 : Nat) : Int) else L f l (i : Int) ((j + 1 : Nat) : Int))
    (h0 : ∀ (f : Nat) (l : List α) (i : Nat), i ≤ l.length → L (f + 1) l (i : Int) (l.length : Int) = some (l.take i)) :
    (bno (I fuel 0) fun x1 => bnd (decide (x1 = (-1))) fun x2 => bif x2 then some l else bnd (IntKind.wrap .i64 (x1 + 1)) fun x4 => L fuel l x1 x4) = some (l.filter fun y => !q y) := by
  rcases idxf_gen i1 i0 l [] fuel rfl (fuel_gt (by omega)) (fun _ h => (List.not_mem_nil h).elim) with ⟨e1, e2⟩ | ⟨a, x, t, e1, e2, e3, e4⟩
  · have e1 : I fuel 0 = some (-1) := e1
    rw [e1, bnoS]
    simp only [bndD, decide_true, bif_tt]
    rw [List.filter_eq_self.2 (fun y hy => by rw [e2 y hy]; rfl)]
  · have e4 : I fuel 0 = some (a.length : Int) := e4
    have hql : a.length + (t.length + 1) ≤ 100000 := by rw [e1] at hl; simpa using hl
    rw [e4, bnoS]
    simp only [bndD, decide_eq_false (show ¬ (a.length : Int) = -1 by omega), bif_ff]
    rw [w64 (by omega) (by omega)]
    have := delf_gen h1 h0 t a [x] fuel (by simp; omega) (fuel_gt (by omega))
    rw [e1, List.filter_append, List.filter_cons_of_neg (by simp [e3]), List.filter_eq_self.2 (fun y hy => by rw [e2 y hy]; rfl), ← this]
    congr 1; simp
theorem bsf_gen {α : Type} {L : Nat → Int → Int → Option (Int × Bool)} {l : List α} {key : α → Int} {x : Int} (hl : l.length ≤ 1000000)
    (h1 : ∀ (f lo hi m : Nat) (y : α), lo < hi → hi ≤ l.length → m = (lo + hi) / 2 → l[m]? = some y → L (f + 1) (lo : Int) (hi : Int) = bif decide (key y < x) then L f ((m + 1 : Nat) : Int) (hi : Int) else L f (lo : Int) (m : Int))
    (h0 : ∀ (f lo : Nat), lo ≤ l.length → L (f + 1) (lo : Int) (lo : Int) = some ((lo : Int), decide ((l[lo]?).map key = some x))) :
    ∀ (f lo hi : Nat), hi - lo < f → lo ≤ hi → hi ≤ l.length → ∃ p : Nat, p ≤ l.length ∧ L f lo hi = some ((p : Int), decide ((l[p]?).map key = some x)) ∧
    (l.Pairwise (fun a b => key a < key b) → (∀ y ∈ l.take lo, key y < x) → (∀ y ∈ l.drop hi, x ≤ key y) → (∀ y ∈ l.take p, key y < x) ∧ (∀ y ∈ l.drop p, x ≤ key y)) := by
  intro f
  induction f with
  | zero => intro lo hi h; omega
  | succ f ih =>
    intro lo hi hf h2 h3
    by_cases hc : lo < hi
    · have hm : (lo + hi) / 2 < l.length := by omega
      rw [h1 f lo hi _ l[(lo + hi) / 2] hc h3 rfl (List.getElem?_eq_getElem hm)]
      generalize hmm : (lo + hi) / 2 = m at hm ⊢
      have hml : lo ≤ m := by omega
      have hmh : m < hi := by omega
      by_cases hx : key l[m] < x
      · rw [decide_eq_true hx, bif_tt]
        obtain ⟨p, i1, i2, i3⟩ := ih (m + 1) hi (by omega) (by omega) h3
        refine ⟨p, i1, i2, fun hp ha hb => i3 hp (fun y hy => ?_) hb⟩
        obtain ⟨j, hj, rfl⟩ := List.mem_iff_getElem.1 hy
        rw [List.length_take] at hj
        rw [List.getElem_take]
        rcases Nat.lt_or_ge j m with hjm | hjm
        · exact Int.lt_trans (List.pairwise_iff_getElem.1 hp j m (by omega) (by omega) hjm) hx
        · have : j = m := by omega
          subst this; exact hx
      · rw [decide_eq_false hx, bif_ff]
        obtain ⟨p, i1, i2, i3⟩ := ih lo m (by omega) (by omega) (by omega)
        refine ⟨p, i1, i2, fun hp ha hb => i3 hp ha (fun y hy => ?_)⟩
        obtain ⟨j, hj, rfl⟩ := List.mem_iff_getElem.1 hy
        rw [List.length_drop] at hj
        rw [List.getElem_drop]
        rcases Nat.eq_zero_or_pos j with rfl | hj0
        · simp only [Nat.add_zero]; omega
        · have := List.pairwise_iff_getElem.1 hp m (m + j) (by omega) (by omega) (by omega)
          omega
    · have : lo = hi := by omega
      subst this
      exact ⟨lo, h3, h0 f lo h3, fun _ ha hb => ⟨ha, hb⟩⟩
theorem split_key {α : Type} {l a b : List α} {key : α → Int} {x : Int} (h : l = a ++ b) (ha : ∀ y ∈ a, key y < x) (hb : ∀ y ∈ b, x ≤ key y) : a = l.filter (fun y => decide (key y < x)) ∧ b = l.filter (fun y => decide (x ≤ key y)) := by
  subst h
  rw [List.filter_append, List.filter_append, List.filter_eq_self.2 (fun y hy => decide_eq_true (ha y hy)), List.filter_eq_nil_iff.2 (fun y hy => by have := hb y hy; simp; omega), List.filter_eq_nil_iff.2 (fun y hy => by have := ha y hy; simp; omega), List.filter_eq_self.2 (fun y hy => decide_eq_true (hb y hy))]
  simp
theorem bsf_all {α : Type} {L : Nat → Int → Int → Option (Int × Bool)} {l : List α} {key : α → Int} {x : Int} (hl : l.length ≤ 1000000)
    (h1 : ∀ (f lo hi m : Nat) (y : α), lo < hi → hi ≤ l.length → m = (lo + hi) / 2 → l[m]? = some y → L (f + 1) (lo : Int) (hi : Int) = bif decide (key y < x) then L f ((m + 1 : Nat) : Int) (hi : Int) else L f (lo : Int) (m : Int))
    (h0 : ∀ (f lo : Nat), lo ≤ l.length → L (f + 1) (lo : Int) (lo : Int) = some ((lo : Int), decide ((l[lo]?).map key = some x))) (hp : l.Pairwise (fun a b => key a < key b)) :
    ∃ a b : List α, l = a ++ b ∧ a = l.filter (fun y => decide (key y < x)) ∧ b = l.filter (fun y => decide (x ≤ key y)) ∧
      ((∃ y c, b = y :: c ∧ key y = x ∧ L fuel 0 (l.length : Int) = some ((a.length : Int), true)) ∨ ((∀ y ∈ l, key y ≠ x) ∧ L fuel 0 (l.length : Int) = some ((a.length : Int), false))) := by
  obtain ⟨p, e1, e2, e3⟩ := bsf_gen hl h1 h0 fuel 0 l.length (fuel_gt (by omega)) (Nat.zero_le _) (Nat.le_refl _)
  obtain ⟨e4, e5⟩ := e3 hp (by simp) (by simp)
  obtain ⟨e6, e7⟩ := split_key (List.take_append_drop p l).symm e4 e5
  have hpl : (l.take p).length = p := by rw [List.length_take]; omega
  have e2 : L fuel 0 (l.length : Int) = _ := e2
  refine ⟨l.take p, l.drop p, (List.take_append_drop p l).symm, e6, e7, ?_⟩
  rw [hpl, e2]
  by_cases hx : (l[p]?).map key = some x
  · left
    obtain ⟨y, hy, hk⟩ := Option.map_eq_some_iff.1 hx
    have hlt : p < l.length := (List.getElem?_eq_some_iff.1 hy).1
    have hye : l[p] = y := (List.getElem?_eq_some_iff.1 hy).2
    exact ⟨y, l.drop (p + 1), by rw [← hye]; exact List.drop_eq_getElem_cons hlt, hk, by rw [decide_eq_true hx]⟩
  · right
    refine ⟨fun y hy hk => ?_, by rw [decide_eq_false hx]⟩
    rw [← List.take_append_drop p l] at hy
    rcases List.mem_append.1 hy with hy | hy
    · have := e4 y hy; omega
    · obtain ⟨j, hj, hjx⟩ := List.mem_iff_getElem.1 hy
      rw [List.length_drop] at hj
      rw [List.getElem_drop] at hjx
      rcases Nat.eq_zero_or_pos j with rfl | hj0
      · apply hx; rw [List.getElem?_eq_getElem (by omega)]; simp only [Nat.add_zero] at hjx; rw [Option.map_some, hjx, hk]
      · have h8 := List.pairwise_iff_getElem.1 hp p (p + j) (by omega) (by omega) (by omega)
        have h9 := e5 l[p] (List.mem_iff_getElem.2 ⟨0, by rw [List.length_drop]; omega, by rw [List.getElem_drop]; simp⟩)
        rw [hjx, hk] at h8; omega
theorem deleteFunc_gen {α : Type} {P : α → Option Bool} {q : α → Bool} (hP : ∀ x, P x = some (q x)) {I : Nat → Int → Option Int} {L : Nat → List α → Int → Int → Option (List α)} {l : List α}
    (hI : ∀ f v, I (f + 1) v = bnd (decide (v < (l.length : Int))) fun x14 => bif x14 then (bno (gix l v) fun x16 => bno (P x16) fun x17 => bif x17 then some v else (bnd (IntKind.wrap .i64 (v + 1)) fun x19 => I f x19)) else some (-1))
    (hL : ∀ f a b c, L (f + 1) a b c = bnd (decide (c < (a.length : Int))) fun x32 => bif x32 then (bno (gix a c) fun x34 => bno (a[(c : Int).toNat]?) fun x35 => bno (P x35) fun x36 => bif (!x36) then (bno (gix a b) fun x38 => bno (a[(b : Int).toNat]?) fun x39 =>
      bnd (a.set ((b : Int).toNat) x35) fun x40 => bnd (IntKind.wrap .i64 (b + 1)) fun x41 => bnd (IntKind.wrap .i64 (c + 1)) fun x42 => L f x40 x41 x42) else (bnd (IntKind.wrap .i64 (c + 1)) fun x43 => L f a b x43)) else (bno (cut a 0 b) fun x44 => bno (cut x44 0 b) fun x45 => some x45))
    (hl : l.length ≤ 100000) : (bno (I fuel 0) fun x1 => bnd (decide (x1 = (-1))) fun x2 => bif x2 then some l else bnd (IntKind.wrap .i64 (x1 + 1)) fun x4 => L fuel l x1 x4) = some (l.filter fun y => !q y) := by
  refine delf_all hl (fun p x r f h => by
    rw [hI]; simp only [bndD, lt_at h, bif_tt, gix_at h, bnoS, hP, w_at h (show l.length ≤ 1000000 by omega)]) (fun f => by rw [hI]; simp only [bndD, lt_len, bif_ff]) (fun f a i j x ha hij hj hx => ?_) (fun f a i hi => ?_)
  · rw [hL]
    have hi : i < a.length := by omega
    simp only [bndD, decide_eq_true (show (j : Int) < (a.length : Int) by omega), bif_tt, gix_nat, hx, bnoS, Int.toNat_natCast, hP, List.getElem?_eq_getElem hi, w64 (show -9223372036854775808 ≤ (j : Int) + 1 by omega) (by omega), w64 (show -9223372036854775808 ≤ (i : Int) + 1 by omega) (by omega)]
    rfl
  · rw [hL]
    have e : (a.take i).length = i := by rw [List.length_take]; omega
    simp only [bndD, lt_len, bif_ff]
    have h1 := cut_at (l := a) (List.take_append_drop i a).symm
    have h2 := cut_at (l := a.take i) (p := a.take i) (r := []) (by simp)
    rw [e] at h1 h2
    rw [h1, bnoS, h2, bnoS]
theorem binaryFunc_gen {α : Type} {dflt : α} {C : α → Option Int} {c : α → Int} {key : α → Int} {x : Int} {L : Nat → Int → Int → Option (Int × Bool)} {l : List α} (hC : ∀ y ∈ l, C y = some (c y)) (hc : ∀ y ∈ l, (c y < 0 ↔ key y < x) ∧ (c y = 0 ↔ key y = x))
    (hL : ∀ f a b, L (f + 1) a b = bnd (decide (a < b)) fun x25 => bif x25 then (bnd (IntKind.wrap .i64 (a + b)) fun x27 => bnd (IntKind.wrap .u64 x27) fun x28 => bno (shrI .u64 x28 1) fun x29 => bnd (IntKind.wrap .i64 x29) fun x30 => bno (gix l x30) fun x31 => bno (C x31) fun x32 =>
      bnd (decide (x32 < 0)) fun x33 => bif x33 then (bnd (IntKind.wrap .i64 (x30 + 1)) fun x35 => L f x35 b) else (L f a x30)) else (bnd (decide (a < (l.length : Int))) fun x36 => bno (gd (x36 == true) (gix l a) (dflt : α)) fun x37 => bno (gd (x36 == true) (C x37) (default : Int)) fun x38 =>
      bnd (decide (x38 = 0)) fun x39 => bnd (x36 && x39) fun x40 => some (a, x40)))
    (hl : l.length ≤ 1000000) (hp : l.Pairwise (fun a b => key a < key b)) :
    ∃ a b : List α, l = a ++ b ∧ a = l.filter (fun y => decide (key y < x)) ∧ b = l.filter (fun y => decide (x ≤ key y)) ∧
      ((∃ y c, b = y :: c ∧ key y = x ∧ L fuel 0 (l.length : Int) = some ((a.length : Int), true)) ∨ ((∀ y ∈ l, key y ≠ x) ∧ L fuel 0 (l.length : Int) = some ((a.length : Int), false))) := by
  refine bsf_all hl (fun f lo hi m y h1 h2 h3 h4 => ?_) (fun f lo h1 => ?_) hp
  · rw [hL]
    have hy : y ∈ l := List.mem_of_getElem? h4
    have e1 : shrI .u64 ((lo : Int) + (hi : Int)) 1 = some ((m : Nat) : Int) := by
      rw [shr_at (k := .u64) (b := 1) 1 rfl (by decide), h3]; congr 1
    simp only [bndD, decide_eq_true (show (lo : Int) < (hi : Int) by omega), bif_tt, w64 (show -9223372036854775808 ≤ (lo : Int) + (hi : Int) by omega) (by omega), wU64 (show 0 ≤ (lo : Int) + (hi : Int) by omega) (by omega), e1, bnoS,
      w64 (show -9223372036854775808 ≤ ((m : Nat) : Int) by omega) (by omega), gix_nat, h4, hC y hy, w64 (show -9223372036854775808 ≤ (m : Int) + 1 by omega) (by omega)]
    by_cases hx : key y < x
    · rw [decide_eq_true hx, decide_eq_true ((hc y hy).1.2 hx)]; rfl
    · rw [decide_eq_false hx, decide_eq_false (fun h => hx ((hc y hy).1.1 h))]; rfl
  · rw [hL]
    simp only [bndD, decide_eq_false (show ¬ (lo : Int) < (lo : Int) by omega), bif_ff]
    by_cases hl' : lo < l.length
    · have hy : l[lo] ∈ l := List.getElem_mem hl'
      simp only [decide_eq_true (show (lo : Int) < (l.length : Int) by omega), beq_self_eq_true, gdtt, gix_nat, List.getElem?_eq_getElem hl', bnoS, hC _ hy, Bool.true_and, Option.map_some, Option.some.injEq]
      by_cases hx : key l[lo] = x
      · rw [decide_eq_true hx, decide_eq_true ((hc _ hy).2.2 hx)]
      · rw [decide_eq_false hx, decide_eq_false (fun h => hx ((hc _ hy).2.1 h))]
    · rw [List.getElem?_eq_none (by omega)]
      simp only [decide_eq_false (show ¬ (lo : Int) < (l.length : Int) by omega), ft, gdff, bnoS, Bool.false_and, Option.map_none]
      rfl
end Go.Fn
set_option linter.unusedSimpArgs false
set_option linter.unusedVariables false
open Go Go.IL
namespace Go.Fn
/-! Fold: where a node stands; what it depends on. -/
abbrev Nd := T_ptree_Node
abbrev Fs := T_fold_State
abbrev Fo := T_fold_Op
theorem awake34 : sennitlaw34_awake = some true := by kernel_rfl
def I64 (n : Int) : Prop := -9223372036854775808 ≤ n ∧ n ≤ 9223372036854775807
theorem wrap_ne {a id : Int} (ha : 1 ≤ a ∧ a ≤ 1048576) (h : I64 id) (hn : a ≠ id) : IntKind.wrap .i64 (a - id) ≠ 0 := by
  obtain ⟨h1, h2⟩ := h
  rw [IntKind.wrap_i64]
  omega
/-- A search among what is in no order ends, too. -/
theorem bs_any {N : List Nd} (hl : N.length ≤ 1000) (hr : ∀ n ∈ N, 1 ≤ n.ID ∧ n.ID ≤ 1048576) (id : Int) (hn : ∀ n ∈ N, n.ID ≠ id) (h64 : I64 id) : ∀ (f lo hi : Nat), hi - lo < f → lo ≤ hi → hi ≤ N.length →
    ∃ p : Nat, p ≤ N.length ∧ slices_BinarySearchFunc_ptree_Node_ptree_Node_int_find_1_L0 N id f (lo : Int) (hi : Int) = some ((p : Int), false)
  | 0, lo, hi, h, _, _ => absurd h (by omega)
  | f + 1, lo, hi, h, h1, h2 => by
    rw [slices_BinarySearchFunc_ptree_Node_ptree_Node_int_find_1_L0, bndD]
    by_cases hlt : lo < hi
    · have hm : (lo + hi) / 2 < N.length := by omega
      have e1 : shrI .u64 ((lo : Int) + (hi : Int)) 1 = some (((lo + hi) / 2 : Nat) : Int) := by
        rw [shr_at (k := .u64) (b := 1) 1 rfl (by decide)]; congr 1
      have hg : N[(lo + hi) / 2]? = some N[(lo + hi) / 2] := List.getElem?_eq_getElem hm
      have hc : fold_State_find_1 N[(lo + hi) / 2] id = some (IntKind.wrap .i64 (N[(lo + hi) / 2].ID - id)) := rfl
      simp only [bndD, decide_eq_true (show (lo : Int) < (hi : Int) by omega), bif_tt, w64 (show -9223372036854775808 ≤ (lo : Int) + (hi : Int) by omega) (by omega), wU64 (show 0 ≤ (lo : Int) + (hi : Int) by omega) (by omega), e1, bnoS,
        w64 (show -9223372036854775808 ≤ (((lo + hi) / 2 : Nat) : Int) by omega) (by omega), gix_nat, hg, hc]
      by_cases hx : IntKind.wrap .i64 (N[(lo + hi) / 2].ID - id) < 0
      · rw [decide_eq_true hx, bif_tt, w64 (by omega) (by omega)]
        have := bs_any hl hr id hn h64 f ((lo + hi) / 2 + 1) hi (by omega) (by omega) h2
        exact this
      · rw [decide_eq_false hx, bif_ff]
        exact bs_any hl hr id hn h64 f lo ((lo + hi) / 2) (by omega) (by omega) (by omega)
    · refine ⟨lo, by omega, ?_⟩
      simp only [bndD, decide_eq_false (show ¬ (lo : Int) < (hi : Int) by omega), bif_ff]
      by_cases hl' : lo < N.length
      · have hg : N[lo]? = some N[lo] := List.getElem?_eq_getElem hl'
        have hc : fold_State_find_1 N[lo] id = some (IntKind.wrap .i64 (N[lo].ID - id)) := rfl
        have hmem := List.getElem_mem hl'
        have hz := wrap_ne (hr _ hmem) h64 (hn _ hmem)
        simp only [decide_eq_true (show (lo : Int) < (N.length : Int) by omega), beq_self_eq_true, gdtt, gix_nat, hg, bnoS, hc, decide_eq_false hz, Bool.and_false]
      · simp only [decide_eq_false (show ¬ (lo : Int) < (N.length : Int) by omega), ft, gdff, bnoS, Bool.false_and]
/-- What a search tells. -/
inductive Fd (N : List Nd) (id : Int) : Int × Bool → Prop
  | yes (A : List Nd) (y : Nd) (C : List Nd) (h : N = A ++ y :: C) (e : y.ID = id) (ha : ∀ a ∈ A, a.ID < id) (hc : ∀ c ∈ C, id < c.ID) : Fd N id ((A.length : Int), true)
  | no (p : Nat) (hp : p ≤ N.length) (h : ∀ n ∈ N, n.ID ≠ id) (h2 : 0 ≤ id → id ≤ 1048576 → (∀ a ∈ N.take p, a.ID < id) ∧ ∀ c ∈ N.drop p, id < c.ID) : Fd N id ((p : Int), false)
theorem find_st (st : Fs) (id : Int) {r : Int × Bool} (h : slices_BinarySearchFunc_ptree_Node_ptree_Node_int_find_1 st.Nodes id = some r) : fold_State_find st id = some r := by
  unfold fold_State_find
  rw [h, bnoS]
theorem bs_ok {N : List Nd} (hl : N.length ≤ 1000) (hr : ∀ n ∈ N, 1 ≤ n.ID ∧ n.ID ≤ 1048576) (hs : N.Pairwise (fun a b => a.ID < b.ID)) {id : Int} (h64 : I64 id) : ∃ r, slices_BinarySearchFunc_ptree_Node_ptree_Node_int_find_1 N id = some r ∧ Fd N id r := by
  by_cases hin : 0 ≤ id ∧ id ≤ 1048576
  · obtain ⟨a, b, h1, h2, h3, h4⟩ := binaryFunc_gen (dflt := (default : Nd)) (C := fun y => fold_State_find_1 y id) (c := fun y => y.ID - id) (key := fun y => y.ID) (x := id) (L := slices_BinarySearchFunc_ptree_Node_ptree_Node_int_find_1_L0 N id) (l := N)
      (fun y hy => by
        have := hr y hy
        unfold fold_State_find_1
        rw [bndD, w64 (by omega) (by omega)])
      (fun y hy => ⟨by omega, by omega⟩) (fun f a b => rfl) (by omega) hs
    have hlt : ∀ y ∈ a, y.ID < id := fun y hy => by
      rw [h2] at hy; have := (List.mem_filter.1 hy).2; simpa using this
    have hge : ∀ y ∈ b, id ≤ y.ID := fun y hy => by
      rw [h3] at hy; have := (List.mem_filter.1 hy).2; simpa using this
    rcases h4 with ⟨y, c, e1, e2, e3⟩ | ⟨e1, e2⟩
    · subst e1
      have hpw := hs
      rw [h1] at hpw
      have hpw := (List.pairwise_cons.1 (List.pairwise_append.1 hpw).2.1).1
      exact ⟨_, e3, .yes a y c h1 e2 hlt (fun z hz => by have := hpw z hz; omega)⟩
    · refine ⟨_, e2, .no a.length (by rw [h1, List.length_append]; omega) e1 (fun _ _ => ?_)⟩
      rw [h1, List.take_left, List.drop_left]
      exact ⟨hlt, fun z hz => by have := hge z hz; have := e1 z (by rw [h1]; simp [hz]); omega⟩
  · have hn : ∀ n ∈ N, n.ID ≠ id := fun n hn => by have := hr n hn; omega
    obtain ⟨p, h1, h2⟩ := bs_any hl hr id hn h64 fuel 0 N.length (fuel_gt (by omega)) (Nat.zero_le _) (Nat.le_refl _)
    exact ⟨_, h2, .no p h1 hn (fun h3 h4 => absurd ⟨h3, h4⟩ hin)⟩
def parOf (N : List Nd) (id : Int) : Option Int := (N.find? fun n => decide (n.ID = id)).map (·.Parent)
theorem par_yes {N A C : List Nd} {y : Nd} {id : Int} (h : N = A ++ y :: C) (e : y.ID = id) (ha : ∀ a ∈ A, a.ID < id) : parOf N id = some y.Parent := by
  unfold parOf
  rw [h, List.find?_append]
  have h1 : A.find? (fun n => decide (n.ID = id)) = none := List.find?_eq_none.2 (fun a hm => by have := ha a hm; simp; omega)
  rw [h1]
  simp [e]
theorem par_no {N : List Nd} {id : Int} (h : ∀ n ∈ N, n.ID ≠ id) : parOf N id = none := by
  unfold parOf
  have h1 : N.find? (fun n => decide (n.ID = id)) = none := List.find?_eq_none.2 (fun a hm => by have := h a hm; simpa using this)
  rw [h1]; rfl
/-- What a node depends on, as far as this goes. -/
def pathS (N : List Nd) : Nat → Int → List Int
  | 0, _ => []
  | k + 1, id => match parOf N id with
    | some p => if p = 0 then [] else p :: pathS N k p
    | none => []
structure Ok34 (N : List Nd) : Prop where
  ln : N.length ≤ 1000
  ra : ∀ n ∈ N, 1 ≤ n.ID ∧ n.ID ≤ 1048576
  so : N.Pairwise (fun a b => a.ID < b.ID)
  pa : ∀ n ∈ N, I64 n.Parent
theorem find34 {st : Fs} (h : Ok34 st.Nodes) {id : Int} (h64 : I64 id) : ∃ r, fold_State_find st id = some r ∧ Fd st.Nodes id r := by
  obtain ⟨r, h1, h2⟩ := bs_ok h.ln h.ra h.so h64
  exact ⟨r, find_st st id h1, h2⟩
theorem path_L {st : Fs} (h : Ok34 st.Nodes) : ∀ (k f i : Nat) (id : Int) (acc : List Int), I64 id → i + k = st.Nodes.length → k < f → acc.length = i → fold_State_path_h_L0 st f id acc (i : Int) = some (acc ++ pathS st.Nodes k id)
  | k, 0, _, _, _, _, _, hf, _ => absurd hf (by omega)
  | 0, f + 1, i, id, acc, h64, hi, hf, ha => by
    rw [fold_State_path_h_L0, bndD, decide_eq_false (by omega), bif_ff]
    unfold pathS; rw [List.append_nil]
  | k + 1, f + 1, i, id, acc, h64, hi, hf, ha => by
    have hln := h.ln
    obtain ⟨r, h1, h2⟩ := find34 h h64
    rw [fold_State_path_h_L0, bndD, decide_eq_true (by omega), bif_tt, h1, bnoS]
    unfold pathS
    cases h2 with
    | yes A y C hN he hA hC =>
      have hg : gix st.Nodes (A.length : Int) = some y := gix_at hN
      have hy : y ∈ st.Nodes := by rw [hN]; simp
      rw [par_yes hN he hA]
      simp only [Bool.not_true, beq_self_eq_true, gdtt, hg, bnoS, bndD, Bool.false_or]
      by_cases hp : y.Parent = 0
      · rw [decide_eq_true hp, bif_tt]
        simp only [hp, if_true, List.append_nil]
      · rw [decide_eq_false hp, bif_ff]
        simp only [if_neg hp]
        rw [app_ok (by simp; omega) (by simp; omega), bnoS, w64 (by omega) (by omega)]
        have := path_L h k f (i + 1) y.Parent (acc ++ [y.Parent]) (h.pa y hy) (by omega) (by omega) (by rw [List.length_append, List.length_singleton]; omega)
        rw [show ((i : Int) + 1) = ((i + 1 : Nat) : Int) by omega, this, List.append_assoc]
        rfl
    | no p hp hn _ =>
      rw [par_no hn]
      simp only [Bool.not_false, tf, gdff, bnoS, bndD, Bool.true_or, bif_tt, List.append_nil]
theorem path34 {st : Fs} (h : Ok34 st.Nodes) {id : Int} (h64 : I64 id) : fold_State_path_h st id = some (pathS st.Nodes st.Nodes.length id) := by
  have hln := h.ln
  have := path_L h st.Nodes.length fuel 0 id [] h64 (by omega) (fuel_gt (by omega)) rfl
  rw [List.nil_append] at this
  exact this
end Go.Fn
set_option linter.unusedSimpArgs false
set_option linter.unusedVariables false
open Go Go.IL
namespace Go.Fn
/-! Fold: states that may be. -/
theorem cmem {α : Type} {P : α → Option Bool} {q : α → Bool} {I : Nat → Int → Option Int} {l : List α} (hP : ∀ x ∈ l, P x = some (q x))
    (hI : ∀ f v, I (f + 1) v = bnd (decide (v < (l.length : Int))) fun x14 => bif x14 then (bno (gix l v) fun x16 => bno (P x16) fun x17 => bif x17 then some v else (bnd (IntKind.wrap .i64 (v + 1)) fun x19 => I f x19)) else some (-1))
    (hl : l.length ≤ 1000000) : (bno (I fuel 0) fun x1 => bnd (decide (0 ≤ x1)) fun x2 => some x2) = some (l.any q) := by
  obtain ⟨k, h1, h2⟩ := idxf_any (L := I) (q := q) hl (fun p x r f h => by
    rw [hI]; simp only [bndD, lt_at h, bif_tt, gix_at h, bnoS, hP x (by rw [h]; simp), w_at h hl]) (fun f => by rw [hI]; simp only [bndD, lt_len, bif_ff])
  rw [h1, bnoS, bndD, h2]
theorem cint {l : List Int} {x : Int} (hl : l.length ≤ 1000000) : slices_Contains_int_int l x = some (decide (x ∈ l)) := by
  unfold slices_Contains_int_int slices_Index_int_int
  have := cmem (P := fun y => some (decide (x = y))) (q := fun y => decide (x = y)) (I := slices_Index_int_int_L0 l x) (l := l) (fun _ _ => rfl) (fun f v => rfl) hl
  rw [this]
  congr 1
  rw [Bool.eq_iff_iff, List.any_eq_true]
  simp
/-- A list without doubles is no longer than one that has all of it. -/
theorem nodup_le : ∀ {l m : List Int}, l.Nodup → (∀ x ∈ l, x ∈ m) → l.length ≤ m.length
  | [], m, _, _ => Nat.zero_le _
  | x :: l, m, hn, hs => by
    obtain ⟨h1, h2⟩ := List.nodup_cons.1 hn
    have hx := hs x (by simp)
    have := nodup_le (l := l) (m := m.erase x) h2 (fun y hy => by
      have hne : y ≠ x := fun e => h1 (e ▸ hy)
      exact (List.mem_erase_of_ne hne).2 (hs y (by simp [hy])))
    rw [List.length_erase_of_mem hx] at this
    have hp : 0 < m.length := List.length_pos_of_mem hx
    simp only [List.length_cons]; omega
theorem ids_nodup {N : List Nd} (h : N.Pairwise (fun a b => a.ID < b.ID)) : (N.map (·.ID)).Nodup := by
  unfold List.Nodup
  rw [List.pairwise_map]
  exact h.imp (fun h => by omega)
structure FV (K : Int) (st : Fs) : Prop where
  rm : st.Room = 24
  kp : st.Keep = K ∧ 0 ≤ K ∧ K ≤ 24
  ln : st.Nodes.length ≤ 24
  el : (st.Ended.length : Int) ≤ K
  so : st.Nodes.Pairwise (fun a b => a.ID < b.ID)
  ra : ∀ n ∈ st.Nodes, (1 ≤ n.ID ∧ n.ID ≤ 1048576) ∧ 1 ≤ n.Weight ∧ n.Weight ≤ 256
  pa : ∀ n ∈ st.Nodes, n.Parent = 0 ∨ ∃ m ∈ st.Nodes, m.ID = n.Parent
  rk : ∃ r : Int → Nat, ∀ n ∈ st.Nodes, n.Parent ≠ 0 → r n.Parent < r n.ID
  en : ∀ n ∈ st.Nodes, (n.Closed = true ↔ n.ID ∈ st.Ended)
  nd : st.Ended.Nodup
  es : ∀ e ∈ st.Ended, ∃ n ∈ st.Nodes, n.ID = e
theorem FV.ok {K : Int} {st : Fs} (h : FV K st) : Ok34 st.Nodes :=
  ⟨by have := h.ln; omega, fun n hn => (h.ra n hn).1, h.so, fun n hn => by
    rcases h.pa n hn with e | ⟨m, hm, e⟩
    · rw [e]; exact ⟨by decide, by decide⟩
    · have := (h.ra m hm).1; exact ⟨by omega, by omega⟩⟩
theorem uniq34 {N : List Nd} (h : N.Pairwise (fun a b => a.ID < b.ID)) {a b : Nd} (ha : a ∈ N) (hb : b ∈ N) (e : a.ID = b.ID) : a = b := by
  obtain ⟨A, C, rfl⟩ := List.append_of_mem ha
  have hp := List.pairwise_append.1 h
  have hp2 := List.pairwise_cons.1 hp.2.1
  rcases List.mem_append.1 hb with hb | hb
  · have := hp.2.2 b hb a (by simp); omega
  · rcases List.mem_cons.1 hb with hb | hb
    · exact hb.symm
    · have := hp2.1 b hb; omega
theorem par_mem {N : List Nd} {id p : Int} (h : parOf N id = some p) : ∃ n ∈ N, n.ID = id ∧ n.Parent = p := by
  unfold parOf at h
  cases hf : N.find? (fun n => decide (n.ID = id)) with
  | none => rw [hf] at h; cases h
  | some n =>
    rw [hf] at h
    have h1 := List.find?_some hf
    exact ⟨n, List.mem_of_find?_eq_some hf, by simpa using h1, by simpa using h⟩
theorem par_of {N : List Nd} (h : N.Pairwise (fun a b => a.ID < b.ID)) {n : Nd} (hn : n ∈ N) : parOf N n.ID = some n.Parent := by
  obtain ⟨A, C, rfl⟩ := List.append_of_mem hn
  have hp := List.pairwise_append.1 h
  exact par_yes rfl rfl (fun a ha => hp.2.2 a ha n (by simp))
theorem path_rank {N : List Nd} {r : Int → Nat} (h : ∀ n ∈ N, n.Parent ≠ 0 → r n.Parent < r n.ID) : ∀ (k : Nat) (id x : Int), x ∈ pathS N k id → r x < r id
  | 0, _, _, hx => (List.not_mem_nil hx).elim
  | k + 1, id, x, hx => by
    unfold pathS at hx
    cases hp : parOf N id with
    | none => rw [hp] at hx; exact (List.not_mem_nil hx).elim
    | some p =>
      rw [hp] at hx
      obtain ⟨n, hn, e1, e2⟩ := par_mem hp
      by_cases hz : p = 0
      · simp only [hz, if_true] at hx; exact (List.not_mem_nil hx).elim
      · simp only [if_neg hz] at hx
        have h1 := h n hn (by rw [e2]; exact hz)
        rw [e1, e2] at h1
        rcases List.mem_cons.1 hx with rfl | hx
        · exact h1
        · have := path_rank h k p x hx; omega
theorem path_len (N : List Nd) : ∀ (k : Nat) (id : Int), (pathS N k id).length ≤ k
  | 0, _ => Nat.le_refl _
  | k + 1, id => by
    unfold pathS
    cases parOf N id with
    | none => exact Nat.zero_le _
    | some p =>
      have := path_len N k p
      simp only
      split
      · exact Nat.zero_le _
      · rw [List.length_cons]; omega
theorem round_no {K : Int} {st : Fs} (h : FV K st) : slices_ContainsFunc_ptree_Node_ptree_Node_round st.Nodes st = some false := by
  obtain ⟨r, hr⟩ := h.rk
  have hln := h.ln
  unfold slices_ContainsFunc_ptree_Node_ptree_Node_round slices_IndexFunc_ptree_Node_ptree_Node_round
  have := cmem (P := fun y => fold_State_round st y) (q := fun _ => false) (I := slices_IndexFunc_ptree_Node_ptree_Node_round_L0 st.Nodes st) (l := st.Nodes) (fun n hn => by
    have hp := path_len st.Nodes st.Nodes.length n.ID
    have h64 : I64 n.ID := by have := (h.ra n hn).1; exact ⟨by omega, by omega⟩
    have hni : ¬ n.ID ∈ pathS st.Nodes st.Nodes.length n.ID := fun hm => by have := path_rank hr _ _ _ hm; omega
    unfold fold_State_round
    rw [path34 h.ok h64, bnoS, cint (by omega), bnoS, decide_eq_false hni]) (fun f v => rfl) (by omega)
  rw [this]
  congr 1
  rw [List.any_eq_false]; simp
theorem find_mem {K : Int} {st : Fs} (h : FV K st) {n : Nd} (hn : n ∈ st.Nodes) : ∃ A C, st.Nodes = A ++ n :: C ∧ fold_State_find st n.ID = some ((A.length : Int), true) := by
  have h64 : I64 n.ID := by have := (h.ra n hn).1; exact ⟨by omega, by omega⟩
  obtain ⟨r, h1, h2⟩ := find34 h.ok h64
  cases h2 with
  | yes A y C hN he hA hC =>
    have : y = n := uniq34 h.so (by rw [hN]; simp) hn he
    subst this
    exact ⟨A, C, hN, h1⟩
  | no p hp hno _ => exact absurd rfl (hno n hn)
theorem lost_no {K : Int} {st : Fs} (h : FV K st) : slices_ContainsFunc_ptree_Node_ptree_Node_lost st.Nodes st = some false := by
  have hln := h.ln
  unfold slices_ContainsFunc_ptree_Node_ptree_Node_lost slices_IndexFunc_ptree_Node_ptree_Node_lost
  have := cmem (P := fun y => fold_State_lost st y) (q := fun _ => false) (I := slices_IndexFunc_ptree_Node_ptree_Node_lost_L0 st.Nodes st) (l := st.Nodes) (fun n hn => by
    unfold fold_State_lost
    rcases h.pa n hn with e | ⟨m, hm, e⟩
    · obtain ⟨r, h1, _⟩ := find34 h.ok (id := n.Parent) (h.ok.pa n hn)
      rw [h1, bnoS]
      simp only [bndD, decide_eq_true e, Bool.not_true, Bool.false_and]
    · obtain ⟨A, C, _, h1⟩ := find_mem h hm
      rw [e] at h1
      rw [h1, bnoS]
      simp only [bndD, Bool.not_true, Bool.and_false]) (fun f v => rfl) (by omega)
  rw [this]
  congr 1
  rw [List.any_eq_false]; simp
theorem wrong_no {K : Int} {st : Fs} (h : FV K st) : slices_ContainsFunc_ptree_Node_ptree_Node_wrong st.Nodes = some false := by
  have hln := h.ln
  unfold slices_ContainsFunc_ptree_Node_ptree_Node_wrong slices_IndexFunc_ptree_Node_ptree_Node_wrong
  have := cmem (P := fold_wrong) (q := fun _ => false) (I := slices_IndexFunc_ptree_Node_ptree_Node_wrong_L0 st.Nodes) (l := st.Nodes) (fun n hn => by
    obtain ⟨⟨h1, h2⟩, h3, h4⟩ := h.ra n hn
    unfold fold_wrong
    simp only [bndD, decide_eq_false (show ¬ n.ID < 1 by omega), decide_eq_false (show ¬ 1048576 < n.ID by omega), decide_eq_false (show ¬ n.Weight < 1 by omega), decide_eq_false (show ¬ 256 < n.Weight by omega), Bool.or_self]) (fun f v => rfl) (by omega)
  rw [this]
  congr 1
  rw [List.any_eq_false]; simp
theorem closed_len {K : Int} {st : Fs} (h : FV K st) : (st.Nodes.filter (·.Closed)).length = st.Ended.length := by
  have h1 : ((st.Nodes.filter (·.Closed)).map (·.ID)).Nodup := ids_nodup (List.Pairwise.sublist List.filter_sublist h.so)
  have h2 := nodup_le h1 (m := st.Ended) (fun x hx => by
    obtain ⟨n, hn, rfl⟩ := List.mem_map.1 hx
    obtain ⟨hn, hc⟩ := List.mem_filter.1 hn
    exact (h.en n hn).1 hc)
  have h3 := nodup_le h.nd (m := (st.Nodes.filter (·.Closed)).map (·.ID)) (fun x hx => by
    obtain ⟨n, hn, e⟩ := h.es x hx
    exact List.mem_map.2 ⟨n, List.mem_filter.2 ⟨hn, (h.en n hn).2 (by rw [e]; exact hx)⟩, e⟩)
  rw [List.length_map] at h2 h3
  omega
theorem ended_L {K : Int} {st : Fs} (h : FV K st) : ∀ (r p : List Nd) (f : Nat), st.Nodes = p ++ r → r.length < f → fold_State_ended_L0 st f ((p.filter (·.Closed)).length : Int) (p.length : Int) = some true
  | [], p, f + 1, hN, _ => by
    have hc := closed_len h
    rw [List.append_nil] at hN
    rw [fold_State_ended_L0]
    rw [hN] at hc
    simp only [bndD, hN, lt_len, bif_ff]
    rw [decide_eq_true (congrArg (Nat.cast (R := Int)) hc)]
  | n :: r, p, f + 1, hN, hf => by
    have hln := h.ln
    have hn : n ∈ st.Nodes := by rw [hN]; simp
    have hel := h.el
    have hk := h.kp
    have hpl : p.length ≤ 24 := by rw [hN] at hln; simp at hln; omega
    have hfl := List.length_filter_le (·.Closed) p
    have hrec := ended_L h r (p ++ [n]) f (next_at hN) (by simpa using hf)
    have hcon := cint (l := st.Ended) (x := n.ID) (by omega)
    have hen := h.en n hn
    rw [fold_State_ended_L0]
    simp only [bndD, lt_at hN, bif_tt, gix_at hN, bnoS]
    rw [List.filter_append] at hrec
    cases hC : n.Closed
    · have : ¬ n.ID ∈ st.Ended := fun hm => by have := hen.2 hm; rw [hC] at this; cases this
      rw [decide_eq_false this] at hcon
      have e : [n].filter (·.Closed) = [] := by simp [hC]
      rw [e, List.append_nil] at hrec
      simp only [bif_ff]
      unfold fold_State_ended_J1
      simp only [hcon, bnoS, bndD, hC, beq_self_eq_true, Bool.not_true, bif_ff, w_at hN (show st.Nodes.length ≤ 1000000 by omega)]
      exact hrec
    · have : n.ID ∈ st.Ended := hen.1 hC
      rw [decide_eq_true this] at hcon
      have e : [n].filter (·.Closed) = [n] := by simp [hC]
      rw [e] at hrec
      simp only [bif_tt]
      unfold fold_State_ended_J1
      simp only [hcon, bnoS, bndD, hC, beq_self_eq_true, Bool.not_true, bif_ff, w_at hN (show st.Nodes.length ≤ 1000000 by omega), w64 (show -9223372036854775808 ≤ ((p.filter (·.Closed)).length : Int) + 1 by omega) (by omega)]
      rw [List.length_append, List.length_singleton] at hrec
      exact hrec
theorem check_L {K : Int} {st : Fs} (h : FV K st) : ∀ (r p : List Nd) (x : Nd) (f : Nat), st.Nodes = (p ++ [x]) ++ r → r.length < f → fold_Check_L0 st f ((p ++ [x]).length : Int) = some 0
  | [], p, x, f + 1, hN, _ => by
    have hend := ended_L h st.Nodes [] fuel rfl (fuel_gt (by have := h.ln; omega))
    rw [List.append_nil] at hN
    rw [fold_Check_L0]
    have hend : fold_State_ended st = some true := hend
    simp only [bndD, ← hN, lt_len, bif_ff, lost_no h, round_no h, hend, bnoS, Bool.not_true]
  | n :: r, p, x, f + 1, hN, hf => by
    have hln := h.ln
    have hpl : (p ++ [x]).length ≤ 24 := by rw [hN] at hln; simp at hln ⊢; omega
    have hlt : x.ID < n.ID := by
      have := h.so; rw [hN] at this
      exact (List.pairwise_append.1 this).2.2 x (by simp) n (by simp)
    have e1 : ((p ++ [x]).length : Int) - 1 = (p.length : Int) := by rw [List.length_append, List.length_singleton]; omega
    have hg1 : gix st.Nodes (p.length : Int) = some x := gix_at (l := st.Nodes) (r := n :: r) (by rw [hN, List.append_assoc]; rfl)
    have hrec := check_L h r (p ++ [x]) n f (by rw [hN]; simp) (by simpa using hf)
    rw [fold_Check_L0]
    simp only [bndD, lt_at hN, bif_tt, e1, w64 (show -9223372036854775808 ≤ (p.length : Int) by omega) (by rw [List.length_append] at hpl; omega), hg1, gix_at hN, bnoS, decide_eq_false (show ¬ n.ID ≤ x.ID by omega), bif_ff, w_at hN (show st.Nodes.length ≤ 1000000 by omega)]
    exact hrec
theorem check34 {K : Int} {st : Fs} (h : FV K st) : fold_Check st = some 0 := by
  have hrm := h.rm; have hkp := h.kp; have hln := h.ln; have hel := h.el
  have hL : fold_Check_L0 st fuel 1 = some 0 := by
    cases hN : st.Nodes with
    | nil =>
      have hend := ended_L h st.Nodes [] fuel rfl (fuel_gt (by omega))
      have hend : fold_State_ended st = some true := hend
      obtain ⟨m, hm⟩ : ∃ m, fuel = m + 1 := ⟨2 ^ 64 - 1, by show 2 ^ 64 = _; omega⟩
      have hlo := lost_no h; have hro := round_no h
      rw [hm, fold_Check_L0]
      rw [hN] at hlo hro
      simp only [bndD, hN, List.length_nil, show decide ((1 : Int) < ((0 : Nat) : Int)) = false from rfl, bif_ff, hlo, hro, hend, bnoS, Bool.not_true]
    | cons x r =>
      have := check_L h r [] x fuel (by rw [hN]; rfl) (fuel_gt (by rw [hN] at hln; simp at hln; omega))
      exact this
  unfold fold_Check
  simp only [bndD, decide_eq_false (show ¬ st.Room < 1 by omega), decide_eq_false (show ¬ 24 < st.Room by omega), decide_eq_false (show ¬ st.Keep < 0 by omega), decide_eq_false (show ¬ st.Room < st.Keep by omega), Bool.or_self, beq_self_eq_true, gdtt, wrong_no h, bnoS, bif_ff, decide_eq_false (show ¬ st.Room < (st.Nodes.length : Int) by omega), decide_eq_false (show ¬ st.Keep < (st.Ended.length : Int) by omega), hL]
end Go.Fn
set_option linter.unusedSimpArgs false
set_option linter.unusedVariables false
open Go Go.IL
namespace Go.Fn
/-! Fold: who is removed. -/
theorem get_app {α : Type} {l p r : List α} {x : α} (h : l = p ++ x :: r) : l[((p.length : Nat) : Int).toNat]? = some x := by
  rw [Int.toNat_natCast, h, List.getElem?_append_right (Nat.le_refl _)]; simp
theorem set_app {α : Type} {p r : List α} {x y : α} : (p ++ x :: r).set ((p.length : Nat) : Int).toNat y = p ++ y :: r := by
  rw [Int.toNat_natCast, List.set_append_right _ _ (Nat.le_refl _)]; simp
/-- The weights of those that depend on a node at once; how many they are. -/
def sumS : List Nd → Int → Int
  | [], _ => 0
  | n :: r, id => (if n.Parent = id then n.Weight else 0) + sumS r id
theorem sum_app : ∀ (a b : List Nd) (id : Int), sumS (a ++ b) id = sumS a id + sumS b id
  | [], b, id => by show sumS b id = 0 + sumS b id; omega
  | n :: a, b, id => by
    have := sum_app a b id
    show _ + sumS (a ++ b) id = _ + sumS a id + sumS b id
    omega
theorem sum_nn : ∀ {N : List Nd}, (∀ n ∈ N, 1 ≤ n.Weight ∧ n.Weight ≤ 256) → ∀ id, 0 ≤ sumS N id ∧ sumS N id ≤ 256 * N.length
  | [], _, _ => ⟨Int.le_refl _, Int.le_refl _⟩
  | n :: r, h, id => by
    have h1 := sum_nn (N := r) (fun x hx => h x (by simp [hx])) id
    have h2 := h n (by simp)
    have e : sumS (n :: r) id = (if n.Parent = id then n.Weight else 0) + sumS r id := rfl
    rw [e, List.length_cons]
    split <;> omega
theorem sum_ge : ∀ {N : List Nd} {n : Nd}, (∀ x ∈ N, 1 ≤ x.Weight ∧ x.Weight ≤ 256) → n ∈ N → n.Weight ≤ sumS N n.Parent
  | m :: r, n, h, hn => by
    have h1 := sum_nn (N := r) (fun x hx => h x (by simp [hx])) n.Parent
    have e : sumS (m :: r) n.Parent = (if m.Parent = n.Parent then m.Weight else 0) + sumS r n.Parent := rfl
    rw [e]
    rcases List.mem_cons.1 hn with rfl | hn
    · rw [if_pos rfl]; omega
    · have h2 := sum_ge (N := r) (fun x hx => h x (by simp [hx])) hn
      have h3 := h m (by simp)
      split <;> omega
theorem sum_L {st : Fs} (hl : st.Nodes.length ≤ 1000) (hw : ∀ n ∈ st.Nodes, 1 ≤ n.Weight ∧ n.Weight ≤ 256) (id : Int) : ∀ (r p : List Nd) (f : Nat), st.Nodes = p ++ r → r.length < f → fold_State_sum_L0 st id f (sumS p id) (p.length : Int) = some (sumS st.Nodes id)
  | [], p, f + 1, hN, _ => by
    rw [List.append_nil] at hN
    rw [fold_State_sum_L0]
    simp only [bndD, hN, lt_len, bif_ff]
  | n :: r, p, f + 1, hN, hf => by
    have hp := sum_nn (N := p) (fun x hx => hw x (by rw [hN]; simp [hx])) id
    have hpl : p.length ≤ 1000 := by rw [hN] at hl; simp at hl; omega
    have hn := hw n (by rw [hN]; simp)
    have hrec := sum_L hl hw id r (p ++ [n]) f (next_at hN) (by simpa using hf)
    have e1 : sumS [n] id = (if n.Parent = id then n.Weight else 0) + 0 := rfl
    rw [sum_app, e1] at hrec
    rw [fold_State_sum_L0]
    simp only [bndD, lt_at hN, bif_tt, gix_at hN, bnoS, w_at hN (show st.Nodes.length ≤ 1000000 by omega)]
    by_cases hq : n.Parent = id
    · rw [if_pos hq, Int.add_zero] at hrec
      rw [decide_eq_true hq, bif_tt, w64 (by omega) (by omega)]
      exact hrec
    · rw [if_neg hq, Int.add_zero, Int.add_zero] at hrec
      rw [decide_eq_false hq, bif_ff]
      exact hrec
theorem sum34 {st : Fs} (hl : st.Nodes.length ≤ 1000) (hw : ∀ n ∈ st.Nodes, 1 ≤ n.Weight ∧ n.Weight ≤ 256) (id : Int) : fold_State_sum st id = some (sumS st.Nodes id) :=
  sum_L hl hw id st.Nodes [] fuel rfl (fuel_gt (by omega))
/-- What a node becomes when another one goes. -/
def offN (y : Nd) (S : Int) (n : Nd) : Nd := if n.Parent = y.ID then ⟨n.ID, y.Parent, max (y.Weight * n.Weight / S) 1, n.Closed⟩ else n
theorem offN_id (y : Nd) (S : Int) (n : Nd) : (offN y S n).ID = n.ID := by unfold offN; split <;> rfl
theorem offN_closed (y : Nd) (S : Int) (n : Nd) : (offN y S n).Closed = n.Closed := by unfold offN; split <;> rfl
theorem off_L {a0 a1 : Int} {E : List Int} {y : Nd} {M : List Nd} {E' : List Int} (hl : M.length ≤ 1000) (hw : ∀ n ∈ M, 1 ≤ n.Weight ∧ n.Weight ≤ 256) (hy : 1 ≤ y.Weight ∧ y.Weight ≤ 256) (hE : slices_DeleteFunc_int_int_h_off_1 E y.ID = some E') : ∀ (r p : List Nd) (f : Nat), M = p ++ r → r.length < f →
    fold_State_off_h_L0 a0 a1 y.ID E y M (sumS M y.ID) f (p.length : Int) (p.map (offN y (sumS M y.ID)) ++ r) = some (a0, a1, M.map (offN y (sumS M y.ID)), E')
  | [], p, f + 1, hM, _ => by
    rw [List.append_nil] at hM
    rw [fold_State_off_h_L0]
    simp only [bndD, hM, lt_len, bif_ff, hE, bnoS, List.append_nil]
  | n :: r, p, f + 1, hM, hf => by
    have hn : n ∈ M := by rw [hM]; simp
    have hwn := hw n hn
    have hrec := off_L (a0 := a0) (a1 := a1) hl hw hy hE r (p ++ [n]) f (next_at hM) (by simpa using hf)
    have hlen : (p.map (offN y (sumS M y.ID))).length = p.length := List.length_map ..
    generalize hq : p.map (offN y (sumS M y.ID)) = P at *
    have hg : gix (P ++ n :: r) (p.length : Int) = some n := by rw [← hlen]; exact gix_at rfl
    have hg2 : ∀ z : Nd, (P ++ z :: r)[((p.length : Nat) : Int).toNat]? = some z := fun z => by rw [← hlen]; exact get_app rfl
    have hset : ∀ z w : Nd, (P ++ z :: r).set ((p.length : Nat) : Int).toNat w = P ++ w :: r := fun z w => by rw [← hlen]; exact set_app
    rw [fold_State_off_h_L0]
    simp only [bndD, lt_at hM, bif_tt, hg, hg2, bnoS, w_at hM (show M.length ≤ 1000000 by omega)]
    rw [List.map_append, hq, List.append_assoc] at hrec
    have eo : [n].map (offN y (sumS M y.ID)) ++ r = offN y (sumS M y.ID) n :: r := rfl
    rw [eo] at hrec
    by_cases hp : n.Parent = y.ID
    · have hge := sum_ge hw hn
      rw [hp] at hge
      have h1 : 1 ≤ y.Weight * n.Weight := by
        have := Int.mul_le_mul hy.1 hwn.1 (by decide) (by omega)
        simpa using this
      have h2 : y.Weight * n.Weight ≤ 65536 := by
        have := Int.mul_le_mul hy.2 hwn.2 (by omega) (by decide)
        simpa using this
      have hd0 : 0 ≤ y.Weight * n.Weight / sumS M y.ID := Int.ediv_nonneg (by omega) (by omega)
      have hd1 : y.Weight * n.Weight / sumS M y.ID ≤ y.Weight * n.Weight := Int.ediv_le_self _ (by omega)
      have hquo : quoI .i64 (y.Weight * n.Weight) (sumS M y.ID) = some (y.Weight * n.Weight / sumS M y.ID) := by
        unfold quoI
        rw [if_neg (by omega), Int.tdiv_eq_ediv_of_nonneg (by omega), w64 (by omega) (by omega)]
      have eo2 : offN y (sumS M y.ID) n = ⟨n.ID, y.Parent, max (y.Weight * n.Weight / sumS M y.ID) 1, n.Closed⟩ := by unfold offN; rw [if_pos hp]
      rw [eo2] at hrec
      simp only [decide_eq_true hp, bif_tt, w64 (show -9223372036854775808 ≤ y.Weight * n.Weight by omega) (by omega), hquo, bnoS, hset, hg2]
      exact hrec
    · have eo2 : offN y (sumS M y.ID) n = n := by unfold offN; rw [if_neg hp]
      rw [eo2] at hrec
      simp only [decide_eq_false hp, bif_ff]
      exact hrec
theorem del34 {E : List Int} {id : Int} (hl : E.length ≤ 100000) : slices_DeleteFunc_int_int_h_off_1 E id = some (E.filter fun y => !decide (y = id)) :=
  deleteFunc_gen (P := fun x => fold_State_off_1 x id) (q := fun y => decide (y = id)) (I := slices_IndexFunc_int_int_off_1_L0 E id) (L := slices_DeleteFunc_int_int_h_off_1_L0 id) (fun _ => rfl) (fun _ _ => rfl) (fun _ _ _ _ => rfl) hl
def offS (A : List Nd) (y : Nd) (C : List Nd) : List Nd := (A ++ C).map (offN y (sumS (A ++ C) y.ID))
theorem off34 {K : Int} {st : Fs} (h : FV K st) {id : Int} (hid : ∃ n ∈ st.Nodes, n.ID = id) : ∃ A y C, st.Nodes = A ++ y :: C ∧ y.ID = id ∧ fold_State_off_h st.Room st.Keep id st.Nodes st.Ended = some (st.Room, st.Keep, offS A y C, st.Ended.filter fun y => !decide (y = id)) := by
  obtain ⟨y, hy, rfl⟩ := hid
  obtain ⟨A, C, hN, hf⟩ := find_mem h hy
  have hln := h.ln; have hel := h.el; have hkp := h.kp
  have hra := h.ra
  have hlen : A.length + C.length + 1 ≤ 24 := by rw [hN] at hln; simp at hln; omega
  have hdel : slices_Delete_ptree_Node_ptree_Node_h (A.length : Int) ((A.length : Int) + 1) st.Nodes = some (A ++ C) := by
    unfold slices_Delete_ptree_Node_ptree_Node_h
    rw [delS_ok (by omega) (by omega) (by rw [hN]; simp; omega), hN]
    congr 1
    have e1 : ((A.length : Int)).toNat = A.length := by omega
    have e2 : ((A.length : Int) + 1).toNat = A.length + 1 := by omega
    rw [e1, e2, List.take_left, List.drop_append]
    simp
  have hw : ∀ n ∈ A ++ C, 1 ≤ n.Weight ∧ n.Weight ≤ 256 := fun n hn => (hra n (by rw [hN]; rcases List.mem_append.1 hn with hn | hn <;> simp [hn])).2
  have hl : (A ++ C).length ≤ 1000 := by rw [List.length_append]; omega
  have hsum := sum34 (st := ⟨st.Room, st.Keep, A ++ C, st.Ended⟩) hl hw y.ID
  have hoff := off_L (a0 := st.Room) (a1 := st.Keep) (E := st.Ended) (y := y) (M := A ++ C) hl hw (hra y hy).2 (del34 (by omega)) (A ++ C) [] fuel rfl (fuel_gt (by omega))
  refine ⟨A, y, C, hN, rfl, ?_⟩
  have hfs : fold_State_find ⟨st.Room, st.Keep, st.Nodes, st.Ended⟩ y.ID = some ((A.length : Int), true) := hf
  unfold fold_State_off_h
  rw [hfs, bnoS, gix_at hN, bnoS, get_app hN, bnoS, bndD, w64 (by omega) (by omega), hdel, bnoS, hsum, bnoS]
  exact hoff
theorem fv_off {K : Int} {st : Fs} (h : FV K st) {A C : List Nd} {y : Nd} (hN : st.Nodes = A ++ y :: C) : FV K ⟨st.Room, st.Keep, offS A y C, st.Ended.filter fun e => !decide (e = y.ID)⟩ := by
  obtain ⟨r, hr⟩ := h.rk
  have hso := h.so
  rw [hN] at hso
  have hp := List.pairwise_append.1 hso
  have hp2 := List.pairwise_cons.1 hp.2.1
  have hmem : ∀ n, n ∈ A ++ C → n ∈ st.Nodes ∧ n.ID ≠ y.ID := fun n hn => by
    rcases List.mem_append.1 hn with hn | hn
    · exact ⟨by rw [hN]; simp [hn], by have := hp.2.2 n hn y (by simp); omega⟩
    · exact ⟨by rw [hN]; simp [hn], by have := hp2.1 n hn; omega⟩
  have hback : ∀ n ∈ st.Nodes, n.ID ≠ y.ID → n ∈ A ++ C := fun n hn hne => by
    rw [hN] at hn
    rcases List.mem_append.1 hn with hn | hn
    · exact List.mem_append.2 (.inl hn)
    · rcases List.mem_cons.1 hn with rfl | hn
      · exact absurd rfl hne
      · exact List.mem_append.2 (.inr hn)
  have hy : y ∈ st.Nodes := by rw [hN]; simp
  have hw : ∀ n ∈ A ++ C, 1 ≤ n.Weight ∧ n.Weight ≤ 256 := fun n hn => (h.ra n (hmem n hn).1).2
  have hln := h.ln
  have himg : ∀ m ∈ offS A y C, ∃ n ∈ A ++ C, m = offN y (sumS (A ++ C) y.ID) n := fun m hm => by
    obtain ⟨n, hn, e⟩ := List.mem_map.1 hm
    exact ⟨n, hn, e.symm⟩
  have hin : ∀ n ∈ A ++ C, ∃ m ∈ offS A y C, m.ID = n.ID := fun n hn => ⟨_, List.mem_map.2 ⟨n, hn, rfl⟩, offN_id _ _ _⟩
  have hyp : y.Parent ≠ y.ID := fun e => by
    have hyr := (h.ra y hy).1
    have := hr y hy (by omega)
    rw [e] at this; omega
  refine ⟨h.rm, h.kp, ?_, ?_, ?_, fun m hm => ?_, fun m hm => ?_, ⟨r, fun m hm hz => ?_⟩, fun m hm => ?_, ?_, fun e he => ?_⟩
  · show (offS A y C).length ≤ 24
    unfold offS; rw [List.length_map, List.length_append]
    rw [hN] at hln; simp at hln; omega
  · show ((st.Ended.filter _).length : Int) ≤ K
    have := List.length_filter_le (fun e => !decide (e = y.ID)) st.Ended
    have := h.el; omega
  · show (offS A y C).Pairwise _
    unfold offS
    rw [List.pairwise_map]
    have : (A ++ C).Pairwise (fun a b => a.ID < b.ID) := List.pairwise_append.2 ⟨hp.1, hp2.2, fun a ha b hb => hp.2.2 a ha b (by simp [hb])⟩
    exact this.imp (fun hab => by rw [offN_id, offN_id]; exact hab)
  · obtain ⟨n, hn, rfl⟩ := himg m hm
    have hnr := h.ra n (hmem n hn).1
    unfold offN
    split
    · rename_i hpar
      refine ⟨hnr.1, ?_⟩
      have hge := sum_ge hw hn
      rw [hpar] at hge
      have hyw := (h.ra y hy).2
      have hd : y.Weight * n.Weight / sumS (A ++ C) y.ID ≤ y.Weight := by
        apply Int.ediv_le_of_le_mul (by omega)
        exact Int.mul_le_mul_of_nonneg_left hge (by omega)
      show 1 ≤ max (y.Weight * n.Weight / sumS (A ++ C) y.ID) 1 ∧ max (y.Weight * n.Weight / sumS (A ++ C) y.ID) 1 ≤ 256
      omega
    · exact hnr
  · obtain ⟨n, hn, rfl⟩ := himg m hm
    obtain ⟨hn1, hn2⟩ := hmem n hn
    have key : ∀ p : Int, p ≠ y.ID → (p = 0 ∨ ∃ m ∈ st.Nodes, m.ID = p) → (p = 0 ∨ ∃ m ∈ offS A y C, m.ID = p) := fun p hpy hh => by
      rcases hh with hh | ⟨q, hq, e⟩
      · exact .inl hh
      · obtain ⟨z, hz, ez⟩ := hin q (hback q hq (by rw [e]; exact hpy))
        exact .inr ⟨z, hz, ez.trans e⟩
    unfold offN
    split
    · exact key y.Parent hyp (h.pa y hy)
    · rename_i hpar
      exact key n.Parent hpar (h.pa n hn1)
  · obtain ⟨n, hn, rfl⟩ := himg m hm
    obtain ⟨hn1, hn2⟩ := hmem n hn
    rw [offN_id]
    unfold offN at hz ⊢
    split
    · rename_i hpar
      rw [if_pos hpar] at hz
      have hz : y.Parent ≠ 0 := hz
      have h1 := hr y hy hz
      have hyr := (h.ra y hy).1
      have h2 := hr n hn1 (by rw [hpar]; omega)
      rw [hpar] at h2
      show r y.Parent < r n.ID
      omega
    · rename_i hpar
      rw [if_neg hpar] at hz
      exact hr n hn1 hz
  · obtain ⟨n, hn, rfl⟩ := himg m hm
    obtain ⟨hn1, hn2⟩ := hmem n hn
    rw [offN_closed, offN_id]
    have := h.en n hn1
    show _ ↔ n.ID ∈ st.Ended.filter _
    rw [List.mem_filter, this]
    simp [hn2]
  · exact h.nd.filter _
  · obtain ⟨he1, he2⟩ := List.mem_filter.1 he
    have he2 : e ≠ y.ID := by simpa using he2
    obtain ⟨n, hn, en⟩ := h.es e he1
    obtain ⟨z, hz, ez⟩ := hin n (hback n hn (by rw [en]; exact he2))
    exact ⟨z, hz, ez.trans en⟩
end Go.Fn
set_option linter.unusedSimpArgs false
set_option linter.unusedVariables false
open Go Go.IL
namespace Go.Fn
/-! Fold: who hangs on whom; nobody on itself in the end. -/
/-- At or below a node. -/
inductive Anc (N : List Nd) (x : Int) : Int → Prop
  | here : Anc N x x
  | up (n : Nd) (hn : n ∈ N) (hx : n.ID ≠ x) (hp : n.Parent ≠ 0) (h : Anc N x n.Parent) : Anc N x n.ID
/-- Below a place, not by way of 'x'. -/
inductive Blw (N : List Nd) (x d : Int) : Int → Prop
  | child (n : Nd) (hn : n ∈ N) (hx : n.ID ≠ x) (hp : n.Parent = d) : Blw N x d n.ID
  | up (n : Nd) (hn : n ∈ N) (hx : n.ID ≠ x) (hp : n.Parent ≠ 0) (h : Blw N x d n.Parent) : Blw N x d n.ID
def Rk (N : List Nd) (x : Int) (r : Int → Nat) : Prop := ∀ n ∈ N, n.ID ≠ x → n.Parent ≠ 0 → r n.Parent < r n.ID
theorem anc_rank {N : List Nd} {x : Int} {r : Int → Nat} (h : Rk N x r) {z : Int} (ha : Anc N x z) : z = x ∨ r x < r z := by
  induction ha with
  | here => exact .inl rfl
  | up n hn hx hp _ ih =>
    have := h n hn hx hp
    rcases ih with e | e
    · rw [e] at this; exact .inr this
    · exact .inr (by omega)
theorem anc_node {N : List Nd} {x z : Int} (ha : Anc N x z) : z = x ∨ ∃ n ∈ N, n.ID = z := by
  cases ha with
  | here => exact .inl rfl
  | up n hn _ _ _ => exact .inr ⟨n, hn, rfl⟩
theorem blw_rank {N : List Nd} {x d : Int} {r : Int → Nat} (h : Rk N x r) (hd : d ≠ 0) {z : Int} (ha : Blw N x d z) : r d < r z := by
  induction ha with
  | child n hn hx hp => have := h n hn hx (by rw [hp]; exact hd); rw [hp] at this; exact this
  | up n hn hx hp _ ih => have := h n hn hx hp; omega
theorem anc_par {N : List Nd} (hs : N.Pairwise (fun a b => a.ID < b.ID)) {x : Int} {n : Nd} (hn : n ∈ N) (hx : n.ID ≠ x) (ha : Anc N x n.ID) : Anc N x n.Parent := by
  generalize hz : n.ID = z at ha
  cases ha with
  | here => exact absurd hz hx
  | up m hm hmx hmp h =>
    have : m = n := uniq34 hs hm hn hz.symm
    subst this; exact h
theorem blw_par {N : List Nd} (hs : N.Pairwise (fun a b => a.ID < b.ID)) {x d : Int} {n : Nd} (hn : n ∈ N) (ha : Blw N x d n.ID) : n.Parent = d ∨ Blw N x d n.Parent := by
  generalize hz : n.ID = z at ha
  cases ha with
  | child m hm hmx hmp =>
    have : m = n := uniq34 hs hm hn hz.symm
    subst this; exact .inl hmp
  | up m hm hmx hmp h =>
    have : m = n := uniq34 hs hm hn hz.symm
    subst this; exact .inr h
/-- What a node becomes when 'x' hangs on 'd'. -/
def hangN (x d w : Int) (only : Bool) (n : Nd) : Nd := if n.ID = x then ⟨n.ID, d, w, n.Closed⟩ else if only = true ∧ n.Parent = d then ⟨n.ID, x, n.Weight, n.Closed⟩ else n
theorem hangN_id (x d w : Int) (o : Bool) (n : Nd) : (hangN x d w o n).ID = n.ID := by unfold hangN; split; rfl; split <;> rfl
theorem hangN_closed (x d w : Int) (o : Bool) (n : Nd) : (hangN x d w o n).Closed = n.Closed := by unfold hangN; split; rfl; split <;> rfl
theorem hang_rank {N : List Nd} (hs : N.Pairwise (fun a b => a.ID < b.ID)) {x d w : Int} {o : Bool} {r : Int → Nat} (h : Rk N x r) (hx0 : x ≠ 0) (hz : ∀ n ∈ N, n.ID ≠ 0) (hd : d ≠ 0 → ¬ Anc N x d) : ∃ r' : Int → Nat, ∀ m ∈ N.map (hangN x d w o), m.Parent ≠ 0 → r' m.Parent < r' m.ID := by
  classical
  refine ⟨fun z => if Anc N x z then r z + (r x + r d + 1) else if Blw N x d z then r z + 2 * (r x + r d + 1) else r z, fun m hm hp => ?_⟩
  obtain ⟨n, hn, rfl⟩ := List.mem_map.1 hm
  rw [hangN_id]
  have hxa : Anc N x x := .here
  have hnb : d ≠ 0 → ¬ Blw N x d d := fun h0 hb => by have := blw_rank h h0 hb; omega
  by_cases hx : n.ID = x
  · -- the node itself
    have e : (hangN x d w o n).Parent = d := by unfold hangN; rw [if_pos hx]
    rw [e] at hp ⊢
    rw [hx]
    simp only [if_neg (hd hp), if_neg (hnb hp), if_pos hxa]
    omega
  · by_cases ho : o = true ∧ n.Parent = d
    · have e : (hangN x d w o n).Parent = x := by unfold hangN; rw [if_neg hx, if_pos ho]
      rw [e]
      have hb : Blw N x d n.ID := .child n hn hx ho.2
      have hna : ¬ Anc N x n.ID := fun ha => by
        have h1 := anc_par hs hn hx ha
        rw [ho.2] at h1
        by_cases h0 : d = 0
        · rw [h0] at h1
          rcases anc_node h1 with e | ⟨q, hq, e⟩
          · exact hx0 e.symm
          · exact hz q hq e
        · exact hd h0 h1
      simp only [if_pos hxa, if_neg hna, if_pos hb]
      omega
    · have e : hangN x d w o n = n := by unfold hangN; rw [if_neg hx, if_neg ho]
      rw [e] at hp ⊢
      have hr := h n hn hx hp
      by_cases ha : Anc N x n.ID
      · have h1 := anc_par hs hn hx ha
        simp only [if_pos ha, if_pos h1]
        omega
      · have h1 : ¬ Anc N x n.Parent := fun h1 => ha (.up n hn hx hp h1)
        by_cases hb : Blw N x d n.ID
        · rcases blw_par hs hn hb with h2 | h2
          · have hd0 : d ≠ 0 := by rw [← h2]; exact hp
            have h3 : ¬ Blw N x d n.Parent := by rw [h2]; exact hnb hd0
            simp only [if_neg ha, if_neg h1, if_pos hb, if_neg h3]
            omega
          · simp only [if_neg ha, if_neg h1, if_pos hb, if_pos h2]
            omega
        · have h2 : ¬ Blw N x d n.Parent := fun h2 => hb (.up n hn hx hp h2)
          simp only [if_neg ha, if_neg h1, if_neg hb, if_neg h2]
          omega
/-- What a path tells: who depends on whom. -/
theorem path_anc {N : List Nd} (hs : N.Pairwise (fun a b => a.ID < b.ID)) {x : Int} : ∀ (k : Nat) (z : Int), z ≠ x → x ∈ pathS N k z → x ≠ 0 → Anc N x z
  | 0, _, _, hx, _ => (List.not_mem_nil hx).elim
  | k + 1, z, hzx, hx, h0 => by
    unfold pathS at hx
    cases hp : parOf N z with
    | none => rw [hp] at hx; exact (List.not_mem_nil hx).elim
    | some p =>
      rw [hp] at hx
      obtain ⟨n, hn, e1, e2⟩ := par_mem hp
      by_cases hq : p = 0
      · simp only [hq, if_true] at hx; exact (List.not_mem_nil hx).elim
      · simp only [if_neg hq] at hx
        subst e1 e2
        by_cases hpx : n.Parent = x
        · exact .up n hn hzx hq (by rw [hpx]; exact .here)
        · rcases List.mem_cons.1 hx with e | hx
          · exact absurd e.symm hpx
          · exact .up n hn hzx hq (path_anc hs k n.Parent hpx hx h0)
theorem path_more {N : List Nd} : ∀ (k : Nat) (z x : Int), x ∈ pathS N k z → x ∈ pathS N (k + 1) z
  | 0, _, _, hx => (List.not_mem_nil hx).elim
  | k + 1, z, x, hx => by
    unfold pathS at hx ⊢
    cases hp : parOf N z with
    | none => rw [hp] at hx; exact (List.not_mem_nil hx).elim
    | some p =>
      rw [hp] at hx
      by_cases hq : p = 0
      · simp only [hq, if_true] at hx; exact (List.not_mem_nil hx).elim
      · simp only [if_neg hq] at hx ⊢
        rcases List.mem_cons.1 hx with e | hx
        · rw [e]; exact List.mem_cons_self
        · exact List.mem_cons_of_mem _ (path_more k p x hx)
theorem path_stop {N : List Nd} : ∀ (k : Nat) (z : Int), (pathS N k z).length < k → pathS N (k + 1) z = pathS N k z
  | 0, _, h => absurd h (by omega)
  | k + 1, z, h => by
    rw [pathS] at h
    rw [pathS, pathS]
    cases hp : parOf N z with
    | none => rfl
    | some p =>
      rw [hp] at h
      by_cases hq : p = 0
      · simp only [hq, if_true]
      · simp only [if_neg hq, List.length_cons] at h ⊢
        rw [path_stop k p (by omega)]
theorem anc_path {N : List Nd} (hs : N.Pairwise (fun a b => a.ID < b.ID)) {x z : Int} (h : Anc N x z) : z = x ∨ ∃ k, x ∈ pathS N k z := by
  induction h with
  | here => exact .inl rfl
  | up n hn hx hp _ ih =>
    right
    rcases ih with e | ⟨k, hk⟩
    · refine ⟨1, ?_⟩
      rw [pathS, par_of hs hn]
      simp only [if_neg hp]
      rw [e]; exact List.mem_cons_self
    · refine ⟨k + 1, ?_⟩
      rw [pathS, par_of hs hn]
      simp only [if_neg hp]
      exact List.mem_cons_of_mem _ hk
/-- A path without a place twice is shorter than all there are. -/
theorem path_short {N : List Nd} (hs : N.Pairwise (fun a b => a.ID < b.ID)) {r : Int → Nat} (hr : ∀ n ∈ N, n.Parent ≠ 0 → r n.Parent < r n.ID) (hpa : ∀ n ∈ N, n.Parent = 0 ∨ ∃ m ∈ N, m.ID = n.Parent) : ∀ (k : Nat) (z : Int), (∃ n ∈ N, n.ID = z) → (z :: pathS N k z).Nodup ∧ ∀ y ∈ z :: pathS N k z, y ∈ N.map (·.ID)
  | 0, z, ⟨n, hn, e⟩ => ⟨by simp [pathS], fun y hy => by
    rcases List.mem_cons.1 hy with rfl | hy
    · exact List.mem_map.2 ⟨n, hn, e⟩
    · exact (List.not_mem_nil hy).elim⟩
  | k + 1, z, ⟨n, hn, e⟩ => by
    subst e
    have hz : n.ID ∈ N.map (·.ID) := List.mem_map.2 ⟨n, hn, rfl⟩
    have hnot : ¬ n.ID ∈ pathS N (k + 1) n.ID := fun hm => by have := path_rank hr (k + 1) _ _ hm; omega
    refine ⟨List.nodup_cons.2 ⟨hnot, ?_⟩, fun y hy => ?_⟩
    · rw [pathS, par_of hs hn]
      by_cases hq : n.Parent = 0
      · simp only [if_pos hq]; exact List.nodup_nil
      · simp only [if_neg hq]
        rcases hpa n hn with e | ⟨m, hm, e⟩
        · exact absurd e hq
        · exact (path_short hs hr hpa k n.Parent ⟨m, hm, e⟩).1
    · rcases List.mem_cons.1 hy with rfl | hy
      · exact hz
      · rw [pathS, par_of hs hn] at hy
        by_cases hq : n.Parent = 0
        · simp only [if_pos hq] at hy; exact (List.not_mem_nil hy).elim
        · simp only [if_neg hq] at hy
          rcases hpa n hn with e | ⟨m, hm, e⟩
          · exact absurd e hq
          · exact (path_short hs hr hpa k n.Parent ⟨m, hm, e⟩).2 y hy
theorem path_full {N : List Nd} (hs : N.Pairwise (fun a b => a.ID < b.ID)) {r : Int → Nat} (hr : ∀ n ∈ N, n.Parent ≠ 0 → r n.Parent < r n.ID) (hpa : ∀ n ∈ N, n.Parent = 0 ∨ ∃ m ∈ N, m.ID = n.Parent) {z : Int} (hz : ∃ n ∈ N, n.ID = z) : ∀ (j : Nat), pathS N (N.length + j) z = pathS N N.length z
  | 0 => rfl
  | j + 1 => by
    have h1 := path_full hs hr hpa hz j
    obtain ⟨h2, h3⟩ := path_short hs hr hpa N.length z hz
    have h4 := nodup_le h2 h3
    rw [List.length_cons, List.length_map] at h4
    have := path_stop (N := N) (N.length + j) z (by rw [h1]; omega)
    rw [show N.length + (j + 1) = N.length + j + 1 by omega, this, h1]
theorem path_mono {N : List Nd} (k : Nat) (z x : Int) (h : x ∈ pathS N k z) : ∀ j, x ∈ pathS N (k + j) z
  | 0 => h
  | j + 1 => path_more _ _ _ (path_mono k z x h j)
/-- 'x' is not told by a path: it is not above. -/
theorem not_anc {N : List Nd} (hs : N.Pairwise (fun a b => a.ID < b.ID)) {r : Int → Nat} (hr : ∀ n ∈ N, n.Parent ≠ 0 → r n.Parent < r n.ID) (hpa : ∀ n ∈ N, n.Parent = 0 ∨ ∃ m ∈ N, m.ID = n.Parent) {x z : Int} (hz : ∃ n ∈ N, n.ID = z) (hzx : z ≠ x) (h : ¬ x ∈ pathS N N.length z) : ¬ Anc N x z := fun ha => by
  rcases anc_path hs ha with e | ⟨k, hk⟩
  · exact hzx e
  · have h1 := path_mono k z x hk N.length
    rw [show k + N.length = N.length + k by omega, path_full hs hr hpa hz k] at h1
    exact h h1
end Go.Fn
set_option linter.unusedSimpArgs false
set_option linter.unusedVariables false
open Go Go.IL
namespace Go.Fn
/-! Fold: hang. -/
theorem path_Lb {a0 a1 : Int} {N : List Nd} {E : List Int} (h : Ok34 N) : ∀ (k f i : Nat) (id : Int) (acc : List Int), I64 id → i + k = N.length → k < f → acc.length = i → fold_State_path_h_v2_L0 a0 a1 N E f id acc (i : Int) = some (acc ++ pathS N k id)
  | k, 0, _, _, _, _, _, hf, _ => absurd hf (by omega)
  | 0, f + 1, i, id, acc, h64, hi, hf, ha => by
    rw [fold_State_path_h_v2_L0, bndD, decide_eq_false (by omega), bif_ff]
    unfold pathS; rw [List.append_nil]
  | k + 1, f + 1, i, id, acc, h64, hi, hf, ha => by
    have hln := h.ln
    obtain ⟨r, h1, h2⟩ := find34 (st := ⟨a0, a1, N, E⟩) h h64
    have h2 : Fd N id r := h2
    rw [fold_State_path_h_v2_L0, bndD, decide_eq_true (by omega), bif_tt, h1, bnoS]
    unfold pathS
    cases h2 with
    | yes A y C hN he hA hC =>
      have hg : gix N (A.length : Int) = some y := gix_at hN
      have hg2 : N[((A.length : Nat) : Int).toNat]? = some y := get_app hN
      have hy : y ∈ N := by rw [hN]; simp
      rw [par_yes hN he hA]
      simp only [Bool.not_true, beq_self_eq_true, gdtt, hg, hg2, bnoS, bndD, Bool.false_or]
      by_cases hp : y.Parent = 0
      · rw [decide_eq_true hp, bif_tt]
        simp only [hp, if_true, List.append_nil]
      · rw [decide_eq_false hp, bif_ff]
        simp only [if_neg hp]
        rw [app_ok (by simp; omega) (by simp; omega), bnoS, w64 (by omega) (by omega)]
        have := path_Lb (a0 := a0) (a1 := a1) (E := E) h k f (i + 1) y.Parent (acc ++ [y.Parent]) (h.pa y hy) (by omega) (by omega) (by rw [List.length_append, List.length_singleton]; omega)
        rw [show ((i : Int) + 1) = ((i + 1 : Nat) : Int) by omega, this, List.append_assoc]
        rfl
    | no p hp hn _ =>
      rw [par_no hn]
      simp only [Bool.not_false, tf, gdff, bnoS, bndD, Bool.true_or, bif_tt, List.append_nil]
theorem path34b {a0 a1 : Int} {N : List Nd} {E : List Int} (h : Ok34 N) {id : Int} (h64 : I64 id) : fold_State_path_h_v2 a0 a1 id N E = some (pathS N N.length id) := by
  have hln := h.ln
  have := path_Lb (a0 := a0) (a1 := a1) (E := E) h N.length fuel 0 id [] h64 (by omega) (fuel_gt (by omega)) rfl
  rw [List.nil_append] at this
  exact this
def onlyN (x d : Int) (o : Bool) (n : Nd) : Nd := if (o && decide (n.Parent = d) && !decide (n.ID = x)) = true then ⟨n.ID, x, n.Weight, n.Closed⟩ else n
theorem apart34 {A C : List Nd} {y : Nd} (hs : (A ++ y :: C).Pairwise (fun a b => a.ID < b.ID)) : (∀ a ∈ A, a.ID ≠ y.ID) ∧ ∀ c ∈ C, c.ID ≠ y.ID := by
  have hp := List.pairwise_append.1 hs
  have hp2 := List.pairwise_cons.1 hp.2.1
  exact ⟨fun a ha => by have := hp.2.2 a ha y (by simp); omega, fun c hc => by have := hp2.1 c hc; omega⟩
theorem only_hang {x d w : Int} {o : Bool} {l : List Nd} (h : ∀ n ∈ l, n.ID ≠ x) : l.map (onlyN x d o) = l.map (hangN x d w o) := by
  apply List.map_congr_left
  intro n hn
  have := h n hn
  unfold onlyN hangN
  rw [if_neg this, decide_eq_false this]
  cases o <;> simp
theorem hang_L {a0 a1 : Int} {op : Fo} {E : List Int} {v6 v7 : Int} {v8 : Bool} {M A C : List Nd} {y : Nd} (hM : M = A ++ y :: C) (hs : M.Pairwise (fun a b => a.ID < b.ID)) (hl : M.length ≤ 1000) (hy : y.ID = op.ID) : ∀ (r p : List Nd) (f : Nat), M = p ++ r → r.length < f →
    fold_State_hang_h_L2 a0 a1 op E v6 v7 v8 ((A.length : Int), true) M f (p.length : Int) (p.map (onlyN op.ID v6 v8) ++ r) = some (a0, a1, M.map (hangN op.ID v6 v7 v8), E)
  | [], p, f + 1, hp, _ => by
    rw [List.append_nil] at hp
    subst hp
    have hs2 := hs
    rw [hM] at hs2
    obtain ⟨hA, hC⟩ := apart34 hs2
    rw [hy] at hA hC
    have e1 : M.map (onlyN op.ID v6 v8) ++ [] = A.map (hangN op.ID v6 v7 v8) ++ y :: C.map (hangN op.ID v6 v7 v8) := by
      rw [List.append_nil, hM, List.map_append, List.map_cons, only_hang (w := v7) hA, only_hang (w := v7) hC]
      congr 2
      unfold onlyN
      rw [hy]; simp
    have e2 : M.map (hangN op.ID v6 v7 v8) = A.map (hangN op.ID v6 v7 v8) ++ (⟨y.ID, v6, v7, y.Closed⟩ : Nd) :: C.map (hangN op.ID v6 v7 v8) := by
      rw [hM, List.map_append, List.map_cons]
      congr 2
      unfold hangN
      rw [if_pos hy]
    have hlen : (A.map (hangN op.ID v6 v7 v8)).length = A.length := List.length_map ..
    rw [fold_State_hang_h_L2]
    simp only [bndD, lt_len, bif_ff]
    rw [e1, e2]
    generalize A.map (hangN op.ID v6 v7 v8) = P at *
    generalize C.map (hangN op.ID v6 v7 v8) = Q at *
    have hg : ∀ z : Nd, gix (P ++ z :: Q) (A.length : Int) = some z := fun z => by rw [← hlen]; exact gix_at rfl
    have hg2 : ∀ z : Nd, (P ++ z :: Q)[((A.length : Nat) : Int).toNat]? = some z := fun z => by rw [← hlen]; exact get_app rfl
    have hset : ∀ z w : Nd, (P ++ z :: Q).set ((A.length : Nat) : Int).toNat w = P ++ w :: Q := fun z w => by rw [← hlen]; exact set_app
    simp only [hg, hg2, hset, bnoS]
  | n :: r, p, f + 1, hp, hf => by
    have hrec := hang_L (a0 := a0) (a1 := a1) (op := op) (E := E) (v6 := v6) (v7 := v7) (v8 := v8) hM hs hl hy r (p ++ [n]) f (next_at hp) (by simpa using hf)
    have hlen : (p.map (onlyN op.ID v6 v8)).length = p.length := List.length_map ..
    rw [List.map_append, List.append_assoc] at hrec
    have eo : [n].map (onlyN op.ID v6 v8) ++ r = onlyN op.ID v6 v8 n :: r := rfl
    rw [eo] at hrec
    generalize p.map (onlyN op.ID v6 v8) = P at *
    have hg : gix (P ++ n :: r) (p.length : Int) = some n := by rw [← hlen]; exact gix_at rfl
    have hg2 : (P ++ n :: r)[((p.length : Nat) : Int).toNat]? = some n := by rw [← hlen]; exact get_app rfl
    have hset : ∀ w : Nd, (P ++ n :: r).set ((p.length : Nat) : Int).toNat w = P ++ w :: r := fun w => by rw [← hlen]; exact set_app
    rw [fold_State_hang_h_L2]
    simp only [bndD, lt_at hp, bif_tt, hg, hg2, bnoS, w_at hp (show M.length ≤ 1000000 by omega)]
    cases h8 : v8
    · have e : onlyN op.ID v6 v8 n = n := by unfold onlyN; rw [h8]; simp
      rw [e, h8] at hrec
      simp only [ft, gdff, bnoS, Bool.false_and, bif_ff]
      exact hrec
    · simp only [beq_self_eq_true, gdtt, bnoS, Bool.true_and]
      by_cases hq : n.Parent = v6
      · simp only [decide_eq_true hq, beq_self_eq_true, gdtt, bnoS, Bool.true_and]
        by_cases hx : n.ID = op.ID
        · have e : onlyN op.ID v6 v8 n = n := by unfold onlyN; rw [hx]; simp
          rw [e, h8] at hrec
          simp only [decide_eq_true hx, Bool.not_true, bif_ff]
          exact hrec
        · have e : onlyN op.ID v6 v8 n = ⟨n.ID, op.ID, n.Weight, n.Closed⟩ := by unfold onlyN; rw [h8, decide_eq_true hq, decide_eq_false hx]; rfl
          rw [e, h8] at hrec
          simp only [decide_eq_false hx, Bool.not_false, bif_tt, hset]
          exact hrec
      · have e : onlyN op.ID v6 v8 n = n := by unfold onlyN; rw [decide_eq_false hq]; simp
        rw [e, h8] at hrec
        simp only [decide_eq_false hq, ft, gdff, bnoS, Bool.false_and, bif_ff]
        exact hrec
def mvN (d p : Int) (n : Nd) : Nd := if n.ID = d then ⟨n.ID, p, n.Weight, n.Closed⟩ else n
theorem mvN_id (d p : Int) (n : Nd) : (mvN d p n).ID = n.ID := by unfold mvN; split <;> rfl
theorem map_mv {A C : List Nd} {y : Nd} {p : Int} (hs : (A ++ y :: C).Pairwise (fun a b => a.ID < b.ID)) : (A ++ y :: C).map (mvN y.ID p) = A ++ (⟨y.ID, p, y.Weight, y.Closed⟩ : Nd) :: C := by
  obtain ⟨hA, hC⟩ := apart34 hs
  rw [List.map_append, List.map_cons]
  have e1 : A.map (mvN y.ID p) = A := by
    conv => rhs; rw [← List.map_id A]
    exact List.map_congr_left (fun a ha => by unfold mvN; rw [if_neg (hA a ha)]; rfl)
  have e2 : C.map (mvN y.ID p) = C := by
    conv => rhs; rw [← List.map_id C]
    exact List.map_congr_left (fun a ha => by unfold mvN; rw [if_neg (hC a ha)]; rfl)
  rw [e1, e2]
  congr 2
  unfold mvN; rw [if_pos rfl]
theorem anc_child {N : List Nd} {x z : Int} (h : Anc N x z) : z = x ∨ ∃ n ∈ N, n.ID ≠ x ∧ n.Parent = x := by
  induction h with
  | here => exact .inl rfl
  | up n hn hx hp _ ih =>
    right
    rcases ih with e | e
    · exact ⟨n, hn, hx, e⟩
    · exact e
/-- What may hang on another one. -/
structure HP (N : List Nd) (x : Int) (r : Int → Nat) : Prop where
  ok : Ok34 N
  xm : ∃ n ∈ N, n.ID = x
  ra : ∀ n ∈ N, 1 ≤ n.Weight ∧ n.Weight ≤ 256
  pa : ∀ n ∈ N, n.ID ≠ x → n.Parent = 0 ∨ ∃ m ∈ N, m.ID = n.Parent
  rk : Rk N x r
  xs : ((∀ n ∈ N, n.Parent ≠ 0 → r n.Parent < r n.ID) ∧ ∀ n ∈ N, n.Parent = 0 ∨ ∃ m ∈ N, m.ID = n.Parent) ∨ ∀ n ∈ N, n.ID ≠ x → n.Parent ≠ x
structure Hung (N : List Nd) (g : Nd → Nd) : Prop where
  id : ∀ n, (g n).ID = n.ID
  cl : ∀ n, (g n).Closed = n.Closed
  ra : ∀ n ∈ N, 1 ≤ (g n).Weight ∧ (g n).Weight ≤ 256
  pa : ∀ n ∈ N, (g n).Parent = 0 ∨ ∃ m ∈ N, m.ID = (g n).Parent
  rk : ∃ r : Int → Nat, ∀ m ∈ N.map g, m.Parent ≠ 0 → r m.Parent < r m.ID
theorem hung_of {N : List Nd} {x d w : Int} {o : Bool} {r : Int → Nat} (h : HP N x r) (hw : 1 ≤ w ∧ w ≤ 256) (hd : d ≠ 0 → (∃ m ∈ N, m.ID = d) ∧ ¬ Anc N x d) : Hung N (hangN x d w o) := by
  obtain ⟨y, hy, hyx⟩ := h.xm
  have hyr := h.ok.ra y hy
  refine ⟨hangN_id x d w o, hangN_closed x d w o, fun n hn => ?_, fun n hn => ?_, hang_rank h.ok.so h.rk (by omega) (fun n hn => by have := h.ok.ra n hn; omega) (fun h0 => (hd h0).2)⟩
  · have := h.ra n hn
    unfold hangN
    split
    · exact hw
    · split <;> exact this
  · unfold hangN
    split
    · by_cases h0 : d = 0
      · exact .inl h0
      · exact .inr (hd h0).1
    · rename_i hx
      split
      · exact .inr ⟨y, hy, hyx⟩
      · exact h.pa n hn hx
end Go.Fn
set_option linter.unusedSimpArgs false
set_option linter.unusedVariables false
open Go Go.IL
namespace Go.Fn
/-! Fold: hang, whole. -/
theorem find_b {R K : Int} {N : List Nd} {E : List Int} (h : Ok34 N) {id : Int} (h64 : I64 id) : ∃ r, fold_State_find ⟨R, K, N, E⟩ id = some r ∧ Fd N id r := find34 (st := ⟨R, K, N, E⟩) h h64
theorem find_at {R K : Int} {N : List Nd} {E : List Int} (h : Ok34 N) {id : Int} (hx : ∃ n ∈ N, n.ID = id) : ∃ A y C, N = A ++ y :: C ∧ y.ID = id ∧ fold_State_find ⟨R, K, N, E⟩ id = some ((A.length : Int), true) := by
  obtain ⟨n, hn, e⟩ := hx
  have hr := h.ra n hn
  obtain ⟨r, h1, h2⟩ := find_b (R := R) (K := K) (E := E) h (id := id) ⟨by omega, by omega⟩
  cases h2 with
  | yes A y C hN he _ _ => exact ⟨A, y, C, hN, he, h1⟩
  | no p hp hno _ => exact absurd e (hno n hn)
theorem hang_end {R K : Int} {op : Fo} {E : List Int} {v6 v7 : Int} {v8 : Bool} {M A C : List Nd} {y : Nd} (hM : M = A ++ y :: C) (hs : M.Pairwise (fun a b => a.ID < b.ID)) (hl : M.length ≤ 1000) (hy : y.ID = op.ID) : fold_State_hang_h_J1 R K op E v6 v7 v8 ((A.length : Int), true) M = some (R, K, M.map (hangN op.ID v6 v7 v8), E) :=
  hang_L hM hs hl hy M [] fuel rfl (fuel_gt (by omega))
theorem hp_move {N : List Nd} {x : Int} {r : Int → Nat} (h : HP N x r) {y k : Nd} (hy : y ∈ N) (hyx : y.ID = x) (hk : k ∈ N) (hkx : k.ID ≠ x) (ha : Anc N x k.ID) (hfull : (∀ n ∈ N, n.Parent ≠ 0 → r n.Parent < r n.ID) ∧ ∀ n ∈ N, n.Parent = 0 ∨ ∃ m ∈ N, m.ID = n.Parent) : HP (N.map (mvN k.ID y.Parent)) x r ∧ ¬ Anc (N.map (mvN k.ID y.Parent)) x k.ID := by
  obtain ⟨hf1, hf2⟩ := hfull
  have hso : (N.map (mvN k.ID y.Parent)).Pairwise (fun a b => a.ID < b.ID) := by
    rw [List.pairwise_map]
    exact h.ok.so.imp (fun hab => by rw [mvN_id, mvN_id]; exact hab)
  have himg : ∀ m ∈ N.map (mvN k.ID y.Parent), ∃ n ∈ N, m = mvN k.ID y.Parent n := fun m hm => by
    obtain ⟨n, hn, e⟩ := List.mem_map.1 hm
    exact ⟨n, hn, e.symm⟩
  have hin : ∀ p : Int, (p = 0 ∨ ∃ m ∈ N, m.ID = p) → (p = 0 ∨ ∃ m ∈ N.map (mvN k.ID y.Parent), m.ID = p) := fun p hp => hp.imp id (fun ⟨m, hm, e⟩ => ⟨_, List.mem_map.2 ⟨m, hm, rfl⟩, (mvN_id _ _ _).trans e⟩)
  have hxk : r x < r k.ID := by
    rcases anc_rank h.rk ha with e | e
    · exact absurd e hkx
    · exact e
  have hpar : ∀ n ∈ N, (mvN k.ID y.Parent n).Parent ≠ 0 → r (mvN k.ID y.Parent n).Parent < r n.ID := fun n hn hz => by
    unfold mvN at hz ⊢
    split
    · rename_i e
      rw [if_pos e] at hz
      have hz : y.Parent ≠ 0 := hz
      have := hf1 y hy hz
      rw [hyx] at this
      show r y.Parent < r n.ID
      rw [e]; omega
    · rename_i e
      rw [if_neg e] at hz
      exact hf1 n hn hz
  have hpas : ∀ n ∈ N, (mvN k.ID y.Parent n).Parent = 0 ∨ ∃ m ∈ N.map (mvN k.ID y.Parent), m.ID = (mvN k.ID y.Parent n).Parent := fun n hn => by
    apply hin
    unfold mvN
    split
    · exact hf2 y hy
    · exact hf2 n hn
  have hrk : Rk (N.map (mvN k.ID y.Parent)) x r := fun m hm hx hz => by
    obtain ⟨n, hn, rfl⟩ := himg m hm
    rw [mvN_id]
    exact hpar n hn hz
  refine ⟨⟨⟨by rw [List.length_map]; exact h.ok.ln, fun m hm => ?_, hso, fun m hm => ?_⟩, ?_, fun m hm => ?_, fun m hm _ => ?_, hrk, .inl ⟨fun m hm hz => ?_, fun m hm => ?_⟩⟩, fun hb => ?_⟩
  · obtain ⟨n, hn, rfl⟩ := himg m hm
    rw [mvN_id]; exact h.ok.ra n hn
  · obtain ⟨n, hn, rfl⟩ := himg m hm
    unfold mvN
    split
    · exact h.ok.pa y hy
    · exact h.ok.pa n hn
  · exact ⟨_, List.mem_map.2 ⟨y, hy, rfl⟩, (mvN_id _ _ _).trans hyx⟩
  · obtain ⟨n, hn, rfl⟩ := himg m hm
    have := h.ra n hn
    unfold mvN
    split <;> exact this
  · obtain ⟨n, hn, rfl⟩ := himg m hm
    exact hpas n hn
  · obtain ⟨n, hn, rfl⟩ := himg m hm
    rw [mvN_id]
    exact hpar n hn hz
  · obtain ⟨n, hn, rfl⟩ := himg m hm
    exact hpas n hn
  · have hkm : mvN k.ID y.Parent k ∈ N.map (mvN k.ID y.Parent) := List.mem_map.2 ⟨k, hk, rfl⟩
    have e1 : (mvN k.ID y.Parent k).Parent = y.Parent := by unfold mvN; rw [if_pos rfl]
    have h1 := anc_par hso hkm (by rw [mvN_id]; exact hkx) (by rw [mvN_id]; exact hb)
    rw [e1] at h1
    have hyr := h.ok.ra y hy
    by_cases hz : y.Parent = 0
    · rcases anc_node h1 with e | ⟨m, hm, e⟩
      · omega
      · obtain ⟨n, hn, rfl⟩ := himg m hm
        rw [mvN_id] at e
        have := h.ok.ra n hn; omega
    · have h2 := hf1 y hy hz
      rw [hyx] at h2
      rcases anc_rank hrk h1 with e | e
      · rw [e] at h2; omega
      · omega
theorem hang34 {N : List Nd} {E : List Int} {R K : Int} {op : Fo} {r : Int → Nat} (h : HP N op.ID r) (hd : 0 ≤ op.Dep ∧ op.Dep ≤ 1048576) (hne : op.Dep ≠ op.ID) (hw : 1 ≤ op.Weight ∧ op.Weight ≤ 256) :
    ∃ g, fold_State_hang_h R K op N E = some (R, K, N.map g, E) ∧ Hung N g := by
  have hln := h.ok.ln
  obtain ⟨A, y, C, hN, hyx, hfy⟩ := find_at (R := R) (K := K) (E := E) h.ok h.xm
  have hy : y ∈ N := by rw [hN]; simp
  obtain ⟨q, hq1, hq2⟩ := find_b (R := R) (K := K) (E := E) h.ok (id := op.Dep) ⟨by omega, by omega⟩
  unfold fold_State_hang_h
  rw [hq1, bnoS, bndD, bndD]
  cases hq2 with
  | no p hp hno _ =>
    by_cases h0 : op.Dep = 0
    · refine ⟨hangN op.ID op.Dep op.Weight op.Only, ?_, hung_of h hw (fun hh => absurd h0 hh)⟩
      have e : ((!false) && !decide (op.Dep = 0)) = false := by rw [decide_eq_true h0]; rfl
      show (bif ((!false) && !decide (op.Dep = 0)) then _ else _) = _
      rw [e, bif_ff]
      unfold fold_State_hang_h_J0
      rw [hfy, bnoS]
      show (bif false then _ else _) = _
      rw [bif_ff, bndD]
      exact hang_end hN h.ok.so hln hyx
    · refine ⟨hangN op.ID 0 16 false, ?_, hung_of h (by decide) (fun hh => absurd rfl hh)⟩
      have e : ((!false) && !decide (op.Dep = 0)) = true := by rw [decide_eq_false h0]; rfl
      show (bif ((!false) && !decide (op.Dep = 0)) then _ else _) = _
      rw [e, bif_tt]
      unfold fold_State_hang_h_J0
      rw [hfy, bnoS]
      show (bif false then _ else _) = _
      rw [bif_ff, bndD]
      exact hang_end hN h.ok.so hln hyx
  | yes B k D hB hk _ _ =>
    have hkm : k ∈ N := by rw [hB]; simp
    have hkr := h.ok.ra k hkm
    have hkx : k.ID ≠ op.ID := by rw [hk]; exact hne
    have hpl := path_len N N.length op.Dep
    have hmem := cint (l := pathS N N.length op.Dep) (x := op.ID) (by omega)
    have hp34 := path34b (a0 := R) (a1 := K) (E := E) h.ok (id := op.Dep) ⟨by omega, by omega⟩
    have e0 : ((!true) && !decide (op.Dep = 0)) = false := rfl
    by_cases hin : op.ID ∈ pathS N N.length op.Dep
    · -- the other one is below: it goes up first
      rw [decide_eq_true hin] at hmem
      have hanc : Anc N op.ID k.ID := by rw [hk]; exact path_anc h.ok.so _ _ hne hin (by have := h.ok.ra y hy; omega)
      have hfull := h.xs.resolve_right (fun hno => by
        rcases anc_child hanc with e | ⟨n, hn, e1, e2⟩
        · exact hkx e
        · exact hno n hn e1 e2)
      obtain ⟨h1, h2⟩ := hp_move h hy hyx hkm hkx hanc hfull
      have hu := hung_of (d := op.Dep) (w := op.Weight) (o := op.Only) h1 hw (fun _ => ⟨⟨_, List.mem_map.2 ⟨k, hkm, rfl⟩, (mvN_id _ _ _).trans hk⟩, by rw [← hk]; exact h2⟩)
      have hso := h.ok.so
      rw [hB] at hso
      have hset : N.set ((B.length : Nat) : Int).toNat (⟨k.ID, y.Parent, k.Weight, k.Closed⟩ : Nd) = N.map (mvN k.ID y.Parent) := by
        conv => lhs; rw [hB]
        rw [set_app, ← map_mv hso, ← hB]
      have hN1 : N.map (mvN k.ID y.Parent) = A.map (mvN k.ID y.Parent) ++ mvN k.ID y.Parent y :: C.map (mvN k.ID y.Parent) := by
        conv => lhs; rw [hN]
        rw [List.map_append, List.map_cons]
      have hend := hang_end (R := R) (K := K) (op := op) (E := E) (v6 := op.Dep) (v7 := op.Weight) (v8 := op.Only) hN1 h1.ok.so h1.ok.ln ((mvN_id _ _ _).trans hyx)
      rw [List.length_map, List.map_map] at hend
      refine ⟨hangN op.ID op.Dep op.Weight op.Only ∘ mvN k.ID y.Parent, ?_, ⟨fun n => (hu.id _).trans (mvN_id _ _ _), fun n => (hu.cl _).trans ?_, fun n hn => hu.ra _ (List.mem_map.2 ⟨n, hn, rfl⟩), fun n hn => ?_, ?_⟩⟩
      · show (bif ((!true) && !decide (op.Dep = 0)) then _ else _) = _
        rw [e0, bif_ff]
        unfold fold_State_hang_h_J0
        rw [hfy, bnoS]
        show (bif true then _ else _) = _
        rw [bif_tt, hp34, bnoS, hmem, bnoS, bndD]
        show (bif true then _ else _) = _
        rw [bif_tt, gix_at hN, bnoS, get_app hN, bnoS, gix_at hB, bnoS]
        show bno (N[((B.length : Nat) : Int).toNat]?) _ = _
        rw [get_app hB, bnoS, bndD]
        show fold_State_hang_h_J1 R K op E op.Dep op.Weight op.Only ((A.length : Int), true) (N.set ((B.length : Nat) : Int).toNat (⟨k.ID, y.Parent, k.Weight, k.Closed⟩ : Nd)) = _
        rw [hset]
        exact hend
      · unfold mvN; split <;> rfl
      · rcases hu.pa _ (List.mem_map.2 ⟨n, hn, rfl⟩) with e | ⟨m, hm, e⟩
        · exact .inl e
        · obtain ⟨z, hz, ez⟩ := List.mem_map.1 hm
          have e2 : z.ID = m.ID := by rw [← ez, mvN_id]
          exact .inr ⟨z, hz, e2.trans e⟩
      · obtain ⟨r', hr'⟩ := hu.rk
        rw [List.map_map] at hr'
        exact ⟨r', hr'⟩
    · rw [decide_eq_false hin] at hmem
      have hna : ¬ Anc N op.ID op.Dep := by
        rcases h.xs with ⟨f1, f2⟩ | hno
        · exact not_anc h.ok.so f1 f2 ⟨k, hkm, hk⟩ hne hin
        · intro ha
          rcases anc_child ha with e | ⟨n, hn, e1, e2⟩
          · exact hne e
          · exact hno n hn e1 e2
      refine ⟨hangN op.ID op.Dep op.Weight op.Only, ?_, hung_of h hw (fun _ => ⟨⟨k, hkm, hk⟩, hna⟩)⟩
      show (bif ((!true) && !decide (op.Dep = 0)) then _ else _) = _
      rw [e0, bif_ff]
      unfold fold_State_hang_h_J0
      rw [hfy, bnoS]
      show (bif true then _ else _) = _
      rw [bif_tt, hp34, bnoS, hmem, bnoS, bndD]
      show (bif false then _ else _) = _
      rw [bif_ff]
      exact hang_end hN h.ok.so hln hyx
end Go.Fn
set_option linter.unusedSimpArgs false
set_option linter.unusedVariables false
open Go Go.IL
namespace Go.Fn
/-! Fold: what is done leaves a state that may be. -/
theorem nclone {l : List Nd} (hl : l.length ≤ 100000) : slices_Clone_ptree_Node_ptree_Node_h l = some l := by
  unfold slices_Clone_ptree_Node_ptree_Node_h
  have h : (bno (app 32 ([] : (List Nd)) l) fun x3 => some x3) = some l := by
    rw [app_ok (by simp; omega) (by simp; omega), bnoS, List.nil_append]
  rw [h, bothE_same]
  rintro rfl; rfl
theorem eclone {l : List Int} (hl : l.length ≤ 100000) : slices_Clone_int_int_h l = some l := by
  unfold slices_Clone_int_int_h
  have h : (bno (app 8 ([] : (List Int)) l) fun x3 => some x3) = some l := by
    rw [app_ok (by simp; omega) (by simp; omega), bnoS, List.nil_append]
  rw [h, bothE_same]
  rintro rfl; rfl
/-- What a state keeps when its nodes change in their places. -/
structure BS (K : Int) (N : List Nd) (E : List Int) : Prop where
  kp : 0 ≤ K ∧ K ≤ 24
  ln : N.length ≤ 24
  el : (E.length : Int) ≤ K
  so : N.Pairwise (fun a b => a.ID < b.ID)
  ra : ∀ n ∈ N, 1 ≤ n.ID ∧ n.ID ≤ 1048576
  en : ∀ n ∈ N, (n.Closed = true ↔ n.ID ∈ E)
  nd : E.Nodup
  es : ∀ e ∈ E, ∃ n ∈ N, n.ID = e
theorem FV.bs {K : Int} {st : Fs} (h : FV K st) : BS K st.Nodes st.Ended := ⟨h.kp.2, h.ln, h.el, h.so, fun n hn => (h.ra n hn).1, h.en, h.nd, h.es⟩
theorem fv_hung {K : Int} {N : List Nd} {E : List Int} {g : Nd → Nd} (b : BS K N E) (h : Hung N g) : FV K ⟨24, K, N.map g, E⟩ := by
  have himg : ∀ m ∈ N.map g, ∃ n ∈ N, m = g n := fun m hm => by
    obtain ⟨n, hn, e⟩ := List.mem_map.1 hm
    exact ⟨n, hn, e.symm⟩
  have hin : ∀ p : Int, (∃ m ∈ N, m.ID = p) → ∃ m ∈ N.map g, m.ID = p := fun p ⟨m, hm, e⟩ => ⟨_, List.mem_map.2 ⟨m, hm, rfl⟩, (h.id m).trans e⟩
  refine ⟨rfl, ⟨rfl, b.kp⟩, by show (N.map g).length ≤ 24; rw [List.length_map]; exact b.ln, b.el, ?_, fun m hm => ?_, fun m hm => ?_, h.rk, fun m hm => ?_, b.nd, fun e he => hin e (b.es e he)⟩
  · show (N.map g).Pairwise _
    rw [List.pairwise_map]
    exact b.so.imp (fun hab => by rw [h.id, h.id]; exact hab)
  · obtain ⟨n, hn, rfl⟩ := himg m hm
    rw [h.id]
    exact ⟨b.ra n hn, h.ra n hn⟩
  · obtain ⟨n, hn, rfl⟩ := himg m hm
    exact (h.pa n hn).imp id (hin _)
  · obtain ⟨n, hn, rfl⟩ := himg m hm
    rw [h.id, h.cl]
    exact b.en n hn
theorem hp_of {K : Int} {st : Fs} (h : FV K st) {x : Int} (hx : ∃ n ∈ st.Nodes, n.ID = x) : ∃ r, HP st.Nodes x r := by
  obtain ⟨r, hr⟩ := h.rk
  exact ⟨r, h.ok, hx, fun n hn => (h.ra n hn).2, fun n hn _ => h.pa n hn, fun n hn _ hz => hr n hn hz, .inl ⟨hr, h.pa⟩⟩
/-- What may be planted. -/
def may34 (op : Fo) : Prop := (1 ≤ op.ID ∧ op.ID ≤ 1048576) ∧ (1 ≤ op.Weight ∧ op.Weight ≤ 256) ∧ (0 ≤ op.Dep ∧ op.Dep ≤ 1048576) ∧ op.Dep ≠ op.ID
theorem wrong34 (n : Nd) : fold_wrong n = some (decide (n.ID < 1) || decide (1048576 < n.ID) || decide (n.Weight < 1) || decide (256 < n.Weight)) := rfl
theorem plant_new {K : Int} {st : Fs} {op : Fo} (h : FV K st) (hm : may34 op) (hno : ∀ n ∈ st.Nodes, n.ID ≠ op.ID) (hlt : st.Nodes.length < 24) : ∃ st' : Fs, fold_State_plant_h_J1 op st.Room st.Keep st.Nodes st.Ended = some (st'.Room, st'.Keep, st'.Nodes, st'.Ended, 0) ∧ FV K st' := by
  obtain ⟨hid, hw, hd, hne⟩ := hm
  obtain ⟨q, hq1, hq2⟩ := find_b (R := st.Room) (K := st.Keep) (E := st.Ended) h.ok (id := op.ID) ⟨by omega, by omega⟩
  cases hq2 with
  | yes A y C hN he _ _ => exact absurd he (hno y (by rw [hN]; simp))
  | no p hp _ hsp =>
    obtain ⟨h1, h2⟩ := hsp (by omega) (by omega)
    obtain ⟨r, hr⟩ := h.rk
    have hN : st.Nodes.take p ++ st.Nodes.drop p = st.Nodes := List.take_append_drop p st.Nodes
    have hins : slices_Insert_ptree_Node_ptree_Node_h (p : Int) ([(⟨op.ID, op.ID, 16, false⟩ : Nd)]) st.Nodes = some (st.Nodes.take p ++ [(⟨op.ID, op.ID, 16, false⟩ : Nd)] ++ st.Nodes.drop p) := by
      unfold slices_Insert_ptree_Node_ptree_Node_h
      rw [insS_ok (by omega) (by omega) (by simp; omega) (by simp; omega), Int.toNat_natCast]
    generalize hA : st.Nodes.take p = A at *
    generalize hC : st.Nodes.drop p = C at *
    have hmem : ∀ n, n ∈ A ++ [(⟨op.ID, op.ID, 16, false⟩ : Nd)] ++ C ↔ n = ⟨op.ID, op.ID, 16, false⟩ ∨ n ∈ st.Nodes := fun n => by
      rw [← hN]; simp only [List.mem_append, List.mem_singleton]
      constructor
      · rintro ((a | a) | a)
        · exact .inr (.inl a)
        · exact .inl a
        · exact .inr (.inr a)
      · rintro (a | a | a)
        · exact .inl (.inr a)
        · exact .inl (.inl a)
        · exact .inr a
    have hso := h.so
    rw [← hN] at hso
    have hpw := List.pairwise_append.1 hso
    have hlen : A.length + C.length = st.Nodes.length := by rw [← hN, List.length_append]
    have hbs : BS K (A ++ [(⟨op.ID, op.ID, 16, false⟩ : Nd)] ++ C) st.Ended := by
      refine ⟨h.kp.2, by rw [List.length_append, List.length_append, List.length_singleton]; omega, h.el, ?_, fun n hn => ?_, fun n hn => ?_, h.nd, fun e he => ?_⟩
      · refine List.pairwise_append.2 ⟨List.pairwise_append.2 ⟨hpw.1, List.pairwise_singleton _ _, fun a ha b hb => by rw [List.mem_singleton.1 hb]; exact h1 a ha⟩, hpw.2.1, fun a ha b hb => ?_⟩
        rcases List.mem_append.1 ha with ha | ha
        · exact hpw.2.2 a ha b hb
        · rw [List.mem_singleton.1 ha]; exact h2 b hb
      · rcases (hmem n).1 hn with e | hn
        · rw [e]; exact hid
        · exact (h.ra n hn).1
      · rcases (hmem n).1 hn with e | hn
        · rw [e]
          refine ⟨fun hc => (by cases hc), fun hc => ?_⟩
          obtain ⟨m, hm, e2⟩ := h.es _ hc
          exact absurd e2 (hno m hm)
        · exact h.en n hn
      · obtain ⟨n, hn, e2⟩ := h.es e he
        exact ⟨n, (hmem n).2 (.inr hn), e2⟩
    have hhp : HP (A ++ [(⟨op.ID, op.ID, 16, false⟩ : Nd)] ++ C) op.ID r := by
      refine ⟨⟨by have := hbs.ln; omega, hbs.ra, hbs.so, fun n hn => ?_⟩, ⟨_, (hmem _).2 (.inl rfl), rfl⟩, fun n hn => ?_, fun n hn hx => ?_, fun n hn hx hz => ?_, .inr fun n hn hx hp => ?_⟩
      · rcases (hmem n).1 hn with e | hn
        · rw [e]; exact ⟨by show -9223372036854775808 ≤ op.ID; omega, by show op.ID ≤ _; omega⟩
        · exact h.ok.pa n hn
      · rcases (hmem n).1 hn with e | hn
        · rw [e]; exact ⟨by show (1 : Int) ≤ 16; decide, by show (16 : Int) ≤ 256; decide⟩
        · exact (h.ra n hn).2
      · rcases (hmem n).1 hn with e | hn
        · rw [e] at hx; exact absurd rfl hx
        · rcases h.pa n hn with e | ⟨m, hm, e⟩
          · exact .inl e
          · exact .inr ⟨m, (hmem m).2 (.inr hm), e⟩
      · rcases (hmem n).1 hn with e | hn
        · rw [e] at hx; exact absurd rfl hx
        · exact hr n hn hz
      · rcases (hmem n).1 hn with e | hn
        · rw [e] at hx; exact absurd rfl hx
        · rcases h.pa n hn with e | ⟨m, hm, e⟩
          · omega
          · exact hno m hm (e.trans hp)
    obtain ⟨g, hg1, hg2⟩ := hang34 (E := st.Ended) (R := st.Room) (K := st.Keep) hhp hd hne hw
    refine ⟨⟨24, K, _, st.Ended⟩, ?_, fv_hung hbs hg2⟩
    unfold fold_State_plant_h_J1
    rw [hq1, bnoS, hins, bnoS, hg1, bnoS, h.rm, h.kp.1]
theorem plant34 {K : Int} {st : Fs} {op : Fo} (h : FV K st) (h64 : I64 op.ID) : ∃ (st' : Fs) (e : Int), fold_State_plant_h st.Room st.Keep op st.Nodes st.Ended = some (st'.Room, st'.Keep, st'.Nodes, st'.Ended, e) ∧ FV K st' := by
  have hbad : ∀ b, b = true → fold_State_plant_h_J0 st.Room st.Keep op st.Nodes st.Ended b = some (st.Room, st.Keep, st.Nodes, st.Ended, 8) := fun b hb => by rw [hb]; rfl
  unfold fold_State_plant_h
  rw [wrong34, bnoS]
  show ∃ (st' : Fs) (e : Int), (bif (decide (op.ID < 1) || decide (1048576 < op.ID) || decide (op.Weight < 1) || decide (256 < op.Weight)) then _ else _) = _ ∧ _
  cases hb1 : (decide (op.ID < 1) || decide (1048576 < op.ID) || decide (op.Weight < 1) || decide (256 < op.Weight))
  · rw [bif_ff, bndD]
    by_cases h1 : op.Dep < 0
    · rw [decide_eq_true h1, bif_tt]
      exact ⟨st, 8, hbad _ rfl, h⟩
    · rw [decide_eq_false h1, bif_ff, bndD]
      by_cases h2 : 1048576 < op.Dep
      · rw [decide_eq_true h2]
        exact ⟨st, 8, hbad _ rfl, h⟩
      · rw [decide_eq_false h2]
        have hnum : (1 ≤ op.ID ∧ op.ID ≤ 1048576) ∧ (1 ≤ op.Weight ∧ op.Weight ≤ 256) := by
          simp only [Bool.or_eq_false_iff, decide_eq_false_iff_not] at hb1
          omega
        unfold fold_State_plant_h_J0
        rw [bif_ff, bndD]
        by_cases h3 : op.ID = op.Dep
        · rw [decide_eq_true h3, bif_tt]
          exact ⟨st, 4, rfl, h⟩
        · rw [decide_eq_false h3, bif_ff]
          have hm : may34 op := ⟨hnum.1, hnum.2, ⟨by omega, by omega⟩, fun e => h3 e.symm⟩
          obtain ⟨q, hq1, hq2⟩ := find_b (R := st.Room) (K := st.Keep) (E := st.Ended) h.ok (id := op.ID) h64
          rw [hq1, bnoS]
          cases hq2 with
          | yes A y C hN he _ _ =>
            show ∃ (st' : Fs) (e : Int), (bif true then _ else _) = _ ∧ _
            rw [bif_tt, bndD]
            by_cases hk : op.Kind = 0
            · rw [decide_eq_true hk, bif_tt]
              exact ⟨st, 13, rfl, h⟩
            · rw [decide_eq_false hk, bif_ff]
              obtain ⟨r, hp⟩ := hp_of h (x := op.ID) ⟨y, by rw [hN]; simp, he⟩
              obtain ⟨g, hg1, hg2⟩ := hang34 (E := st.Ended) (R := st.Room) (K := st.Keep) hp hm.2.2.1 hm.2.2.2 hm.2.1
              rw [hg1, bnoS]
              exact ⟨⟨24, K, _, st.Ended⟩, 0, by rw [h.rm, h.kp.1], fv_hung h.bs hg2⟩
          | no p hp hno _ =>
            show ∃ (st' : Fs) (e : Int), (bif false then _ else _) = _ ∧ _
            rw [bif_ff, bndD]
            have hrm := h.rm
            by_cases hf : st.Room ≤ (st.Nodes.length : Int)
            · rw [decide_eq_true hf, bif_tt, bndD]
              cases hE : st.Ended with
              | nil =>
                show ∃ (st' : Fs) (e : Int), (bif true then _ else _) = _ ∧ _
                rw [bif_tt]
                exact ⟨st, 7, by rw [hE], h⟩
              | cons x E =>
                have hx : decide (((x :: E).length : Int) = 0) = false := decide_eq_false (by simp only [List.length_cons]; omega)
                rw [hx, bif_ff]
                have hg : gix (x :: E) 0 = some x := rfl
                have hg2 : (x :: E)[((0 : Int)).toNat]? = some x := rfl
                rw [hg, bnoS, hg2, bnoS, ← hE]
                obtain ⟨A, y, C, hN, hyx, hoff⟩ := off34 h (h.es x (by rw [hE]; simp))
                have hfv := fv_off h hN
                rw [hyx] at hfv
                rw [hoff, bnoS]
                have hln := h.ln
                have hl2 : (offS A y C).length < 24 := by
                  unfold offS; rw [List.length_map, List.length_append]
                  rw [hN] at hln; simp at hln; omega
                obtain ⟨st', e1, e2⟩ := plant_new (st := ⟨st.Room, st.Keep, offS A y C, st.Ended.filter fun y => !decide (y = x)⟩) hfv hm (fun n hn => by
                  obtain ⟨m, hm2, e⟩ := List.mem_map.1 hn
                  rw [← e, offN_id]
                  refine hno m ?_
                  rw [hN]
                  rcases List.mem_append.1 hm2 with hm2 | hm2 <;> simp [hm2]) hl2
                exact ⟨st', 0, e1, e2⟩
            · rw [decide_eq_false hf, bif_ff]
              obtain ⟨st', e1, e2⟩ := plant_new h hm hno (by omega)
              exact ⟨st', 0, e1, e2⟩
  · rw [bif_tt]
    exact ⟨st, 8, hbad _ rfl, h⟩
end Go.Fn
set_option linter.unusedSimpArgs false
set_option linter.unusedVariables false
open Go Go.IL
namespace Go.Fn
/-! Fold: shut, Do. -/
def clN (id : Int) (n : Nd) : Nd := if n.ID = id then ⟨n.ID, n.Parent, n.Weight, true⟩ else n
theorem clN_id (id : Int) (n : Nd) : (clN id n).ID = n.ID := by unfold clN; split <;> rfl
theorem clN_par (id : Int) (n : Nd) : (clN id n).Parent = n.Parent := by unfold clN; split <;> rfl
theorem clN_w (id : Int) (n : Nd) : (clN id n).Weight = n.Weight := by unfold clN; split <;> rfl
theorem map_cl {A C : List Nd} {y : Nd} (hs : (A ++ y :: C).Pairwise (fun a b => a.ID < b.ID)) : (A ++ y :: C).map (clN y.ID) = A ++ (⟨y.ID, y.Parent, y.Weight, true⟩ : Nd) :: C := by
  obtain ⟨hA, hC⟩ := apart34 hs
  rw [List.map_append, List.map_cons]
  have e1 : A.map (clN y.ID) = A := by
    conv => rhs; rw [← List.map_id A]
    exact List.map_congr_left (fun a ha => by unfold clN; rw [if_neg (hA a ha)]; rfl)
  have e2 : C.map (clN y.ID) = C := by
    conv => rhs; rw [← List.map_id C]
    exact List.map_congr_left (fun a ha => by unfold clN; rw [if_neg (hC a ha)]; rfl)
  rw [e1, e2]
  congr 2
  unfold clN; rw [if_pos rfl]
theorem fv_shut {st : Fs} (h : FV 24 st) {y : Nd} (hy : y ∈ st.Nodes) (hc : y.Closed = false) : FV 24 ⟨st.Room, st.Keep, st.Nodes.map (clN y.ID), st.Ended ++ [y.ID]⟩ ∧ st.Ended.length + 1 ≤ 24 := by
  obtain ⟨r, hr⟩ := h.rk
  have hln := h.ln
  have hlen : st.Ended.length + 1 ≤ 24 := by
    obtain ⟨A, C, hN⟩ := List.append_of_mem hy
    have h1 : (A.filter (·.Closed)).length + (C.filter (·.Closed)).length = st.Ended.length := by
      have := closed_len h
      rw [hN, List.filter_append, List.filter_cons_of_neg (by rw [hc]; simp), List.length_append] at this
      exact this
    rw [hN] at hln
    have h2 := List.length_filter_le (·.Closed) A
    have h3 := List.length_filter_le (·.Closed) C
    simp only [List.length_append, List.length_cons] at hln
    omega
  have hni : ¬ y.ID ∈ st.Ended := fun hm => by have := (h.en y hy).2 hm; rw [hc] at this; cases this
  have himg : ∀ m ∈ st.Nodes.map (clN y.ID), ∃ n ∈ st.Nodes, m = clN y.ID n := fun m hm => by
    obtain ⟨n, hn, e⟩ := List.mem_map.1 hm
    exact ⟨n, hn, e.symm⟩
  have hin : ∀ p : Int, (∃ m ∈ st.Nodes, m.ID = p) → ∃ m ∈ st.Nodes.map (clN y.ID), m.ID = p := fun p ⟨m, hm, e⟩ => ⟨_, List.mem_map.2 ⟨m, hm, rfl⟩, (clN_id _ _).trans e⟩
  refine ⟨⟨h.rm, h.kp, by show (st.Nodes.map _).length ≤ 24; rw [List.length_map]; exact hln, by show ((st.Ended ++ [y.ID]).length : Int) ≤ 24; rw [List.length_append, List.length_singleton]; omega, ?_, fun m hm => ?_, fun m hm => ?_, ⟨r, fun m hm hz => ?_⟩, fun m hm => ?_, ?_, fun e he => ?_⟩, hlen⟩
  · show (st.Nodes.map _).Pairwise _
    rw [List.pairwise_map]
    exact h.so.imp (fun hab => by rw [clN_id, clN_id]; exact hab)
  · obtain ⟨n, hn, rfl⟩ := himg m hm
    rw [clN_id, clN_w]; exact h.ra n hn
  · obtain ⟨n, hn, rfl⟩ := himg m hm
    rw [clN_par]; exact (h.pa n hn).imp id (hin _)
  · obtain ⟨n, hn, rfl⟩ := himg m hm
    rw [clN_par] at hz ⊢
    rw [clN_id]
    exact hr n hn hz
  · obtain ⟨n, hn, rfl⟩ := himg m hm
    have hen := h.en n hn
    rw [clN_id]
    show _ ↔ n.ID ∈ st.Ended ++ [y.ID]
    rw [List.mem_append, List.mem_singleton]
    unfold clN
    split
    · rename_i e
      exact ⟨fun _ => .inr e, fun _ => rfl⟩
    · rename_i e
      rw [hen]
      exact ⟨.inl, fun hh => hh.resolve_right e⟩
  · show (st.Ended ++ [y.ID]).Nodup
    rw [List.nodup_append]
    exact ⟨h.nd, by simp, fun a ha b hb => by rw [List.mem_singleton.1 hb]; rintro rfl; exact hni ha⟩
  · have he : e ∈ st.Ended ++ [y.ID] := he
    rcases List.mem_append.1 he with he | he
    · exact hin e (h.es e he)
    · exact hin e ⟨y, hy, (List.mem_singleton.1 he).symm⟩
end Go.Fn
set_option linter.unusedSimpArgs false
set_option linter.unusedVariables false
open Go Go.IL
namespace Go.Fn
/-! FoldWeights. -/
end Go.Fn
set_option linter.unusedSimpArgs false
set_option linter.unusedVariables false
open Go Go.IL
namespace Go.Fn
/-! FoldWeights: the law. -/
theorem fv_start : FV 24 ⟨24, 24, [], []⟩ :=
  ⟨rfl, ⟨rfl, by decide, by decide⟩, by show ([] : List Nd).length ≤ 24; decide, by show (([] : List Int).length : Int) ≤ 24; decide, .nil, fun _ h => (List.not_mem_nil h).elim, fun _ h => (List.not_mem_nil h).elim, ⟨fun _ => 0, fun _ h => (List.not_mem_nil h).elim⟩, fun _ h => (List.not_mem_nil h).elim, .nil, fun _ h => (List.not_mem_nil h).elim⟩
end Go.Fn
set_option linter.unusedSimpArgs false
set_option linter.unusedVariables false
open Go Go.IL
namespace Go.Fn
/-! Fold: what is done, however many closed nodes are kept. -/
theorem fv_keep {K L : Int} {R Q : Int} {N : List Nd} {E : List Int} (h : FV K ⟨R, Q, N, E⟩) (hL : 0 ≤ L ∧ L ≤ 24) (he : (E.length : Int) ≤ L) : FV L ⟨24, L, N, E⟩ :=
  ⟨rfl, ⟨rfl, hL⟩, h.ln, he, h.so, h.ra, h.pa, h.rk, h.en, h.nd, h.es⟩
theorem off_any {K : Int} {st : Fs} (h : FV K st) (R' K' : Int) {id : Int} (hid : ∃ n ∈ st.Nodes, n.ID = id) : ∃ A y C, st.Nodes = A ++ y :: C ∧ y.ID = id ∧ fold_State_off_h R' K' id st.Nodes st.Ended = some (R', K', offS A y C, st.Ended.filter fun y => !decide (y = id)) := by
  obtain ⟨y, hy, rfl⟩ := hid
  obtain ⟨A, z, C, hN, hz, hf⟩ := find_at (R := R') (K := K') (E := st.Ended) h.ok ⟨y, hy, rfl⟩
  have hzy : z = y := uniq34 h.so (by rw [hN]; simp) hy hz
  subst hzy
  have hln := h.ln; have hel := h.el; have hkp := h.kp
  have hra := h.ra
  have hlen : A.length + C.length + 1 ≤ 24 := by rw [hN] at hln; simp at hln; omega
  have hdel : slices_Delete_ptree_Node_ptree_Node_h (A.length : Int) ((A.length : Int) + 1) st.Nodes = some (A ++ C) := by
    unfold slices_Delete_ptree_Node_ptree_Node_h
    rw [delS_ok (by omega) (by omega) (by rw [hN]; simp; omega), hN]
    congr 1
    have e1 : ((A.length : Int)).toNat = A.length := by omega
    have e2 : ((A.length : Int) + 1).toNat = A.length + 1 := by omega
    rw [e1, e2, List.take_left, List.drop_append]
    simp
  have hw : ∀ n ∈ A ++ C, 1 ≤ n.Weight ∧ n.Weight ≤ 256 := fun n hn => (hra n (by rw [hN]; rcases List.mem_append.1 hn with hn | hn <;> simp [hn])).2
  have hl : (A ++ C).length ≤ 1000 := by rw [List.length_append]; omega
  have hsum := sum34 (st := ⟨R', K', A ++ C, st.Ended⟩) hl hw z.ID
  have hoff := off_L (a0 := R') (a1 := K') (E := st.Ended) (y := z) (M := A ++ C) hl hw (hra z hy).2 (del34 (by omega)) (A ++ C) [] fuel rfl (fuel_gt (by omega))
  refine ⟨A, z, C, hN, rfl, ?_⟩
  unfold fold_State_off_h
  rw [hf, bnoS, gix_at hN, bnoS, get_app hN, bnoS, bndD, w64 (by omega) (by omega), hdel, bnoS, hsum, bnoS]
  exact hoff
theorem filter_ne {l : List Int} {x : Int} (hx : x ∈ l) : (l.filter fun y => !decide (y = x)).length + 1 ≤ l.length := by
  induction l with
  | nil => exact (List.not_mem_nil hx).elim
  | cons a l ih =>
    by_cases h : a = x
    · have e : (a :: l).filter (fun y => !decide (y = x)) = l.filter (fun y => !decide (y = x)) := List.filter_cons_of_neg (by simp [h])
      rw [e, List.length_cons]
      have := List.length_filter_le (fun y => !decide (y = x)) l
      omega
    · have e : (a :: l).filter (fun y => !decide (y = x)) = a :: l.filter (fun y => !decide (y = x)) := List.filter_cons_of_pos (by simp [h])
      rw [e, List.length_cons, List.length_cons]
      have := ih ((List.mem_cons.1 hx).resolve_left (fun e => h e.symm))
      omega
theorem shut_any {K : Int} {st : Fs} (h : FV K st) {y : Nd} (hy : y ∈ st.Nodes) : ∃ (st' : Fs) (e : Int), fold_State_shut_h st.Room st.Keep y.ID st.Nodes st.Ended = some (st'.Room, st'.Keep, st'.Nodes, st'.Ended, e) ∧ FV K st' := by
  obtain ⟨A, C, hN, hf⟩ := find_mem h hy
  have hf : fold_State_find ⟨st.Room, st.Keep, st.Nodes, st.Ended⟩ y.ID = some ((A.length : Int), true) := hf
  have hg := gix_at hN
  have hg2 := get_app hN
  have hkp := h.kp
  have h24 : FV 24 ⟨24, 24, st.Nodes, st.Ended⟩ := fv_keep h (by decide) (by have := h.el; omega)
  unfold fold_State_shut_h
  rw [hf, bnoS]
  show ∃ (st' : Fs) (e : Int), (bif false then _ else _) = _ ∧ _
  rw [bif_ff, hg, bnoS]
  show ∃ (st' : Fs) (e : Int), bno (st.Nodes[((A.length : Nat) : Int).toNat]?) _ = _ ∧ _
  rw [hg2, bnoS]
  cases hc : y.Closed
  · obtain ⟨h1, h2⟩ := fv_shut h24 hy hc
    have h2 : st.Ended.length + 1 ≤ 24 := h2
    have h1 : FV 24 ⟨24, 24, st.Nodes.map (clN y.ID), st.Ended ++ [y.ID]⟩ := h1
    have hso := h.so
    rw [hN] at hso
    have hset : st.Nodes.set ((A.length : Nat) : Int).toNat (⟨y.ID, y.Parent, y.Weight, true⟩ : Nd) = st.Nodes.map (clN y.ID) := by
      conv => lhs; rw [hN]
      rw [set_app, ← map_cl hso, ← hN]
    have hle : ((st.Ended ++ [y.ID]).length : Int) = st.Ended.length + 1 := by rw [List.length_append, List.length_singleton]; omega
    rw [bif_ff, bnoS, bnoS, bndD]
    show ∃ (st' : Fs) (e : Int), bno (app 8 st.Ended [y.ID]) _ = _ ∧ _
    rw [app_ok (by simp; omega) (by simp; omega), bnoS, bndD]
    have hel := h.el
    by_cases hlt : st.Keep < ((st.Ended ++ [y.ID]).length : Int)
    · rw [decide_eq_true hlt, bif_tt]
      cases hE : st.Ended ++ [y.ID] with
      | nil => simp at hE
      | cons x E =>
        have hx : x ∈ st.Ended ++ [y.ID] := by rw [hE]; simp
        have hgx : gix (x :: E) 0 = some x := rfl
        have hgx2 : (x :: E)[((0 : Int)).toNat]? = some x := rfl
        rw [hgx, bnoS, hgx2, bnoS, ← hE]
        obtain ⟨B, z, D, hM, hzx, hoff⟩ := off_any h1 st.Room st.Keep (id := x) (h1.es x hx)
        have hoff : fold_State_off_h st.Room st.Keep x (st.Nodes.map (clN y.ID)) (st.Ended ++ [y.ID]) = _ := hoff
        have hfv := fv_off h1 hM
        rw [hzx] at hfv
        have hfl := filter_ne hx
        show ∃ (st' : Fs) (e : Int), bno (fold_State_off_h st.Room st.Keep x (st.Nodes.set ((A.length : Nat) : Int).toNat (⟨y.ID, y.Parent, y.Weight, true⟩ : Nd)) (st.Ended ++ [y.ID])) _ = _ ∧ _
        rw [hset, hoff, bnoS]
        exact ⟨⟨st.Room, st.Keep, offS B z D, (st.Ended ++ [y.ID]).filter fun e => !decide (e = x)⟩, 0, rfl, by
          have hf2 : (((st.Ended ++ [y.ID]).filter fun e => !decide (e = x)).length : Int) ≤ K := by omega
          have := fv_keep (L := K) hfv hkp.2 hf2
          rw [h.rm, hkp.1]; exact this⟩
    · rw [decide_eq_false hlt, bif_ff]
      refine ⟨⟨st.Room, st.Keep, st.Nodes.map (clN y.ID), st.Ended ++ [y.ID]⟩, 0, ?_, ?_⟩
      · show some (st.Room, st.Keep, st.Nodes.set ((A.length : Nat) : Int).toNat (⟨y.ID, y.Parent, y.Weight, true⟩ : Nd), st.Ended ++ [y.ID], (0 : Int)) = _
        rw [hset]
      · have := fv_keep (L := K) h1 hkp.2 (by omega)
        rw [h.rm, hkp.1]; exact this
  · rw [bif_tt]
    exact ⟨st, 9, rfl, h⟩
theorem shut_nok {K : Int} {st : Fs} (h : FV K st) {id : Int} (h64 : I64 id) (hno : ∀ n ∈ st.Nodes, n.ID ≠ id) : fold_State_shut_h st.Room st.Keep id st.Nodes st.Ended = some (st.Room, st.Keep, st.Nodes, st.Ended, 6) := by
  obtain ⟨q, hq1, hq2⟩ := find_b (R := st.Room) (K := st.Keep) (E := st.Ended) h.ok h64
  cases hq2 with
  | yes A y C hN he _ _ => exact absurd he (hno y (by rw [hN]; simp))
  | no p hp _ _ =>
    unfold fold_State_shut_h
    rw [hq1, bnoS]; rfl
theorem do_any {K : Int} {st : Fs} (h : FV K st) (op : Fo) (h64 : I64 op.ID) : ∃ st' e, fold_Do st op = some (st', e) ∧ FV K st' := by
  have hln := h.ln; have hel := h.el; have hkp := h.kp
  have hown : fold_State_own_h st = some (st.Room, st.Keep, st.Nodes, st.Ended) := by
    unfold fold_State_own_h
    rw [nclone (by omega), bnoS, eclone (by omega), bnoS]
  have hplant : ∃ st' e, fold_Do_J0 op (st.Room, st.Keep, st.Nodes, st.Ended) true = some (st', e) ∧ FV K st' := by
    obtain ⟨st', e, h1, h2⟩ := plant34 (op := op) h h64
    unfold fold_Do_J0
    rw [bif_tt]
    show ∃ st' e, bno (fold_State_plant_h st.Room st.Keep op st.Nodes st.Ended) _ = some (st', e) ∧ _
    rw [h1, bnoS]
    exact ⟨_, _, rfl, h2⟩
  unfold fold_Do
  rw [hown, bnoS, check34 h, bnoS, bndD, show (!decide ((0 : Int) = 0)) = false from rfl, bif_ff, bndD]
  by_cases h0 : op.Kind = 0
  · rw [decide_eq_true h0, bif_tt]; exact hplant
  · rw [decide_eq_false h0, bif_ff, bndD]
    by_cases h1 : op.Kind = 1
    · rw [decide_eq_true h1]; exact hplant
    · rw [decide_eq_false h1]
      unfold fold_Do_J0
      rw [bif_ff, bndD]
      by_cases h2 : op.Kind = 2
      · rw [decide_eq_true h2, bif_tt]
        show ∃ st' e, bno (fold_State_shut_h st.Room st.Keep op.ID st.Nodes st.Ended) _ = some (st', e) ∧ _
        by_cases hid : ∃ n ∈ st.Nodes, n.ID = op.ID
        · obtain ⟨y, hy, e⟩ := hid
          obtain ⟨st', e2, s1, s2⟩ := shut_any h hy
          rw [← e, s1, bnoS]
          exact ⟨_, _, rfl, s2⟩
        · rw [shut_nok h h64 (fun n hn e => hid ⟨n, hn, e⟩), bnoS]
          exact ⟨_, _, rfl, h⟩
      · rw [decide_eq_false h2, bif_ff, bndD]
        by_cases h3 : op.Kind = 3
        · rw [decide_eq_true h3, bif_tt]
          obtain ⟨q, hq1, hq2⟩ := find34 h.ok h64
          have hq1 : fold_State_find ⟨st.Room, st.Keep, st.Nodes, st.Ended⟩ op.ID = some q := hq1
          show ∃ st' e, bno (fold_State_find ⟨st.Room, st.Keep, st.Nodes, st.Ended⟩ op.ID) _ = some (st', e) ∧ _
          rw [hq1, bnoS]
          cases hq2 with
          | yes A y C hN he _ _ =>
            obtain ⟨A, y, C, hN, hyx, hoff⟩ := off34 h (id := op.ID) ⟨y, by rw [hN]; simp, he⟩
            show ∃ st' e, (bif false then _ else _) = some (st', e) ∧ _
            rw [bif_ff]
            show ∃ st' e, bno (fold_State_off_h st.Room st.Keep op.ID st.Nodes st.Ended) _ = some (st', e) ∧ _
            rw [hoff, bnoS]
            refine ⟨_, _, rfl, ?_⟩
            have := fv_off h hN
            rw [hyx] at this
            exact this
          | no p hp _ _ =>
            exact ⟨st, 6, rfl, h⟩
        · rw [decide_eq_false h3, bif_ff]
          exact ⟨st, 12, rfl, h⟩
end Go.Fn
set_option linter.unusedSimpArgs false
set_option linter.unusedVariables false
open Go Go.IL
namespace Go.Fn
/-! Fold: what is below. -/
/-- Below a place. -/
inductive Dsc (N : List Nd) (d : Int) : Int → Prop
  | child (n : Nd) (hn : n ∈ N) (hp : n.Parent = d) : Dsc N d n.ID
  | up (n : Nd) (hn : n ∈ N) (hp : n.Parent ≠ 0) (h : Dsc N d n.Parent) : Dsc N d n.ID
/-- A tree: as FV has it. -/
structure Tr (N : List Nd) (r : Int → Nat) : Prop where
  so : N.Pairwise (fun a b => a.ID < b.ID)
  id : ∀ n ∈ N, 1 ≤ n.ID
  pa : ∀ n ∈ N, n.Parent = 0 ∨ ∃ m ∈ N, m.ID = n.Parent
  rk : ∀ n ∈ N, n.Parent ≠ 0 → r n.Parent < r n.ID
theorem FV.tr {K : Int} {st : Fs} (h : FV K st) : ∃ r, Tr st.Nodes r := by
  obtain ⟨r, hr⟩ := h.rk
  exact ⟨r, h.so, fun n hn => (h.ra n hn).1.1, h.pa, hr⟩
section
variable {N : List Nd} {r : Int → Nat}
theorem path_tr (h : Tr N r) {n : Nd} (hn : n ∈ N) : pathS N N.length n.ID = if n.Parent = 0 then [] else n.Parent :: pathS N N.length n.Parent := by
  obtain ⟨k, hk⟩ : ∃ k, N.length = k + 1 := ⟨N.length - 1, by have := List.length_pos_of_mem hn; omega⟩
  by_cases hz : n.Parent = 0
  · rw [if_pos hz, hk, pathS, par_of h.so hn]
    simp only [if_pos hz]
  · rw [if_neg hz]
    have e1 : pathS N N.length n.ID = n.Parent :: pathS N k n.Parent := by
      rw [hk, pathS, par_of h.so hn]
      simp only [if_neg hz]
    obtain ⟨h1, h2⟩ := path_short h.so h.rk h.pa N.length n.ID ⟨n, hn, rfl⟩
    have h3 := nodup_le h1 h2
    rw [e1, List.length_cons, List.length_cons, List.length_map] at h3
    have h4 := path_stop (N := N) k n.Parent (by omega)
    rw [e1, hk, h4]
theorem dsc_inv (h : Tr N r) {d : Int} {n : Nd} (hn : n ∈ N) (hd : Dsc N d n.ID) : n.Parent = d ∨ (n.Parent ≠ 0 ∧ Dsc N d n.Parent) := by
  generalize hz : n.ID = z at hd
  cases hd with
  | child m hm hp =>
    have : m = n := uniq34 h.so hm hn hz.symm
    subst this; exact .inl hp
  | up m hm hp h2 =>
    have : m = n := uniq34 h.so hm hn hz.symm
    subst this; exact .inr ⟨hp, h2⟩
theorem dsc_node {d z : Int} (hd : Dsc N d z) : ∃ n ∈ N, n.ID = z := by
  cases hd with
  | child n hn _ => exact ⟨n, hn, rfl⟩
  | up n hn _ _ => exact ⟨n, hn, rfl⟩
theorem dsc_rank (h : Tr N r) {d z : Int} (h0 : d ≠ 0) (hd : Dsc N d z) : r d < r z := by
  induction hd with
  | child n hn hp => have := h.rk n hn (by rw [hp]; exact h0); rw [hp] at this; exact this
  | up n hn hp _ ih => have := h.rk n hn hp; omega
theorem dsc_path (h : Tr N r) {d z : Int} (h0 : d ≠ 0) (hd : Dsc N d z) : ∃ xs, pathS N N.length z = xs ++ d :: pathS N N.length d ∧ ∀ x ∈ xs, Dsc N d x := by
  induction hd with
  | child n hn hp => exact ⟨[], by rw [path_tr h hn, if_neg (by rw [hp]; exact h0), hp]; rfl, fun _ hx => (List.not_mem_nil hx).elim⟩
  | up n hn hp hh ih =>
    obtain ⟨xs, e, hx⟩ := ih
    refine ⟨n.Parent :: xs, by rw [path_tr h hn, if_neg hp, e]; rfl, fun x hx2 => ?_⟩
    rcases List.mem_cons.1 hx2 with e2 | hx2
    · rw [e2]; exact hh
    · exact hx x hx2
theorem sib_no (h : Tr N r) {c d : Nd} (hc : c ∈ N) (hd : d ∈ N) (hp : c.Parent = d.Parent) : ¬ Dsc N d.ID c.ID := fun hh => by
  have hdi := h.id d hd
  rcases dsc_inv h hc hh with e | ⟨e1, e2⟩
  · have := h.rk d hd (by rw [← hp, e]; omega)
    rw [← hp, e] at this; omega
  · have h1 := dsc_rank h (by omega) e2
    have h2 := h.rk d hd (by rw [← hp]; exact e1)
    rw [hp] at h1; omega
theorem sib_one (h : Tr N r) {c d : Nd} (hc : c ∈ N) (hd : d ∈ N) (hp : c.Parent = d.Parent) {z : Int} (h1 : z = c.ID ∨ Dsc N c.ID z) (h2 : z = d.ID ∨ Dsc N d.ID z) : c = d := by
  have key : ∀ z, Dsc N c.ID z → (z = d.ID ∨ Dsc N d.ID z) → c = d := fun z hz => by
    induction hz with
    | child n hn hp2 =>
      intro h2
      rcases h2 with e | h2
      · have : n = d := uniq34 h.so hn hd e
        subst this
        exact absurd (Dsc.child n hn hp2) (sib_no h hd hc hp.symm)
      · rcases dsc_inv h hn h2 with e | ⟨_, e2⟩
        · exact uniq34 h.so hc hd (hp2.symm.trans e)
        · rw [hp2] at e2
          exact absurd e2 (sib_no h hc hd hp)
    | up n hn hp2 hh ih =>
      intro h2
      rcases h2 with e | h2
      · have : n = d := uniq34 h.so hn hd e
        subst this
        exact absurd (Dsc.up n hn hp2 hh) (sib_no h hd hc hp.symm)
      · rcases dsc_inv h hn h2 with e | ⟨_, e2⟩
        · exact ih (.inl e)
        · exact ih (.inr e2)
  rcases h1 with e | h1
  · rcases h2 with e2 | h2
    · exact uniq34 h.so hc hd (e.symm.trans e2)
    · rw [e] at h2
      exact absurd h2 (sib_no h hc hd hp)
  · exact key z h1 h2
theorem dsc_root (h : Tr N r) : ∀ (k : Nat) {n : Nd}, n ∈ N → r n.ID ≤ k → Dsc N 0 n.ID
  | k, n, hn, hk => by
    by_cases hz : n.Parent = 0
    · exact .child n hn hz
    · obtain ⟨m, hm, e⟩ := (h.pa n hn).resolve_left hz
      have hr := h.rk n hn hz
      match k, hk with
      | 0, hk => omega
      | k + 1, hk =>
        have := dsc_root h k hm (by rw [e]; omega)
        rw [e] at this
        exact .up n hn hz this
end
/-- What is below a place, in the order in which it is found. -/
def belowS (N : List Nd) : Nat → Int → List Int
  | 0, _ => []
  | k + 1, id => N.flatMap fun n => if n.Parent = id then n.ID :: belowS N k n.ID else []
/-- Nobody is below by more than so many steps. -/
def Hb (N : List Nd) : Nat → Int → Prop
  | 0, id => ∀ n ∈ N, n.Parent ≠ id
  | k + 1, id => ∀ n ∈ N, n.Parent = id → Hb N k n.ID
theorem dsc_under {N : List Nd} {id z : Int} {n : Nd} (hn : n ∈ N) (h0 : n.ID ≠ 0) (hp : n.Parent = id) (hd : Dsc N n.ID z) : Dsc N id z := by
  induction hd with
  | child m hm hp2 => exact .up m hm (by rw [hp2]; exact h0) (by rw [hp2]; exact .child n hn hp)
  | up m hm hp2 _ ih => exact .up m hm hp2 ih
theorem bel_mem {N : List Nd} : ∀ (k : Nat) (id z : Int), (∀ n ∈ N, n.ID ≠ 0) → z ∈ belowS N k id → Dsc N id z
  | 0, _, _, _, h => (List.not_mem_nil h).elim
  | k + 1, id, z, h0, h => by
    unfold belowS at h
    obtain ⟨n, hn, hz⟩ := List.mem_flatMap.1 h
    by_cases hp : n.Parent = id
    · rw [if_pos hp] at hz
      rcases List.mem_cons.1 hz with e | hz
      · rw [e]; exact .child n hn hp
      · exact dsc_under hn (h0 n hn) hp (bel_mem k n.ID z h0 hz)
    · rw [if_neg hp] at hz; exact (List.not_mem_nil hz).elim
theorem bel_all {N : List Nd} {r : Int → Nat} (h : Tr N r) : ∀ (k : Nat) (id z : Int), Hb N k id → Dsc N id z → z ∈ belowS N k id := by
  intro k
  induction k with
  | zero =>
    intro id z hb hd
    exfalso
    induction hd with
    | child n hn hp => exact hb n hn hp
    | up n hn hp _ ih => exact ih
  | succ k ih =>
    intro id z hb hd
    have key : ∃ c ∈ N, c.Parent = id ∧ (z = c.ID ∨ Dsc N c.ID z) := by
      induction hd with
      | child n hn hp => exact ⟨n, hn, hp, .inl rfl⟩
      | up n hn hp _ ih2 =>
        obtain ⟨c, hc, hcp, e | e⟩ := ih2
        · exact ⟨c, hc, hcp, .inr (.child n hn e)⟩
        · exact ⟨c, hc, hcp, .inr (.up n hn hp e)⟩
    obtain ⟨c, hc, hcp, e⟩ := key
    unfold belowS
    refine List.mem_flatMap.2 ⟨c, hc, ?_⟩
    rw [if_pos hcp]
    rcases e with e | e
    · rw [e]; exact List.mem_cons_self
    · exact List.mem_cons_of_mem _ (ih c.ID z (hb c hc hcp) e)
theorem bel_nodup {N : List Nd} {r : Int → Nat} (h : Tr N r) : ∀ (k : Nat) (id : Int), (belowS N k id).Nodup := by
  have h0 : ∀ n ∈ N, n.ID ≠ 0 := fun n hn => by have := h.id n hn; omega
  intro k
  induction k with
  | zero => intro id; exact .nil
  | succ k ih =>
    intro id
    unfold belowS
    have main : ∀ l : List Nd, (∀ n ∈ l, n ∈ N) → l.Pairwise (fun a b => a.ID < b.ID) → (l.flatMap fun n => if n.Parent = id then n.ID :: belowS N k n.ID else []).Nodup := fun l => by
      induction l with
      | nil => intro _ _; exact .nil
      | cons n l ihl =>
        intro hl hs
        have hs2 := List.pairwise_cons.1 hs
        have hrest := ihl (fun m hm => hl m (by simp [hm])) hs2.2
        have hn := hl n (by simp)
        rw [List.flatMap_cons, List.nodup_append]
        refine ⟨?_, hrest, fun a ha b hb => ?_⟩
        · split
          · refine List.nodup_cons.2 ⟨fun hm => ?_, ih n.ID⟩
            have hd := bel_mem k n.ID n.ID h0 hm
            have := dsc_rank h (h0 n hn) hd; omega
          · exact .nil
        · rintro rfl
          by_cases hp : n.Parent = id
          · rw [if_pos hp] at ha
            obtain ⟨m, hm, hb⟩ := List.mem_flatMap.1 hb
            by_cases hmp : m.Parent = id
            · rw [if_pos hmp] at hb
              have e1 : a = n.ID ∨ Dsc N n.ID a := (List.mem_cons.1 ha).imp (fun e => e) (fun h2 => bel_mem k n.ID a h0 h2)
              have e2 : a = m.ID ∨ Dsc N m.ID a := (List.mem_cons.1 hb).imp (fun e => e) (fun h2 => bel_mem k m.ID a h0 h2)
              have := sib_one h hn (hl m (by simp [hm])) (hp.trans hmp.symm) e1 e2
              subst this
              have := hs2.1 n hm; omega
            · rw [if_neg hmp] at hb; exact List.not_mem_nil hb
          · rw [if_neg hp] at ha; exact List.not_mem_nil ha
    exact main N (fun _ hn => hn) h.so
/-- A bound of the steps below. -/
theorem hb_all {N : List Nd} {r : Int → Nat} (h : Tr N r) : ∀ (k : Nat) (n : Nd), n ∈ N → N.length ≤ k + (pathS N N.length n.ID).length + 1 → Hb N k n.ID := by
  intro k
  have hlt : ∀ n ∈ N, (pathS N N.length n.ID).length + 1 ≤ N.length := fun n hn => by
    obtain ⟨h1, h2⟩ := path_short h.so h.rk h.pa N.length n.ID ⟨n, hn, rfl⟩
    have h3 := nodup_le h1 h2
    rw [List.length_cons, List.length_map] at h3
    exact h3
  have hch : ∀ n ∈ N, ∀ c ∈ N, c.Parent = n.ID → (pathS N N.length c.ID).length = (pathS N N.length n.ID).length + 1 := fun n hn c hc hp => by
    have := h.id n hn
    rw [path_tr h hc, if_neg (by rw [hp]; omega), hp, List.length_cons]
  induction k with
  | zero =>
    intro n hn hk c hc hp
    have := hch n hn c hc hp
    have := hlt c hc
    omega
  | succ k ih =>
    intro n hn hk c hc hp
    have := hch n hn c hc hp
    exact ih c hc (by omega)
theorem hb_root {N : List Nd} {r : Int → Nat} (h : Tr N r) : Hb N (N.length + 1) 0 := fun c hc _ => hb_all h N.length c hc (by omega)
end Go.Fn
set_option linter.unusedSimpArgs false
set_option linter.unusedVariables false
open Go Go.IL
namespace Go.Fn
/-! Sorting ends, and makes up nothing. -/
def Tot {α : Type} (o : Option α) (Q : α → Prop) : Prop := ∃ r, o = some r ∧ Q r
def In (M : List Int) (n : Nat) (l : List Int) : Prop := l.length = n ∧ ∀ x ∈ l, x ∈ M
section
variable {α β : Type} {Q : α → Prop} {M : List Int} {n : Nat} {l : List Int}
theorem tot_s {r : α} (h : Q r) : Tot (some r) Q := ⟨r, rfl, h⟩
theorem tot_b {e : β} {f : β → Option α} (h : Tot (f e) Q) : Tot (bnd e f) Q := by rw [bndD]; exact h
theorem tot_gix {i : Int} {f : Int → Option α} (hl : In M n l) (h0 : 0 ≤ i) (h1 : i < n) (h : ∀ x, x ∈ M → Tot (f x) Q) : Tot (bno (gix l i) f) Q := by
  have hlt : i.toNat < l.length := by rw [hl.1]; omega
  rw [gix_get h0 hlt, bnoS]
  exact h _ (hl.2 _ (List.getElem_mem hlt))
theorem tot_get {i : Int} {f : Int → Option α} (hl : In M n l) (h0 : 0 ≤ i) (h1 : i < n) (h : ∀ x, x ∈ M → Tot (f x) Q) : Tot (bno (l[i.toNat]?) f) Q := by
  have hlt : i.toNat < l.length := by rw [hl.1]; omega
  rw [List.getElem?_eq_getElem hlt, bnoS]
  exact h _ (hl.2 _ (List.getElem_mem hlt))
theorem tot_set {i : Nat} {y : Int} {f : List Int → Option α} (hl : In M n l) (hy : y ∈ M) (h : ∀ w, In M n w → Tot (f w) Q) : Tot (bnd (l.set i y) f) Q := by
  rw [bndD]
  refine h _ ⟨by rw [List.length_set]; exact hl.1, fun x hx => ?_⟩
  rcases List.mem_or_eq_of_mem_set hx with hx | rfl
  · exact hl.2 x hx
  · exact hy
theorem less34 (a b : Int) : cmp_Less_int a b = some (decide (a < b)) := by
  unfold cmp_Less_int cmp_isNaN_int
  simp only [bndD, bnoS, decide_true, Bool.not_true, ft, gdff, Bool.not_false, Bool.and_true, Bool.false_and, Bool.false_or]
theorem tot_less {a b : Int} {f : Bool → Option α} (h1 : Tot (f true) Q) (h2 : Tot (f false) Q) : Tot (bno (cmp_Less_int a b) f) Q := by
  rw [less34, bnoS]
  cases decide (a < b)
  · exact h2
  · exact h1
theorem tot_dec {p : Prop} [Decidable p] {f : Bool → Option α} (h1 : p → Tot (f true) Q) (h2 : ¬ p → Tot (f false) Q) : Tot (bnd (decide p) f) Q := by
  rw [bndD]
  by_cases h : p
  · rw [decide_eq_true h]; exact h1 h
  · rw [decide_eq_false h]; exact h2 h
theorem tot_w {e : Int} {f : Int → Option α} (h0 : -9223372036854775808 ≤ e) (h1 : e ≤ 9223372036854775807) (h : Tot (f e) Q) : Tot (bnd (IntKind.wrap .i64 e) f) Q := by
  rw [bndD, w64 h0 h1]; exact h
theorem tot_gt {o : Option β} {d : β} {f : β → Option α} (h : Tot (bno o f) Q) : Tot (bno (gd (true == true) o d) f) Q := h
theorem tot_gf {o : Option β} {d : β} {f : β → Option α} (h : Tot (f d) Q) : Tot (bno (gd (false == true) o d) f) Q := by rw [ft, gdff, bnoS]; exact h
theorem tot_bt {o p : Option α} (h : Tot o Q) : Tot (bif true then o else p) Q := h
theorem tot_bf {o p : Option α} (h : Tot p Q) : Tot (bif false then o else p) Q := h
theorem tot_nt {o p : Option α} (h : Tot p Q) : Tot (bif (!true) then o else p) Q := h
theorem tot_nf {o p : Option α} (h : Tot o Q) : Tot (bif (!false) then o else p) Q := h
theorem tot_tt {f : Bool → Option α} (h : Tot (f true) Q) : Tot (bnd (true && true) f) Q := by rw [bndD]; exact h
theorem tot_tf {f : Bool → Option α} (h : Tot (f false) Q) : Tot (bnd (true && false) f) Q := by rw [bndD]; exact h
theorem tot_f {b : Bool} {f : Bool → Option α} (h : Tot (f false) Q) : Tot (bnd (false && b) f) Q := by rw [bndD]; exact h
theorem tot_tn {f : Bool → Option α} (h : Tot (f false) Q) : Tot (bnd (true && !true) f) Q := by rw [bndD]; exact h
theorem tot_tnf {f : Bool → Option α} (h : Tot (f true) Q) : Tot (bnd (true && !false) f) Q := by rw [bndD]; exact h
theorem tot_q {e c : Int} {f : Int → Option α} (h0 : 0 ≤ e) (h1 : e ≤ 1000) (hc : 0 < c) (h : Tot (f (e / c)) Q) : Tot (bno (quoI .i64 e c) f) Q := by
  have h2 : 0 ≤ e / c := Int.ediv_nonneg h0 (by omega)
  have h3 : e / c ≤ e := Int.ediv_le_self _ h0
  unfold quoI
  rw [if_neg (by omega), Int.tdiv_eq_ediv_of_nonneg h0, w64 (by omega) (by omega), bnoS]; exact h
theorem tot_o {o : Option β} {R : β → Prop} {f : β → Option α} (ho : Tot o R) (h : ∀ x, R x → Tot (f x) Q) : Tot (bno o f) Q := by
  obtain ⟨x, e, hx⟩ := ho
  rw [e, bnoS]; exact h x hx
theorem tot_chk {p : Prop} [Decidable p] {o : Option α} (hp : p) (h : Tot o Q) : Tot (chk p o) Q := by rw [chk_t hp]; exact h
end
section
variable {M : List Int} {n : Nat}
theorem ins_L1 {α : Type} {Q : List Int → Prop} {a i : Int} {kk : List Int → Int → Option (List Int)} (ha : 0 ≤ a) (hi : 0 ≤ i ∧ i ≤ 1000) (hk : ∀ w, In M n w → Tot (kk w (i + 1)) Q) (hn : n ≤ 1000) : ∀ (f : Nat) (v : List Int) (j : Int), In M n v → a ≤ j → j < n → (j - a).toNat < f → Tot (slices_insertionSortOrdered_int_h_L1 a i kk f v j) Q
  | 0, _, _, _, _, _, h => absurd h (by omega)
  | f + 1, v, j, hv, h0, h1, hf => by
    rw [slices_insertionSortOrdered_int_h_L1]
    repeat' (first | (with_reducible refine tot_gix (by assumption) ?_ ?_ (fun _ _ => ?_); omega; omega) | (with_reducible refine tot_get (by assumption) ?_ ?_ (fun _ _ => ?_); omega; omega) | (with_reducible refine tot_w ?_ ?_ ?_; omega; omega) | (with_reducible refine tot_set (by assumption) (by assumption) (fun _ _ => ?_)) | (with_reducible refine tot_less ?_ ?_) | (with_reducible refine tot_gt ?_) | (with_reducible refine tot_gf ?_) | (with_reducible refine tot_bt ?_) | (with_reducible refine tot_bf ?_) | (with_reducible refine tot_nt ?_) | (with_reducible refine tot_nf ?_) | (with_reducible refine tot_tt ?_) | (with_reducible refine tot_tf ?_) | (with_reducible refine tot_tn ?_) | (with_reducible refine tot_tnf ?_) | (with_reducible refine tot_f ?_) | (with_reducible refine tot_dec (fun _ => ?_) (fun _ => ?_)) | (with_reducible refine tot_q ?_ ?_ ?_ ?_; omega; omega; decide) | (with_reducible refine tot_s ?_; assumption))
    · exact ins_L1 (α := α) ha hi hk hn f _ _ (by assumption) (by omega) (by omega) (by omega)
    · exact hk _ hv
    · exact hk _ hv
theorem ins_L0 {a b : Int} (ha : 0 ≤ a) (hb : b ≤ n) (hn : n ≤ 1000) : ∀ (f : Nat) (v : List Int) (i : Int), In M n v → a + 1 ≤ i → i ≤ 1000 → (b - i).toNat < f → Tot (slices_insertionSortOrdered_int_h_L0 a b f v i) (In M n)
  | 0, _, _, _, _, _, h => absurd h (by omega)
  | f + 1, v, i, hv, h0, h1, hf => by
    rw [slices_insertionSortOrdered_int_h_L0]
    repeat' (first | (with_reducible refine tot_gix (by assumption) ?_ ?_ (fun _ _ => ?_); omega; omega) | (with_reducible refine tot_get (by assumption) ?_ ?_ (fun _ _ => ?_); omega; omega) | (with_reducible refine tot_w ?_ ?_ ?_; omega; omega) | (with_reducible refine tot_set (by assumption) (by assumption) (fun _ _ => ?_)) | (with_reducible refine tot_less ?_ ?_) | (with_reducible refine tot_gt ?_) | (with_reducible refine tot_gf ?_) | (with_reducible refine tot_bt ?_) | (with_reducible refine tot_bf ?_) | (with_reducible refine tot_nt ?_) | (with_reducible refine tot_nf ?_) | (with_reducible refine tot_tt ?_) | (with_reducible refine tot_tf ?_) | (with_reducible refine tot_tn ?_) | (with_reducible refine tot_tnf ?_) | (with_reducible refine tot_f ?_) | (with_reducible refine tot_dec (fun _ => ?_) (fun _ => ?_)) | (with_reducible refine tot_q ?_ ?_ ?_ ?_; omega; omega; decide) | (with_reducible refine tot_s ?_; assumption))
    exact ins_L1 (α := Int) ha (by omega) (fun w hw => ins_L0 ha hb hn f w (i + 1) hw (by omega) (by omega) (by omega)) hn fuel v i hv (by omega) (by omega) (fuel_gt (by omega))
theorem ins_t {a b : Int} {v : List Int} (hv : In M n v) (ha : 0 ≤ a) (hab : a ≤ b) (hb : b ≤ n) (hn : n ≤ 900) : Tot (slices_insertionSortOrdered_int_h a b v) (In M n) := by
  unfold slices_insertionSortOrdered_int_h
  repeat' (first | (with_reducible refine tot_gix (by assumption) ?_ ?_ (fun _ _ => ?_); omega; omega) | (with_reducible refine tot_get (by assumption) ?_ ?_ (fun _ _ => ?_); omega; omega) | (with_reducible refine tot_w ?_ ?_ ?_; omega; omega) | (with_reducible refine tot_set (by assumption) (by assumption) (fun _ _ => ?_)) | (with_reducible refine tot_less ?_ ?_) | (with_reducible refine tot_gt ?_) | (with_reducible refine tot_gf ?_) | (with_reducible refine tot_bt ?_) | (with_reducible refine tot_bf ?_) | (with_reducible refine tot_nt ?_) | (with_reducible refine tot_nf ?_) | (with_reducible refine tot_tt ?_) | (with_reducible refine tot_tf ?_) | (with_reducible refine tot_tn ?_) | (with_reducible refine tot_tnf ?_) | (with_reducible refine tot_f ?_) | (with_reducible refine tot_dec (fun _ => ?_) (fun _ => ?_)) | (with_reducible refine tot_q ?_ ?_ ?_ ?_; omega; omega; decide) | (with_reducible refine tot_s ?_; assumption))
  exact ins_L0 ha hb (by omega) fuel v (a + 1) hv (by omega) (by omega) (fuel_gt (by omega))
theorem sift_J {Q : List Int → Prop} {hi a2 : Int} (h0 : 0 ≤ a2) (h1 : a2 + hi ≤ n) (hn : n ≤ 900) {v : List Int} (hv : In M n v) {r c : Int} (hr : 0 ≤ r ∧ r < hi) (hc : 0 ≤ c ∧ c < hi) {kk : List Int → Int → Option (List Int)} (hs : ∀ w, In M n w → Q w) (hk : ∀ w, In M n w → Tot (kk w c) Q) : Tot (slices_siftDownOrdered_int_h_J1 a2 v r kk c) Q := by
  unfold slices_siftDownOrdered_int_h_J1
  repeat' (first | (with_reducible refine tot_gix (by assumption) ?_ ?_ (fun _ _ => ?_); omega; omega) | (with_reducible refine tot_get (by assumption) ?_ ?_ (fun _ _ => ?_); omega; omega) | (with_reducible refine tot_w ?_ ?_ ?_; omega; omega) | (with_reducible refine tot_set (by assumption) (by assumption) (fun _ _ => ?_)) | (with_reducible refine tot_less ?_ ?_) | (with_reducible refine tot_gt ?_) | (with_reducible refine tot_gf ?_) | (with_reducible refine tot_bt ?_) | (with_reducible refine tot_bf ?_) | (with_reducible refine tot_nt ?_) | (with_reducible refine tot_nf ?_) | (with_reducible refine tot_tt ?_) | (with_reducible refine tot_tf ?_) | (with_reducible refine tot_tn ?_) | (with_reducible refine tot_tnf ?_) | (with_reducible refine tot_f ?_) | (with_reducible refine tot_dec (fun _ => ?_) (fun _ => ?_)) | (with_reducible refine tot_q ?_ ?_ ?_ ?_; omega; omega; decide) | (with_reducible refine tot_s ?_; assumption))
  · exact hk _ (by assumption)
  · exact tot_s (hs _ hv)
theorem sift_L0 {hi a2 : Int} (h0 : 0 ≤ a2) (h1 : a2 + hi ≤ n) (hn : n ≤ 900) : ∀ (f : Nat) (v : List Int) (r : Int), In M n v → 0 ≤ r → r ≤ 1000 → (hi - r).toNat < f → Tot (slices_siftDownOrdered_int_h_L0 hi a2 f v r) (In M n)
  | 0, _, _, _, _, _, h => absurd h (by omega)
  | f + 1, v, r, hv, hr0, hr1, hf => by
    rw [slices_siftDownOrdered_int_h_L0]
    repeat' (first | (with_reducible refine tot_gix (by assumption) ?_ ?_ (fun _ _ => ?_); omega; omega) | (with_reducible refine tot_get (by assumption) ?_ ?_ (fun _ _ => ?_); omega; omega) | (with_reducible refine tot_w ?_ ?_ ?_; omega; omega) | (with_reducible refine tot_set (by assumption) (by assumption) (fun _ _ => ?_)) | (with_reducible refine tot_less ?_ ?_) | (with_reducible refine tot_gt ?_) | (with_reducible refine tot_gf ?_) | (with_reducible refine tot_bt ?_) | (with_reducible refine tot_bf ?_) | (with_reducible refine tot_nt ?_) | (with_reducible refine tot_nf ?_) | (with_reducible refine tot_tt ?_) | (with_reducible refine tot_tf ?_) | (with_reducible refine tot_tn ?_) | (with_reducible refine tot_tnf ?_) | (with_reducible refine tot_f ?_) | (with_reducible refine tot_dec (fun _ => ?_) (fun _ => ?_)) | (with_reducible refine tot_q ?_ ?_ ?_ ?_; omega; omega; decide) | (with_reducible refine tot_s ?_; assumption))
    all_goals exact sift_J h0 h1 hn hv (by omega) (by omega) (fun _ h => h) (fun w hw => sift_L0 h0 h1 hn f w _ hw (by omega) (by omega) (by omega))
theorem sift_t {lo hi a2 : Int} {v : List Int} (hv : In M n v) (hl : 0 ≤ lo ∧ lo ≤ 900) (h0 : 0 ≤ a2) (h1 : a2 + hi ≤ n) (hn : n ≤ 900) : Tot (slices_siftDownOrdered_int_h lo hi a2 v) (In M n) := by
  unfold slices_siftDownOrdered_int_h
  exact sift_L0 h0 h1 hn fuel v lo hv hl.1 (by omega) (fuel_gt (by omega))
theorem heap_L1 {a b : Int} (ha : 0 ≤ a) (hb : b ≤ n) (hn : n ≤ 900) : ∀ (f : Nat) (v : List Int) (i : Int), In M n v → -1 ≤ i → a + i < b → (i + 1).toNat < f → Tot (slices_heapSortOrdered_int_h_L1 a f v i) (In M n)
  | 0, _, _, _, _, _, h => absurd h (by omega)
  | f + 1, v, i, hv, h0, h1, hf => by
    rw [slices_heapSortOrdered_int_h_L1]
    repeat' (first | (with_reducible refine tot_gix (by assumption) ?_ ?_ (fun _ _ => ?_); omega; omega) | (with_reducible refine tot_get (by assumption) ?_ ?_ (fun _ _ => ?_); omega; omega) | (with_reducible refine tot_w ?_ ?_ ?_; omega; omega) | (with_reducible refine tot_set (by assumption) (by assumption) (fun _ _ => ?_)) | (with_reducible refine tot_less ?_ ?_) | (with_reducible refine tot_gt ?_) | (with_reducible refine tot_gf ?_) | (with_reducible refine tot_bt ?_) | (with_reducible refine tot_bf ?_) | (with_reducible refine tot_nt ?_) | (with_reducible refine tot_nf ?_) | (with_reducible refine tot_tt ?_) | (with_reducible refine tot_tf ?_) | (with_reducible refine tot_tn ?_) | (with_reducible refine tot_tnf ?_) | (with_reducible refine tot_f ?_) | (with_reducible refine tot_dec (fun _ => ?_) (fun _ => ?_)) | (with_reducible refine tot_q ?_ ?_ ?_ ?_; omega; omega; decide) | (with_reducible refine tot_s ?_; assumption))
    refine tot_o (sift_t (by assumption) (by omega) ha (by omega) hn) (fun w hw => ?_)
    refine tot_chk (by rw [hw.1, hv.1]) ?_
    repeat' (first | (with_reducible refine tot_gix (by assumption) ?_ ?_ (fun _ _ => ?_); omega; omega) | (with_reducible refine tot_get (by assumption) ?_ ?_ (fun _ _ => ?_); omega; omega) | (with_reducible refine tot_w ?_ ?_ ?_; omega; omega) | (with_reducible refine tot_set (by assumption) (by assumption) (fun _ _ => ?_)) | (with_reducible refine tot_less ?_ ?_) | (with_reducible refine tot_gt ?_) | (with_reducible refine tot_gf ?_) | (with_reducible refine tot_bt ?_) | (with_reducible refine tot_bf ?_) | (with_reducible refine tot_nt ?_) | (with_reducible refine tot_nf ?_) | (with_reducible refine tot_tt ?_) | (with_reducible refine tot_tf ?_) | (with_reducible refine tot_tn ?_) | (with_reducible refine tot_tnf ?_) | (with_reducible refine tot_f ?_) | (with_reducible refine tot_dec (fun _ => ?_) (fun _ => ?_)) | (with_reducible refine tot_q ?_ ?_ ?_ ?_; omega; omega; decide) | (with_reducible refine tot_s ?_; assumption))
    exact heap_L1 ha hb hn f w _ hw (by omega) (by omega) (by omega)
theorem heap_L0 {a b : Int} (ha : 0 ≤ a) (hb : b ≤ n) (hab : a ≤ b) (hn : n ≤ 900) : ∀ (f : Nat) (v : List Int) (i : Int), In M n v → -1 ≤ i → i ≤ 900 → (i + 1).toNat < f → Tot (slices_heapSortOrdered_int_h_L0 a (b - a) f v i) (In M n)
  | 0, _, _, _, _, _, h => absurd h (by omega)
  | f + 1, v, i, hv, h0, h1, hf => by
    rw [slices_heapSortOrdered_int_h_L0]
    repeat' (first | (with_reducible refine tot_gix (by assumption) ?_ ?_ (fun _ _ => ?_); omega; omega) | (with_reducible refine tot_get (by assumption) ?_ ?_ (fun _ _ => ?_); omega; omega) | (with_reducible refine tot_w ?_ ?_ ?_; omega; omega) | (with_reducible refine tot_set (by assumption) (by assumption) (fun _ _ => ?_)) | (with_reducible refine tot_less ?_ ?_) | (with_reducible refine tot_gt ?_) | (with_reducible refine tot_gf ?_) | (with_reducible refine tot_bt ?_) | (with_reducible refine tot_bf ?_) | (with_reducible refine tot_nt ?_) | (with_reducible refine tot_nf ?_) | (with_reducible refine tot_tt ?_) | (with_reducible refine tot_tf ?_) | (with_reducible refine tot_tn ?_) | (with_reducible refine tot_tnf ?_) | (with_reducible refine tot_f ?_) | (with_reducible refine tot_dec (fun _ => ?_) (fun _ => ?_)) | (with_reducible refine tot_q ?_ ?_ ?_ ?_; omega; omega; decide) | (with_reducible refine tot_s ?_; assumption))
    · refine tot_o (sift_t hv (by omega) ha (by omega) hn) (fun w hw => ?_)
      refine tot_chk (by rw [hw.1, hv.1]) ?_
      repeat' (first | (with_reducible refine tot_gix (by assumption) ?_ ?_ (fun _ _ => ?_); omega; omega) | (with_reducible refine tot_get (by assumption) ?_ ?_ (fun _ _ => ?_); omega; omega) | (with_reducible refine tot_w ?_ ?_ ?_; omega; omega) | (with_reducible refine tot_set (by assumption) (by assumption) (fun _ _ => ?_)) | (with_reducible refine tot_less ?_ ?_) | (with_reducible refine tot_gt ?_) | (with_reducible refine tot_gf ?_) | (with_reducible refine tot_bt ?_) | (with_reducible refine tot_bf ?_) | (with_reducible refine tot_nt ?_) | (with_reducible refine tot_nf ?_) | (with_reducible refine tot_tt ?_) | (with_reducible refine tot_tf ?_) | (with_reducible refine tot_tn ?_) | (with_reducible refine tot_tnf ?_) | (with_reducible refine tot_f ?_) | (with_reducible refine tot_dec (fun _ => ?_) (fun _ => ?_)) | (with_reducible refine tot_q ?_ ?_ ?_ ?_; omega; omega; decide) | (with_reducible refine tot_s ?_; assumption))
      exact heap_L0 ha hb hab hn f w _ hw (by omega) (by omega) (by omega)
    · exact heap_L1 ha hb hn fuel v _ hv (by omega) (by omega) (fuel_gt (by omega))
theorem heap_t {a b : Int} {v : List Int} (hv : In M n v) (ha : 0 ≤ a) (hab : a < b) (hb : b ≤ n) (hn : n ≤ 900) : Tot (slices_heapSortOrdered_int_h a b v) (In M n) := by
  unfold slices_heapSortOrdered_int_h
  repeat' (first | (with_reducible refine tot_gix (by assumption) ?_ ?_ (fun _ _ => ?_); omega; omega) | (with_reducible refine tot_get (by assumption) ?_ ?_ (fun _ _ => ?_); omega; omega) | (with_reducible refine tot_w ?_ ?_ ?_; omega; omega) | (with_reducible refine tot_set (by assumption) (by assumption) (fun _ _ => ?_)) | (with_reducible refine tot_less ?_ ?_) | (with_reducible refine tot_gt ?_) | (with_reducible refine tot_gf ?_) | (with_reducible refine tot_bt ?_) | (with_reducible refine tot_bf ?_) | (with_reducible refine tot_nt ?_) | (with_reducible refine tot_nf ?_) | (with_reducible refine tot_tt ?_) | (with_reducible refine tot_tf ?_) | (with_reducible refine tot_tn ?_) | (with_reducible refine tot_tnf ?_) | (with_reducible refine tot_f ?_) | (with_reducible refine tot_dec (fun _ => ?_) (fun _ => ?_)) | (with_reducible refine tot_q ?_ ?_ ?_ ?_; omega; omega; decide) | (with_reducible refine tot_s ?_; assumption))
  exact heap_L0 ha hb (by omega) hn fuel v _ hv (by omega) (by omega) (fuel_gt (by omega))
theorem rev_L0 {a b : Int} (ha : 0 ≤ a) (hb : b ≤ n) (hn : n ≤ 900) : ∀ (f : Nat) (v : List Int) (i j : Int), In M n v → a ≤ i → j < b → (j - i).toNat < f → Tot (slices_reverseRangeOrdered_int_h_L0 f v i j) (In M n)
  | 0, _, _, _, _, _, _, h => absurd h (by omega)
  | f + 1, v, i, j, hv, h0, h1, hf => by
    rw [slices_reverseRangeOrdered_int_h_L0]
    repeat' (first | (with_reducible refine tot_gix (by assumption) ?_ ?_ (fun _ _ => ?_); omega; omega) | (with_reducible refine tot_get (by assumption) ?_ ?_ (fun _ _ => ?_); omega; omega) | (with_reducible refine tot_w ?_ ?_ ?_; omega; omega) | (with_reducible refine tot_set (by assumption) (by assumption) (fun _ _ => ?_)) | (with_reducible refine tot_less ?_ ?_) | (with_reducible refine tot_gt ?_) | (with_reducible refine tot_gf ?_) | (with_reducible refine tot_bt ?_) | (with_reducible refine tot_bf ?_) | (with_reducible refine tot_nt ?_) | (with_reducible refine tot_nf ?_) | (with_reducible refine tot_tt ?_) | (with_reducible refine tot_tf ?_) | (with_reducible refine tot_tn ?_) | (with_reducible refine tot_tnf ?_) | (with_reducible refine tot_f ?_) | (with_reducible refine tot_dec (fun _ => ?_) (fun _ => ?_)) | (with_reducible refine tot_q ?_ ?_ ?_ ?_; omega; omega; decide) | (with_reducible refine tot_s ?_; assumption))
    exact rev_L0 ha hb hn f _ _ _ (by assumption) (by omega) (by omega) (by omega)
theorem rev_t {a b : Int} {v : List Int} (hv : In M n v) (ha : 0 ≤ a) (hab : a ≤ b) (hb : b ≤ n) (hn : n ≤ 900) : Tot (slices_reverseRangeOrdered_int_h a b v) (In M n) := by
  unfold slices_reverseRangeOrdered_int_h
  repeat' (first | (with_reducible refine tot_gix (by assumption) ?_ ?_ (fun _ _ => ?_); omega; omega) | (with_reducible refine tot_get (by assumption) ?_ ?_ (fun _ _ => ?_); omega; omega) | (with_reducible refine tot_w ?_ ?_ ?_; omega; omega) | (with_reducible refine tot_set (by assumption) (by assumption) (fun _ _ => ?_)) | (with_reducible refine tot_less ?_ ?_) | (with_reducible refine tot_gt ?_) | (with_reducible refine tot_gf ?_) | (with_reducible refine tot_bt ?_) | (with_reducible refine tot_bf ?_) | (with_reducible refine tot_nt ?_) | (with_reducible refine tot_nf ?_) | (with_reducible refine tot_tt ?_) | (with_reducible refine tot_tf ?_) | (with_reducible refine tot_tn ?_) | (with_reducible refine tot_tnf ?_) | (with_reducible refine tot_f ?_) | (with_reducible refine tot_dec (fun _ => ?_) (fun _ => ?_)) | (with_reducible refine tot_q ?_ ?_ ?_ ?_; omega; omega; decide) | (with_reducible refine tot_s ?_; assumption))
  exact rev_L0 ha hb hn fuel v _ _ hv (by omega) (by omega) (fuel_gt (by omega))
theorem pin_L1 {Q : Bool × List Int → Prop} {a b k : Int} {v : List Int} {kk : List Int → Int → Int → Option (Bool × List Int)} (hv : In M n v) (hq : ∀ c, Q (c, v)) (ha : 0 ≤ a) (hb : b ≤ n) (hs : b - a < 50) (hn : n ≤ 900) : ∀ (f : Nat) (i : Int), a + 1 ≤ i → i ≤ b → (b - i).toNat < f → Tot (slices_partialInsertionSortOrdered_int_h_L1 a b v k kk f i) Q
  | 0, _, _, _, h => absurd h (by omega)
  | f + 1, i, h0, h1, hf => by
    rw [slices_partialInsertionSortOrdered_int_h_L1]
    repeat' (first | (with_reducible refine tot_gix (by assumption) ?_ ?_ (fun _ _ => ?_); omega; omega) | (with_reducible refine tot_get (by assumption) ?_ ?_ (fun _ _ => ?_); omega; omega) | (with_reducible refine tot_w ?_ ?_ ?_; omega; omega) | (with_reducible refine tot_set (by assumption) (by assumption) (fun _ _ => ?_)) | (with_reducible refine tot_less ?_ ?_) | (with_reducible refine tot_gt ?_) | (with_reducible refine tot_gf ?_) | (with_reducible refine tot_bt ?_) | (with_reducible refine tot_bf ?_) | (with_reducible refine tot_nt ?_) | (with_reducible refine tot_nf ?_) | (with_reducible refine tot_tt ?_) | (with_reducible refine tot_tf ?_) | (with_reducible refine tot_tn ?_) | (with_reducible refine tot_tnf ?_) | (with_reducible refine tot_f ?_) | (with_reducible refine tot_dec (fun _ => ?_) (fun _ => ?_)) | (with_reducible refine tot_q ?_ ?_ ?_ ?_; omega; omega; decide) | (with_reducible refine tot_s ?_; assumption))
    any_goals exact tot_s (hq _)
    any_goals omega
    exact pin_L1 hv hq ha hb hs hn f _ (by omega) (by omega) (by omega)
theorem pin_L0 {a b : Int} {v : List Int} (hv : In M n v) (ha : 0 ≤ a) (hb : b ≤ n) (hs : b - a < 50) (hn : n ≤ 900) : ∀ (f : Nat) (i : Int), a + 1 ≤ i → i ≤ b → 0 < f → Tot (slices_partialInsertionSortOrdered_int_h_L0 a b f v i 0) (fun r => In M n r.2)
  | 0, _, _, _, h => absurd h (by omega)
  | f + 1, i, h0, h1, _ => by
    rw [slices_partialInsertionSortOrdered_int_h_L0]
    repeat' (first | (with_reducible refine tot_gix (by assumption) ?_ ?_ (fun _ _ => ?_); omega; omega) | (with_reducible refine tot_get (by assumption) ?_ ?_ (fun _ _ => ?_); omega; omega) | (with_reducible refine tot_w ?_ ?_ ?_; omega; omega) | (with_reducible refine tot_set (by assumption) (by assumption) (fun _ _ => ?_)) | (with_reducible refine tot_less ?_ ?_) | (with_reducible refine tot_gt ?_) | (with_reducible refine tot_gf ?_) | (with_reducible refine tot_bt ?_) | (with_reducible refine tot_bf ?_) | (with_reducible refine tot_nt ?_) | (with_reducible refine tot_nf ?_) | (with_reducible refine tot_tt ?_) | (with_reducible refine tot_tf ?_) | (with_reducible refine tot_tn ?_) | (with_reducible refine tot_tnf ?_) | (with_reducible refine tot_f ?_) | (with_reducible refine tot_dec (fun _ => ?_) (fun _ => ?_)) | (with_reducible refine tot_q ?_ ?_ ?_ ?_; omega; omega; decide) | (with_reducible refine tot_s ?_; assumption))
    · exact pin_L1 hv (fun _ => hv) ha hb hs hn fuel i h0 h1 (fuel_gt (by omega))
theorem pin_t {a b : Int} {v : List Int} (hv : In M n v) (ha : 0 ≤ a) (hab : a < b) (hb : b ≤ n) (hs : b - a < 50) (hn : n ≤ 900) : Tot (slices_partialInsertionSortOrdered_int_h a b v) (fun r => In M n r.2) := by
  unfold slices_partialInsertionSortOrdered_int_h
  repeat' (first | (with_reducible refine tot_gix (by assumption) ?_ ?_ (fun _ _ => ?_); omega; omega) | (with_reducible refine tot_get (by assumption) ?_ ?_ (fun _ _ => ?_); omega; omega) | (with_reducible refine tot_w ?_ ?_ ?_; omega; omega) | (with_reducible refine tot_set (by assumption) (by assumption) (fun _ _ => ?_)) | (with_reducible refine tot_less ?_ ?_) | (with_reducible refine tot_gt ?_) | (with_reducible refine tot_gf ?_) | (with_reducible refine tot_bt ?_) | (with_reducible refine tot_bf ?_) | (with_reducible refine tot_nt ?_) | (with_reducible refine tot_nf ?_) | (with_reducible refine tot_tt ?_) | (with_reducible refine tot_tf ?_) | (with_reducible refine tot_tn ?_) | (with_reducible refine tot_tnf ?_) | (with_reducible refine tot_f ?_) | (with_reducible refine tot_dec (fun _ => ?_) (fun _ => ?_)) | (with_reducible refine tot_q ?_ ?_ ?_ ?_; omega; omega; decide) | (with_reducible refine tot_s ?_; assumption))
  exact pin_L0 hv ha hb hs hn fuel _ (by omega) (by omega) (fuel_gt (by omega))
theorem order_t {Q : Int × Int × Int → Prop} {v : List Int} (hv : In M n v) {i j k : Int} (hi : 0 ≤ i ∧ i < n) (hj : 0 ≤ j ∧ j < n) (hk : 0 ≤ k ∧ k ≤ 100) (h1 : ∀ k', 0 ≤ k' → k' ≤ k + 1 → Q (i, j, k')) (h2 : ∀ k', 0 ≤ k' → k' ≤ k + 1 → Q (j, i, k')) : Tot (slices_order2Ordered_int_h v i j k) Q := by
  unfold slices_order2Ordered_int_h
  repeat' (first | (with_reducible refine tot_gix (by assumption) ?_ ?_ (fun _ _ => ?_); omega; omega) | (with_reducible refine tot_get (by assumption) ?_ ?_ (fun _ _ => ?_); omega; omega) | (with_reducible refine tot_w ?_ ?_ ?_; omega; omega) | (with_reducible refine tot_set (by assumption) (by assumption) (fun _ _ => ?_)) | (with_reducible refine tot_less ?_ ?_) | (with_reducible refine tot_gt ?_) | (with_reducible refine tot_gf ?_) | (with_reducible refine tot_bt ?_) | (with_reducible refine tot_bf ?_) | (with_reducible refine tot_nt ?_) | (with_reducible refine tot_nf ?_) | (with_reducible refine tot_tt ?_) | (with_reducible refine tot_tf ?_) | (with_reducible refine tot_tn ?_) | (with_reducible refine tot_tnf ?_) | (with_reducible refine tot_f ?_) | (with_reducible refine tot_dec (fun _ => ?_) (fun _ => ?_)) | (with_reducible refine tot_q ?_ ?_ ?_ ?_; omega; omega; decide) | (with_reducible refine tot_s ?_; assumption))
  · exact tot_s (h2 _ (by omega) (by omega))
  · exact tot_s (h1 _ (by omega) (by omega))
theorem med_t {v : List Int} (hv : In M n v) {P : Int → Prop} (hP : ∀ i, P i → 0 ≤ i ∧ i < n) {i j k c : Int} (hi : P i) (hj : P j) (hk : P k) (hc : 0 ≤ c ∧ c ≤ 50) : Tot (slices_medianOrdered_int_h v i j k c) (fun r => P r.1 ∧ 0 ≤ r.2 ∧ r.2 ≤ c + 3) := by
  unfold slices_medianOrdered_int_h
  refine tot_o (R := fun r => P r.1 ∧ P r.2.1 ∧ 0 ≤ r.2.2 ∧ r.2.2 ≤ c + 1) (order_t hv (hP _ hi) (hP _ hj) (by omega) (fun k' h1 h2 => ⟨hi, hj, h1, h2⟩) (fun k' h1 h2 => ⟨hj, hi, h1, h2⟩)) (fun x hx => ?_)
  refine tot_o (R := fun r => P r.1 ∧ P r.2.1 ∧ 0 ≤ r.2.2 ∧ r.2.2 ≤ c + 2) (order_t hv (hP _ hx.2.1) (hP _ hk) (by omega) (fun k' h1 h2 => ⟨hx.2.1, hk, h1, by show k' ≤ c + 2; omega⟩) (fun k' h1 h2 => ⟨hk, hx.2.1, h1, by show k' ≤ c + 2; omega⟩)) (fun y hy => ?_)
  refine tot_o (R := fun r => P r.1 ∧ P r.2.1 ∧ 0 ≤ r.2.2 ∧ r.2.2 ≤ c + 3) (order_t hv (hP _ hx.1) (hP _ hy.1) (by omega) (fun k' h1 h2 => ⟨hx.1, hy.1, h1, by show k' ≤ c + 3; omega⟩) (fun k' h1 h2 => ⟨hy.1, hx.1, h1, by show k' ≤ c + 3; omega⟩)) (fun z hz => ?_)
  exact tot_s ⟨hz.2.1, hz.2.2⟩
theorem piv_J {Q : Int × Int → Prop} {i c : Int} (h : ∀ h, Q (i, h)) : Tot (slices_choosePivotOrdered_int_J1 i c) Q := by
  unfold slices_choosePivotOrdered_int_J1
  repeat' (first | (with_reducible refine tot_gix (by assumption) ?_ ?_ (fun _ _ => ?_); omega; omega) | (with_reducible refine tot_get (by assumption) ?_ ?_ (fun _ _ => ?_); omega; omega) | (with_reducible refine tot_w ?_ ?_ ?_; omega; omega) | (with_reducible refine tot_set (by assumption) (by assumption) (fun _ _ => ?_)) | (with_reducible refine tot_less ?_ ?_) | (with_reducible refine tot_gt ?_) | (with_reducible refine tot_gf ?_) | (with_reducible refine tot_bt ?_) | (with_reducible refine tot_bf ?_) | (with_reducible refine tot_nt ?_) | (with_reducible refine tot_nf ?_) | (with_reducible refine tot_tt ?_) | (with_reducible refine tot_tf ?_) | (with_reducible refine tot_tn ?_) | (with_reducible refine tot_tnf ?_) | (with_reducible refine tot_f ?_) | (with_reducible refine tot_dec (fun _ => ?_) (fun _ => ?_)) | (with_reducible refine tot_q ?_ ?_ ?_ ?_; omega; omega; decide) | (with_reducible refine tot_s ?_; assumption))
  all_goals exact tot_s (h _)
theorem piv_t {a b : Int} {v : List Int} (hv : In M n v) (ha : 0 ≤ a) (hab : a < b) (hb : b ≤ n) (hs : b - a < 50) (hn : n ≤ 900) : Tot (slices_choosePivotOrdered_int v a b) (fun r => a ≤ r.1 ∧ r.1 < b) := by
  unfold slices_choosePivotOrdered_int
  repeat' (first | (with_reducible refine tot_gix (by assumption) ?_ ?_ (fun _ _ => ?_); omega; omega) | (with_reducible refine tot_get (by assumption) ?_ ?_ (fun _ _ => ?_); omega; omega) | (with_reducible refine tot_w ?_ ?_ ?_; omega; omega) | (with_reducible refine tot_set (by assumption) (by assumption) (fun _ _ => ?_)) | (with_reducible refine tot_less ?_ ?_) | (with_reducible refine tot_gt ?_) | (with_reducible refine tot_gf ?_) | (with_reducible refine tot_bt ?_) | (with_reducible refine tot_bf ?_) | (with_reducible refine tot_nt ?_) | (with_reducible refine tot_nf ?_) | (with_reducible refine tot_tt ?_) | (with_reducible refine tot_tf ?_) | (with_reducible refine tot_tn ?_) | (with_reducible refine tot_tnf ?_) | (with_reducible refine tot_f ?_) | (with_reducible refine tot_dec (fun _ => ?_) (fun _ => ?_)) | (with_reducible refine tot_q ?_ ?_ ?_ ?_; omega; omega; decide) | (with_reducible refine tot_s ?_; assumption))
  · omega
  · unfold slices_choosePivotOrdered_int_J2
    refine tot_o (med_t hv (P := fun i => a ≤ i ∧ i < b) (fun i h => by omega) (by constructor <;> omega) (by constructor <;> omega) (by constructor <;> omega) (by omega)) (fun x hx => ?_)
    exact piv_J (fun _ => hx.1)
  · exact piv_J (fun _ => by constructor <;> simp only <;> omega)
theorem peq_L2 {Q : Int × List Int → Prop} {a i : Int} {v : List Int} (hv : In M n v) {kk : List Int → Int → Int → Option (Int × List Int)} (ha : 0 ≤ a) (hai : a < i) (hn : n ≤ 900) (hq : Q (i, v)) (m : Int) (hm : m < n) (hk : ∀ w j, In M n w → i ≤ j → j ≤ m → Tot (kk w (i + 1) (j - 1)) Q) : ∀ (f : Nat) (j : Int), j ≤ m → -1 ≤ j → (j + 1).toNat < f → Tot (slices_partitionEqualOrdered_int_h_L2 a v kk i f j) Q
  | 0, _, _, _, h => absurd h (by omega)
  | f + 1, j, h0, h1, hf => by
    rw [slices_partitionEqualOrdered_int_h_L2]
    repeat' (first | (with_reducible refine tot_gix (by assumption) ?_ ?_ (fun _ _ => ?_); omega; omega) | (with_reducible refine tot_get (by assumption) ?_ ?_ (fun _ _ => ?_); omega; omega) | (with_reducible refine tot_w ?_ ?_ ?_; omega; omega) | (with_reducible refine tot_set (by assumption) (by assumption) (fun _ _ => ?_)) | (with_reducible refine tot_less ?_ ?_) | (with_reducible refine tot_gt ?_) | (with_reducible refine tot_gf ?_) | (with_reducible refine tot_bt ?_) | (with_reducible refine tot_bf ?_) | (with_reducible refine tot_nt ?_) | (with_reducible refine tot_nf ?_) | (with_reducible refine tot_tt ?_) | (with_reducible refine tot_tf ?_) | (with_reducible refine tot_tn ?_) | (with_reducible refine tot_tnf ?_) | (with_reducible refine tot_f ?_) | (with_reducible refine tot_dec (fun _ => ?_) (fun _ => ?_)) | (with_reducible refine tot_q ?_ ?_ ?_ ?_; omega; omega; decide) | (with_reducible refine tot_s ?_; assumption))
    any_goals omega
    · exact peq_L2 hv ha hai hn hq m hm hk f _ (by omega) (by omega) (by omega)
    · exact hk _ _ (by assumption) (by omega) h0
theorem peq_L1 {Q : Int × List Int → Prop} {a j : Int} {v : List Int} (hv : In M n v) {kk : List Int → Int → Int → Option (Int × List Int)} (ha : 0 ≤ a) (hj : -1 ≤ j ∧ j < n) (hn : n ≤ 900) (m : Int) (hq : ∀ i, m ≤ i → i ≤ j + 1 ∨ i = m → Q (i, v)) (ham : a < m) (hk : ∀ w i j', In M n w → m ≤ i → i ≤ j' → j' ≤ j → Tot (kk w (i + 1) (j' - 1)) Q) : ∀ (f : Nat) (i : Int), m ≤ i → i ≤ j + 1 ∨ i = m → (j + 1 - i).toNat < f → Tot (slices_partitionEqualOrdered_int_h_L1 a v j kk f i) Q
  | 0, _, _, _, h => absurd h (by omega)
  | f + 1, i, h0, h1, hf => by
    rw [slices_partitionEqualOrdered_int_h_L1]
    repeat' (first | (with_reducible refine tot_gix (by assumption) ?_ ?_ (fun _ _ => ?_); omega; omega) | (with_reducible refine tot_get (by assumption) ?_ ?_ (fun _ _ => ?_); omega; omega) | (with_reducible refine tot_w ?_ ?_ ?_; omega; omega) | (with_reducible refine tot_set (by assumption) (by assumption) (fun _ _ => ?_)) | (with_reducible refine tot_less ?_ ?_) | (with_reducible refine tot_gt ?_) | (with_reducible refine tot_gf ?_) | (with_reducible refine tot_bt ?_) | (with_reducible refine tot_bf ?_) | (with_reducible refine tot_nt ?_) | (with_reducible refine tot_nf ?_) | (with_reducible refine tot_tt ?_) | (with_reducible refine tot_tf ?_) | (with_reducible refine tot_tn ?_) | (with_reducible refine tot_tnf ?_) | (with_reducible refine tot_f ?_) | (with_reducible refine tot_dec (fun _ => ?_) (fun _ => ?_)) | (with_reducible refine tot_q ?_ ?_ ?_ ?_; omega; omega; decide) | (with_reducible refine tot_s ?_; assumption))
    any_goals exact peq_L2 hv ha (by omega) hn (hq i h0 h1) j hj.2 (fun w j' hw g1 g2 => hk w i j' hw h0 g1 g2) fuel j (by omega) hj.1 (fuel_gt (by omega))
    · exact peq_L1 hv ha hj hn m hq ham hk f _ (by omega) (by omega) (by omega)
theorem peq_L0 {a b : Int} (ha : 0 ≤ a) (hb : b ≤ n) (hn : n ≤ 900) : ∀ (f : Nat) (v : List Int) (i j : Int), In M n v → a < i → i ≤ b → -1 ≤ j → j < b → (j + 1 - i).toNat < f → Tot (slices_partitionEqualOrdered_int_h_L0 a f v i j) (fun r => a < r.1 ∧ r.1 ≤ b ∧ In M n r.2)
  | 0, _, _, _, _, _, _, _, _, h => absurd h (by omega)
  | f + 1, v, i, j, hv, h0, h1, h2, h3, hf => by
    rw [slices_partitionEqualOrdered_int_h_L0]
    exact peq_L1 hv ha (by omega) hn i (fun k g1 g2 => ⟨by show a < k; omega, by show k ≤ b; omega, hv⟩) h0 (fun w i' j' hw g1 g2 g3 => peq_L0 ha hb hn f w _ _ hw (by omega) (by omega) (by omega) (by omega) (by omega)) fuel i (by omega) (by omega) (fuel_gt (by omega))
theorem peq_t {a b p : Int} {v : List Int} (hv : In M n v) (ha : 0 ≤ a) (hab : a < b) (hp : a ≤ p ∧ p < b) (hb : b ≤ n) (hn : n ≤ 900) : Tot (slices_partitionEqualOrdered_int_h a b p v) (fun r => a < r.1 ∧ r.1 ≤ b ∧ In M n r.2) := by
  unfold slices_partitionEqualOrdered_int_h
  repeat' (first | (with_reducible refine tot_gix (by assumption) ?_ ?_ (fun _ _ => ?_); omega; omega) | (with_reducible refine tot_get (by assumption) ?_ ?_ (fun _ _ => ?_); omega; omega) | (with_reducible refine tot_w ?_ ?_ ?_; omega; omega) | (with_reducible refine tot_set (by assumption) (by assumption) (fun _ _ => ?_)) | (with_reducible refine tot_less ?_ ?_) | (with_reducible refine tot_gt ?_) | (with_reducible refine tot_gf ?_) | (with_reducible refine tot_bt ?_) | (with_reducible refine tot_bf ?_) | (with_reducible refine tot_nt ?_) | (with_reducible refine tot_nf ?_) | (with_reducible refine tot_tt ?_) | (with_reducible refine tot_tf ?_) | (with_reducible refine tot_tn ?_) | (with_reducible refine tot_tnf ?_) | (with_reducible refine tot_f ?_) | (with_reducible refine tot_dec (fun _ => ?_) (fun _ => ?_)) | (with_reducible refine tot_q ?_ ?_ ?_ ?_; omega; omega; decide) | (with_reducible refine tot_s ?_; assumption))
  exact peq_L0 ha hb hn fuel _ _ _ (by assumption) (by omega) (by omega) (by omega) (by omega) (fuel_gt (by omega))
theorem par_L4 {a b i : Int} {v : List Int} (hv : In M n v) {kk : List Int → Int → Int → Option (Int × Bool × List Int)} (ha : 0 ≤ a) (hai : a < i) (hb : b ≤ n) (hn : n ≤ 900) (m : Int) (hm : m < b) (hk : ∀ w j, In M n w → i ≤ j → j ≤ m → Tot (kk w (i + 1) (j - 1)) (fun r => a ≤ r.1 ∧ r.1 < b ∧ In M n r.2.2)) : ∀ (f : Nat) (j : Int), j ≤ m → a ≤ j → (j + 1).toNat < f → Tot (slices_partitionOrdered_int_h_L4 a v kk i f j) (fun r => a ≤ r.1 ∧ r.1 < b ∧ In M n r.2.2)
  | 0, _, _, _, h => absurd h (by omega)
  | f + 1, j, h0, h1, hf => by
    rw [slices_partitionOrdered_int_h_L4]
    repeat' (first | (with_reducible refine tot_gix (by assumption) ?_ ?_ (fun _ _ => ?_); omega; omega) | (with_reducible refine tot_get (by assumption) ?_ ?_ (fun _ _ => ?_); omega; omega) | (with_reducible refine tot_w ?_ ?_ ?_; omega; omega) | (with_reducible refine tot_set (by assumption) (by assumption) (fun _ _ => ?_)) | (with_reducible refine tot_less ?_ ?_) | (with_reducible refine tot_gt ?_) | (with_reducible refine tot_gf ?_) | (with_reducible refine tot_bt ?_) | (with_reducible refine tot_bf ?_) | (with_reducible refine tot_nt ?_) | (with_reducible refine tot_nf ?_) | (with_reducible refine tot_tt ?_) | (with_reducible refine tot_tf ?_) | (with_reducible refine tot_tn ?_) | (with_reducible refine tot_tnf ?_) | (with_reducible refine tot_f ?_) | (with_reducible refine tot_dec (fun _ => ?_) (fun _ => ?_)) | (with_reducible refine tot_q ?_ ?_ ?_ ?_; omega; omega; decide) | (with_reducible refine tot_s ?_; assumption))
    any_goals omega
    any_goals exact hk _ _ (by assumption) (by omega) h0
    any_goals exact par_L4 hv ha hai hb hn m hm hk f _ (by omega) (by omega) (by omega)
    all_goals exact tot_s ⟨h1, by show j < b; omega, by assumption⟩
theorem par_L3 {a b j : Int} {v : List Int} (hv : In M n v) {kk : List Int → Int → Int → Option (Int × Bool × List Int)} (ha : 0 ≤ a) (hb : b ≤ n) (hj : a ≤ j ∧ j < b) (hn : n ≤ 900) (m : Int) (ham : a < m) (hk : ∀ w i j', In M n w → m ≤ i → i ≤ j' → j' ≤ j → Tot (kk w (i + 1) (j' - 1)) (fun r => a ≤ r.1 ∧ r.1 < b ∧ In M n r.2.2)) : ∀ (f : Nat) (i : Int), m ≤ i → i ≤ j + 1 ∨ i = m → (j + 1 - i).toNat < f → Tot (slices_partitionOrdered_int_h_L3 a v j kk f i) (fun r => a ≤ r.1 ∧ r.1 < b ∧ In M n r.2.2)
  | 0, _, _, _, h => absurd h (by omega)
  | f + 1, i, h0, h1, hf => by
    rw [slices_partitionOrdered_int_h_L3]
    repeat' (first | (with_reducible refine tot_gix (by assumption) ?_ ?_ (fun _ _ => ?_); omega; omega) | (with_reducible refine tot_get (by assumption) ?_ ?_ (fun _ _ => ?_); omega; omega) | (with_reducible refine tot_w ?_ ?_ ?_; omega; omega) | (with_reducible refine tot_set (by assumption) (by assumption) (fun _ _ => ?_)) | (with_reducible refine tot_less ?_ ?_) | (with_reducible refine tot_gt ?_) | (with_reducible refine tot_gf ?_) | (with_reducible refine tot_bt ?_) | (with_reducible refine tot_bf ?_) | (with_reducible refine tot_nt ?_) | (with_reducible refine tot_nf ?_) | (with_reducible refine tot_tt ?_) | (with_reducible refine tot_tf ?_) | (with_reducible refine tot_tn ?_) | (with_reducible refine tot_tnf ?_) | (with_reducible refine tot_f ?_) | (with_reducible refine tot_dec (fun _ => ?_) (fun _ => ?_)) | (with_reducible refine tot_q ?_ ?_ ?_ ?_; omega; omega; decide) | (with_reducible refine tot_s ?_; assumption))
    any_goals exact par_L4 hv ha (by omega) hb hn j hj.2 (fun w j' hw g1 g2 => hk w i j' hw h0 g1 g2) fuel j (by omega) hj.1 (fuel_gt (by omega))
    · exact par_L3 hv ha hb hj hn m ham hk f _ (by omega) (by omega) (by omega)
theorem par_L2 {a b : Int} (ha : 0 ≤ a) (hb : b ≤ n) (hn : n ≤ 900) : ∀ (f : Nat) (v : List Int) (i j : Int), In M n v → a < i → a ≤ j → j < b → (j + 1 - i).toNat < f → Tot (slices_partitionOrdered_int_h_L2 a f v i j) (fun r => a ≤ r.1 ∧ r.1 < b ∧ In M n r.2.2)
  | 0, _, _, _, _, _, _, _, h => absurd h (by omega)
  | f + 1, v, i, j, hv, h0, h2, h3, hf => by
    rw [slices_partitionOrdered_int_h_L2]
    exact par_L3 hv ha hb (by omega) hn i h0 (fun w i' j' hw g1 g2 g3 => par_L2 ha hb hn f w _ _ hw (by omega) (by omega) (by omega) (by omega)) fuel i (by omega) (by omega) (fuel_gt (by omega))
theorem par_L1 {a b i : Int} {v : List Int} (hv : In M n v) (ha : 0 ≤ a) (hai : a < i) (hb : b ≤ n) (hn : n ≤ 900) : ∀ (f : Nat) (j : Int), j < b → a ≤ j → (j + 1).toNat < f → Tot (slices_partitionOrdered_int_h_L1 a v i f j) (fun r => a ≤ r.1 ∧ r.1 < b ∧ In M n r.2.2)
  | 0, _, _, _, h => absurd h (by omega)
  | f + 1, j, h0, h1, hf => by
    rw [slices_partitionOrdered_int_h_L1]
    repeat' (first | (with_reducible refine tot_gix (by assumption) ?_ ?_ (fun _ _ => ?_); omega; omega) | (with_reducible refine tot_get (by assumption) ?_ ?_ (fun _ _ => ?_); omega; omega) | (with_reducible refine tot_w ?_ ?_ ?_; omega; omega) | (with_reducible refine tot_set (by assumption) (by assumption) (fun _ _ => ?_)) | (with_reducible refine tot_less ?_ ?_) | (with_reducible refine tot_gt ?_) | (with_reducible refine tot_gf ?_) | (with_reducible refine tot_bt ?_) | (with_reducible refine tot_bf ?_) | (with_reducible refine tot_nt ?_) | (with_reducible refine tot_nf ?_) | (with_reducible refine tot_tt ?_) | (with_reducible refine tot_tf ?_) | (with_reducible refine tot_tn ?_) | (with_reducible refine tot_tnf ?_) | (with_reducible refine tot_f ?_) | (with_reducible refine tot_dec (fun _ => ?_) (fun _ => ?_)) | (with_reducible refine tot_q ?_ ?_ ?_ ?_; omega; omega; decide) | (with_reducible refine tot_s ?_; assumption))
    any_goals omega
    any_goals exact par_L2 ha hb hn fuel _ _ _ (by assumption) (by omega) (by omega) (by omega) (fuel_gt (by omega))
    any_goals exact par_L1 hv ha hai hb hn f _ (by omega) (by omega) (by omega)
    all_goals exact tot_s ⟨h1, h0, by assumption⟩
theorem par_L0 {a b j : Int} {v : List Int} (hv : In M n v) (ha : 0 ≤ a) (hb : b ≤ n) (hj : a ≤ j ∧ j < b) (hn : n ≤ 900) : ∀ (f : Nat) (i : Int), a < i → i ≤ b → (j + 1 - i).toNat < f → Tot (slices_partitionOrdered_int_h_L0 a v j f i) (fun r => a ≤ r.1 ∧ r.1 < b ∧ In M n r.2.2)
  | 0, _, _, _, h => absurd h (by omega)
  | f + 1, i, h0, h1, hf => by
    rw [slices_partitionOrdered_int_h_L0]
    repeat' (first | (with_reducible refine tot_gix (by assumption) ?_ ?_ (fun _ _ => ?_); omega; omega) | (with_reducible refine tot_get (by assumption) ?_ ?_ (fun _ _ => ?_); omega; omega) | (with_reducible refine tot_w ?_ ?_ ?_; omega; omega) | (with_reducible refine tot_set (by assumption) (by assumption) (fun _ _ => ?_)) | (with_reducible refine tot_less ?_ ?_) | (with_reducible refine tot_gt ?_) | (with_reducible refine tot_gf ?_) | (with_reducible refine tot_bt ?_) | (with_reducible refine tot_bf ?_) | (with_reducible refine tot_nt ?_) | (with_reducible refine tot_nf ?_) | (with_reducible refine tot_tt ?_) | (with_reducible refine tot_tf ?_) | (with_reducible refine tot_tn ?_) | (with_reducible refine tot_tnf ?_) | (with_reducible refine tot_f ?_) | (with_reducible refine tot_dec (fun _ => ?_) (fun _ => ?_)) | (with_reducible refine tot_q ?_ ?_ ?_ ?_; omega; omega; decide) | (with_reducible refine tot_s ?_; assumption))
    any_goals exact par_L1 hv ha h0 hb hn fuel j hj.2 hj.1 (fuel_gt (by omega))
    · exact par_L0 hv ha hb hj hn f _ (by omega) (by omega) (by omega)
theorem par_t {a b p : Int} {v : List Int} (hv : In M n v) (ha : 0 ≤ a) (hab : a < b) (hp : a ≤ p ∧ p < b) (hb : b ≤ n) (hn : n ≤ 900) : Tot (slices_partitionOrdered_int_h a b p v) (fun r => a ≤ r.1 ∧ r.1 < b ∧ In M n r.2.2) := by
  unfold slices_partitionOrdered_int_h
  repeat' (first | (with_reducible refine tot_gix (by assumption) ?_ ?_ (fun _ _ => ?_); omega; omega) | (with_reducible refine tot_get (by assumption) ?_ ?_ (fun _ _ => ?_); omega; omega) | (with_reducible refine tot_w ?_ ?_ ?_; omega; omega) | (with_reducible refine tot_set (by assumption) (by assumption) (fun _ _ => ?_)) | (with_reducible refine tot_less ?_ ?_) | (with_reducible refine tot_gt ?_) | (with_reducible refine tot_gf ?_) | (with_reducible refine tot_bt ?_) | (with_reducible refine tot_bf ?_) | (with_reducible refine tot_nt ?_) | (with_reducible refine tot_nf ?_) | (with_reducible refine tot_tt ?_) | (with_reducible refine tot_tf ?_) | (with_reducible refine tot_tn ?_) | (with_reducible refine tot_tnf ?_) | (with_reducible refine tot_f ?_) | (with_reducible refine tot_dec (fun _ => ?_) (fun _ => ?_)) | (with_reducible refine tot_q ?_ ?_ ?_ ?_; omega; omega; decide) | (with_reducible refine tot_s ?_; assumption))
  exact par_L0 (by assumption) ha hb (by omega) hn fuel _ (by omega) (by omega) (fuel_gt (by omega))
end
end Go.Fn
set_option linter.unusedSimpArgs false
set_option linter.unusedVariables false
open Go Go.IL
namespace Go.Fn
theorem len_all : ((List.range 25).all fun k => match math_bits_Len (k : Int) with | some r => decide (0 ≤ r ∧ r ≤ 5) | none => false) = true := by kernel_rfl
theorem np_all : ((List.range 25).all fun k => decide (k < 8) || match slices_nextPowerOfTwo (k : Int) with | some r => decide (r = 16 ∧ k ≤ 15 ∨ r = 32 ∧ 16 ≤ k) | none => false) = true := by kernel_rfl
theorem len_t {x : Int} (h0 : 0 ≤ x) (h1 : x ≤ 24) : Tot (math_bits_Len x) (fun r => 0 ≤ r ∧ r ≤ 5) := by
  have h := List.all_eq_true.1 len_all x.toNat (List.mem_range.2 (by omega))
  rw [show ((x.toNat : Nat) : Int) = x by omega] at h
  cases hm : math_bits_Len x with
  | none => rw [hm] at h; cases h
  | some r => rw [hm] at h; exact ⟨r, rfl, of_decide_eq_true h⟩
theorem np_t {x : Int} (h0 : 8 ≤ x) (h1 : x ≤ 24) : Tot (slices_nextPowerOfTwo x) (fun r => r = 16 ∧ x ≤ 15 ∨ r = 32 ∧ 16 ≤ x) := by
  have h := List.all_eq_true.1 np_all x.toNat (List.mem_range.2 (by omega))
  rw [show ((x.toNat : Nat) : Int) = x by omega, show decide (x.toNat < 8) = false from decide_eq_false (by omega), Bool.false_or] at h
  cases hm : slices_nextPowerOfTwo x with
  | none => rw [hm] at h; cases h
  | some r => rw [hm] at h; exact ⟨r, rfl, by have := of_decide_eq_true h; omega⟩
theorem and_t (a : Int) {m : Nat} (hm : m < 1000) : 0 ≤ andI .u64 a (m : Int) ∧ andI .u64 a (m : Int) ≤ m := by
  unfold andI
  have e : (BitVec.ofInt 64 (m : Int)).toNat = m := by
    rw [BitVec.toNat_ofInt]; omega
  have h : ((BitVec.ofInt 64 a) &&& (BitVec.ofInt 64 (m : Int))).toNat ≤ m := by
    rw [BitVec.toNat_and, e]; exact Nat.and_le_right
  have h2 : 0 ≤ IntKind.wrap .u64 (((BitVec.ofInt 64 a) &&& (BitVec.ofInt 64 (m : Int))).toNat : Int) ∧ IntKind.wrap .u64 (((BitVec.ofInt 64 a) &&& (BitVec.ofInt 64 (m : Int))).toNat : Int) ≤ m := by
    rw [wU64 (by omega) (by omega)]; omega
  exact h2
theorem xor_t (a : Int) : Tot (slices_xorshift_Next_h a) (fun _ => True) := ⟨_, rfl, trivial⟩
section
variable {M : List Int} {n : Nat}
theorem brk_J {Q : List Int → Prop} {a i o : Int} {v : List Int} (hv : In M n v) {x : Int × Int} {kk : List Int → Int → Int → Option (List Int)} (ha : 0 ≤ a) (hi : 0 ≤ i ∧ i < n) (ho : 0 ≤ o ∧ a + o < n) (hn : n ≤ 900) (hk : ∀ w, In M n w → Tot (kk w (i + 1) x.2) Q) : Tot (slices_breakPatternsOrdered_int_h_J1 a v i kk x o) Q := by
  unfold slices_breakPatternsOrdered_int_h_J1
  repeat' (first | (with_reducible refine tot_gix (by assumption) ?_ ?_ (fun _ _ => ?_); omega; omega) | (with_reducible refine tot_get (by assumption) ?_ ?_ (fun _ _ => ?_); omega; omega) | (with_reducible refine tot_w ?_ ?_ ?_; omega; omega) | (with_reducible refine tot_set (by assumption) (by assumption) (fun _ _ => ?_)) | (with_reducible refine tot_less ?_ ?_) | (with_reducible refine tot_gt ?_) | (with_reducible refine tot_gf ?_) | (with_reducible refine tot_bt ?_) | (with_reducible refine tot_bf ?_) | (with_reducible refine tot_nt ?_) | (with_reducible refine tot_nf ?_) | (with_reducible refine tot_tt ?_) | (with_reducible refine tot_tf ?_) | (with_reducible refine tot_tn ?_) | (with_reducible refine tot_tnf ?_) | (with_reducible refine tot_f ?_) | (with_reducible refine tot_dec (fun _ => ?_) (fun _ => ?_)) | (with_reducible refine tot_q ?_ ?_ ?_ ?_; omega; omega; decide) | (with_reducible refine tot_s ?_; assumption))
  exact hk _ (by assumption)
theorem brk_L0 {a b s : Int} (ha : 0 ≤ a) (hb : b ≤ n) (h8 : 8 ≤ b - a) (hn : n ≤ 24) (hs : s = 16 ∧ b - a ≤ 15 ∨ s = 32 ∧ 16 ≤ b - a) : ∀ (f : Nat) (v : List Int) (i r : Int), In M n v → 0 ≤ i → i ≤ 900 → (b - i).toNat < f → Tot (slices_breakPatternsOrdered_int_h_L0 a (b - a) s f v i r) (In M n)
  | 0, _, _, _, _, _, _, h => absurd h (by omega)
  | f + 1, v, i, r, hv, h0, h1, hf => by
    rw [slices_breakPatternsOrdered_int_h_L0]
    repeat' (first | (with_reducible refine tot_gix (by assumption) ?_ ?_ (fun _ _ => ?_); omega; omega) | (with_reducible refine tot_get (by assumption) ?_ ?_ (fun _ _ => ?_); omega; omega) | (with_reducible refine tot_w ?_ ?_ ?_; omega; omega) | (with_reducible refine tot_set (by assumption) (by assumption) (fun _ _ => ?_)) | (with_reducible refine tot_less ?_ ?_) | (with_reducible refine tot_gt ?_) | (with_reducible refine tot_gf ?_) | (with_reducible refine tot_bt ?_) | (with_reducible refine tot_bf ?_) | (with_reducible refine tot_nt ?_) | (with_reducible refine tot_nf ?_) | (with_reducible refine tot_tt ?_) | (with_reducible refine tot_tf ?_) | (with_reducible refine tot_tn ?_) | (with_reducible refine tot_tnf ?_) | (with_reducible refine tot_f ?_) | (with_reducible refine tot_dec (fun _ => ?_) (fun _ => ?_)) | (with_reducible refine tot_q ?_ ?_ ?_ ?_; omega; omega; decide) | (with_reducible refine tot_s ?_; assumption))
    refine tot_o (xor_t r) (fun x _ => ?_)
    have hm : ∃ m : Nat, m < 1000 ∧ IntKind.wrap .u64 (s - 1) = (m : Int) ∧ (m : Int) = s - 1 := ⟨(s - 1).toNat, by omega, by rw [wU64 (by omega) (by omega)]; omega, by omega⟩
    obtain ⟨m, hm1, hm2, hm3⟩ := hm
    have hand := and_t x.1 hm1
    refine tot_b ?_
    rw [hm2]
    refine tot_b ?_
    repeat' (first | (with_reducible refine tot_gix (by assumption) ?_ ?_ (fun _ _ => ?_); omega; omega) | (with_reducible refine tot_get (by assumption) ?_ ?_ (fun _ _ => ?_); omega; omega) | (with_reducible refine tot_w ?_ ?_ ?_; omega; omega) | (with_reducible refine tot_set (by assumption) (by assumption) (fun _ _ => ?_)) | (with_reducible refine tot_less ?_ ?_) | (with_reducible refine tot_gt ?_) | (with_reducible refine tot_gf ?_) | (with_reducible refine tot_bt ?_) | (with_reducible refine tot_bf ?_) | (with_reducible refine tot_nt ?_) | (with_reducible refine tot_nf ?_) | (with_reducible refine tot_tt ?_) | (with_reducible refine tot_tf ?_) | (with_reducible refine tot_tn ?_) | (with_reducible refine tot_tnf ?_) | (with_reducible refine tot_f ?_) | (with_reducible refine tot_dec (fun _ => ?_) (fun _ => ?_)) | (with_reducible refine tot_q ?_ ?_ ?_ ?_; omega; omega; decide) | (with_reducible refine tot_s ?_; assumption))
    all_goals exact brk_J hv ha (by omega) (by omega) (by omega) (fun w hw => brk_L0 ha hb h8 hn hs f w _ _ hw (by omega) (by omega) (by omega))
theorem brk_t {a b : Int} {v : List Int} (hv : In M n v) (ha : 0 ≤ a) (h8 : 8 ≤ b - a) (hb : b ≤ n) (hn : n ≤ 24) : Tot (slices_breakPatternsOrdered_int_h a b v) (In M n) := by
  unfold slices_breakPatternsOrdered_int_h
  repeat' (first | (with_reducible refine tot_gix (by assumption) ?_ ?_ (fun _ _ => ?_); omega; omega) | (with_reducible refine tot_get (by assumption) ?_ ?_ (fun _ _ => ?_); omega; omega) | (with_reducible refine tot_w ?_ ?_ ?_; omega; omega) | (with_reducible refine tot_set (by assumption) (by assumption) (fun _ _ => ?_)) | (with_reducible refine tot_less ?_ ?_) | (with_reducible refine tot_gt ?_) | (with_reducible refine tot_gf ?_) | (with_reducible refine tot_bt ?_) | (with_reducible refine tot_bf ?_) | (with_reducible refine tot_nt ?_) | (with_reducible refine tot_nf ?_) | (with_reducible refine tot_tt ?_) | (with_reducible refine tot_tf ?_) | (with_reducible refine tot_tn ?_) | (with_reducible refine tot_tnf ?_) | (with_reducible refine tot_f ?_) | (with_reducible refine tot_dec (fun _ => ?_) (fun _ => ?_)) | (with_reducible refine tot_q ?_ ?_ ?_ ?_; omega; omega; decide) | (with_reducible refine tot_s ?_; assumption))
  · refine tot_b ?_
    refine tot_o (np_t (by omega) (by omega)) (fun s hs => ?_)
    repeat' (first | (with_reducible refine tot_gix (by assumption) ?_ ?_ (fun _ _ => ?_); omega; omega) | (with_reducible refine tot_get (by assumption) ?_ ?_ (fun _ _ => ?_); omega; omega) | (with_reducible refine tot_w ?_ ?_ ?_; omega; omega) | (with_reducible refine tot_set (by assumption) (by assumption) (fun _ _ => ?_)) | (with_reducible refine tot_less ?_ ?_) | (with_reducible refine tot_gt ?_) | (with_reducible refine tot_gf ?_) | (with_reducible refine tot_bt ?_) | (with_reducible refine tot_bf ?_) | (with_reducible refine tot_nt ?_) | (with_reducible refine tot_nf ?_) | (with_reducible refine tot_tt ?_) | (with_reducible refine tot_tf ?_) | (with_reducible refine tot_tn ?_) | (with_reducible refine tot_tnf ?_) | (with_reducible refine tot_f ?_) | (with_reducible refine tot_dec (fun _ => ?_) (fun _ => ?_)) | (with_reducible refine tot_q ?_ ?_ ?_ ?_; omega; omega; decide) | (with_reducible refine tot_s ?_; assumption))
    exact brk_L0 ha hb h8 hn hs fuel v _ _ hv (by omega) (by omega) (fuel_gt (by omega))
end
/-- A call of itself for less. -/
def Rec (M : List Int) (n : Nat) (rec0 : Int → Int → Int → List Int → Option (List Int)) (k : Int) : Prop := ∀ (a b lim : Int) (v : List Int), In M n v → 0 ≤ a → a ≤ b → b ≤ n → b - a < k → 0 ≤ lim → lim ≤ 100 → Tot (rec0 a b lim v) (In M n)
section
variable {M : List Int} {n : Nat} {rec0 : Int → Int → Int → List Int → Option (List Int)} {kk : List Int → Int → Int → Int → Bool → Bool → Option (List Int)} {a b lim : Int} {c d : Bool}
theorem pdq_J3 (hr : Rec M n rec0 (b - a)) (ha : 0 ≤ a) (hab : a < b) (hb : b ≤ n) (hn : n ≤ 24) (hl : 0 ≤ lim ∧ lim ≤ 100) (hk : ∀ (v : List Int) (a' b' : Int) (c d : Bool), In M n v → 0 ≤ a' → a' ≤ b' → b' ≤ n → b' - a' < b - a → Tot (kk v a' b' lim c d) (In M n)) {p : Int} (hp : a ≤ p ∧ p < b) {v : List Int} (hv : In M n v) : Tot (slices_pdqsortOrdered_int_h_J3 rec0 a b c d kk (b - a) lim p v) (In M n) := by
  have hpar : Tot (bno (slices_partitionOrdered_int_h a b p v) fun x208 =>
    chk (x208.2.2.length = v.length) <|
    bnd (IntKind.wrap .i64 (x208.1 - a)) fun x210 =>
    bnd (IntKind.wrap .i64 (b - x208.1)) fun x211 =>
    bno (quoI .i64 (b - a) 8) fun x212 =>
    bnd (decide (x210 < x211)) fun x213 =>
    bif x213 then (
      bnd (decide (x212 ≤ x210)) fun x215 =>
      bno (rec0 a x208.1 lim x208.2.2) fun x216 =>
      chk (x216.length = v.length) <|
      bnd (IntKind.wrap .i64 (x208.1 + 1)) fun x218 =>
      kk x216 x218 b lim x215 x208.2.1
    ) else (
      bnd (decide (x212 ≤ x211)) fun x219 =>
      bnd (IntKind.wrap .i64 (x208.1 + 1)) fun x220 =>
      bno (rec0 x220 b lim x208.2.2) fun x221 =>
      chk (x221.length = v.length) <|
      kk x221 a x208.1 lim x219 x208.2.1
    )) (In M n) := by
    refine tot_o (par_t hv ha hab hp hb (by omega)) (fun x hx => ?_)
    obtain ⟨m, q, w⟩ := x
    obtain ⟨h1, h2, hw⟩ := hx
    simp only at h1 h2 hw ⊢
    refine tot_chk (by rw [hw.1, hv.1]) ?_
    repeat' (first | (with_reducible refine tot_gix (by assumption) ?_ ?_ (fun _ _ => ?_); omega; omega) | (with_reducible refine tot_get (by assumption) ?_ ?_ (fun _ _ => ?_); omega; omega) | (with_reducible refine tot_w ?_ ?_ ?_; omega; omega) | (with_reducible refine tot_set (by assumption) (by assumption) (fun _ _ => ?_)) | (with_reducible refine tot_less ?_ ?_) | (with_reducible refine tot_gt ?_) | (with_reducible refine tot_gf ?_) | (with_reducible refine tot_bt ?_) | (with_reducible refine tot_bf ?_) | (with_reducible refine tot_nt ?_) | (with_reducible refine tot_nf ?_) | (with_reducible refine tot_tt ?_) | (with_reducible refine tot_tf ?_) | (with_reducible refine tot_tn ?_) | (with_reducible refine tot_tnf ?_) | (with_reducible refine tot_f ?_) | (with_reducible refine tot_dec (fun _ => ?_) (fun _ => ?_)) | (with_reducible refine tot_q ?_ ?_ ?_ ?_; omega; omega; decide) | (with_reducible refine tot_s ?_; assumption))
    any_goals (
      refine tot_o (hr a m lim w hw ha h1 (by omega) (by omega) hl.1 hl.2) (fun u hu => ?_)
      refine tot_chk (by rw [hu.1, hv.1]) ?_
      repeat' (first | (with_reducible refine tot_gix (by assumption) ?_ ?_ (fun _ _ => ?_); omega; omega) | (with_reducible refine tot_get (by assumption) ?_ ?_ (fun _ _ => ?_); omega; omega) | (with_reducible refine tot_w ?_ ?_ ?_; omega; omega) | (with_reducible refine tot_set (by assumption) (by assumption) (fun _ _ => ?_)) | (with_reducible refine tot_less ?_ ?_) | (with_reducible refine tot_gt ?_) | (with_reducible refine tot_gf ?_) | (with_reducible refine tot_bt ?_) | (with_reducible refine tot_bf ?_) | (with_reducible refine tot_nt ?_) | (with_reducible refine tot_nf ?_) | (with_reducible refine tot_tt ?_) | (with_reducible refine tot_tf ?_) | (with_reducible refine tot_tn ?_) | (with_reducible refine tot_tnf ?_) | (with_reducible refine tot_f ?_) | (with_reducible refine tot_dec (fun _ => ?_) (fun _ => ?_)) | (with_reducible refine tot_q ?_ ?_ ?_ ?_; omega; omega; decide) | (with_reducible refine tot_s ?_; assumption))
      exact hk _ _ _ _ _ hu (by omega) (by omega) hb (by omega))
    any_goals (
      refine tot_o (hr (m + 1) b lim w hw (by omega) (by omega) hb (by omega) hl.1 hl.2) (fun u hu => ?_)
      refine tot_chk (by rw [hu.1, hv.1]) ?_
      exact hk _ _ _ _ _ hu (by omega) (by omega) (by omega) (by omega))
  unfold slices_pdqsortOrdered_int_h_J3
  repeat' (first | (with_reducible refine tot_gix (by assumption) ?_ ?_ (fun _ _ => ?_); omega; omega) | (with_reducible refine tot_get (by assumption) ?_ ?_ (fun _ _ => ?_); omega; omega) | (with_reducible refine tot_w ?_ ?_ ?_; omega; omega) | (with_reducible refine tot_set (by assumption) (by assumption) (fun _ _ => ?_)) | (with_reducible refine tot_less ?_ ?_) | (with_reducible refine tot_gt ?_) | (with_reducible refine tot_gf ?_) | (with_reducible refine tot_bt ?_) | (with_reducible refine tot_bf ?_) | (with_reducible refine tot_nt ?_) | (with_reducible refine tot_nf ?_) | (with_reducible refine tot_tt ?_) | (with_reducible refine tot_tf ?_) | (with_reducible refine tot_tn ?_) | (with_reducible refine tot_tnf ?_) | (with_reducible refine tot_f ?_) | (with_reducible refine tot_dec (fun _ => ?_) (fun _ => ?_)) | (with_reducible refine tot_q ?_ ?_ ?_ ?_; omega; omega; decide) | (with_reducible refine tot_s ?_; assumption))
  · exact hpar
  · refine tot_o (peq_t hv ha hab hp hb (by omega)) (fun x hx => ?_)
    refine tot_chk (by rw [hx.2.2.1, hv.1]) ?_
    exact hk _ _ _ _ _ hx.2.2 (by omega) (by omega) hb (by omega)
  · exact hpar
theorem pdq_J2 (hr : Rec M n rec0 (b - a)) (ha : 0 ≤ a) (hab : a < b) (hb : b ≤ n) (hn : n ≤ 24) (hl : 0 ≤ lim ∧ lim ≤ 100) (hk : ∀ (v : List Int) (a' b' : Int) (c d : Bool), In M n v → 0 ≤ a' → a' ≤ b' → b' ≤ n → b' - a' < b - a → Tot (kk v a' b' lim c d) (In M n)) {p h : Int} (hp : a ≤ p ∧ p < b) {v : List Int} (hv : In M n v) : Tot (slices_pdqsortOrdered_int_h_J2 rec0 a b c d kk (b - a) lim v p h) (In M n) := by
  unfold slices_pdqsortOrdered_int_h_J2
  refine tot_b (tot_b (tot_b ?_))
  cases (c && d && decide (h = 1))
  · rw [bif_ff]; exact pdq_J3 hr ha hab hb hn hl hk hp hv
  · rw [bif_tt]
    refine tot_o (pin_t hv ha hab hb (by omega) (by omega)) (fun x hx => ?_)
    refine tot_chk (by rw [hx.1, hv.1]) ?_
    cases x.1
    · rw [bif_ff]; exact pdq_J3 hr ha hab hb hn hl hk hp hx
    · rw [bif_tt]; exact tot_s hx
theorem pdq_J1 (hr : Rec M n rec0 (b - a)) (ha : 0 ≤ a) (hab : a < b) (hb : b ≤ n) (hn : n ≤ 24) (hl : 0 ≤ lim ∧ lim ≤ 100) (hk : ∀ (v : List Int) (a' b' : Int) (c d : Bool), In M n v → 0 ≤ a' → a' ≤ b' → b' ≤ n → b' - a' < b - a → Tot (kk v a' b' lim c d) (In M n)) {v : List Int} (hv : In M n v) : Tot (slices_pdqsortOrdered_int_h_J1 rec0 a b c d kk (b - a) v lim) (In M n) := by
  unfold slices_pdqsortOrdered_int_h_J1
  refine tot_o (piv_t hv ha hab hb (by omega) (by omega)) (fun x hx => ?_)
  repeat' (first | (with_reducible refine tot_gix (by assumption) ?_ ?_ (fun _ _ => ?_); omega; omega) | (with_reducible refine tot_get (by assumption) ?_ ?_ (fun _ _ => ?_); omega; omega) | (with_reducible refine tot_w ?_ ?_ ?_; omega; omega) | (with_reducible refine tot_set (by assumption) (by assumption) (fun _ _ => ?_)) | (with_reducible refine tot_less ?_ ?_) | (with_reducible refine tot_gt ?_) | (with_reducible refine tot_gf ?_) | (with_reducible refine tot_bt ?_) | (with_reducible refine tot_bf ?_) | (with_reducible refine tot_nt ?_) | (with_reducible refine tot_nf ?_) | (with_reducible refine tot_tt ?_) | (with_reducible refine tot_tf ?_) | (with_reducible refine tot_tn ?_) | (with_reducible refine tot_tnf ?_) | (with_reducible refine tot_f ?_) | (with_reducible refine tot_dec (fun _ => ?_) (fun _ => ?_)) | (with_reducible refine tot_q ?_ ?_ ?_ ?_; omega; omega; decide) | (with_reducible refine tot_s ?_; assumption))
  · refine tot_o (rev_t hv ha (by omega) hb (by omega)) (fun u hu => ?_)
    refine tot_chk (by rw [hu.1, hv.1]) ?_
    repeat' (first | (with_reducible refine tot_gix (by assumption) ?_ ?_ (fun _ _ => ?_); omega; omega) | (with_reducible refine tot_get (by assumption) ?_ ?_ (fun _ _ => ?_); omega; omega) | (with_reducible refine tot_w ?_ ?_ ?_; omega; omega) | (with_reducible refine tot_set (by assumption) (by assumption) (fun _ _ => ?_)) | (with_reducible refine tot_less ?_ ?_) | (with_reducible refine tot_gt ?_) | (with_reducible refine tot_gf ?_) | (with_reducible refine tot_bt ?_) | (with_reducible refine tot_bf ?_) | (with_reducible refine tot_nt ?_) | (with_reducible refine tot_nf ?_) | (with_reducible refine tot_tt ?_) | (with_reducible refine tot_tf ?_) | (with_reducible refine tot_tn ?_) | (with_reducible refine tot_tnf ?_) | (with_reducible refine tot_f ?_) | (with_reducible refine tot_dec (fun _ => ?_) (fun _ => ?_)) | (with_reducible refine tot_q ?_ ?_ ?_ ?_; omega; omega; decide) | (with_reducible refine tot_s ?_; assumption))
    exact pdq_J2 hr ha hab hb hn hl hk (by omega) hu
  · exact pdq_J2 hr ha hab hb hn hl hk hx hv
end
section
variable {M : List Int} {n : Nat} {rec0 : Int → Int → Int → List Int → Option (List Int)}
theorem pdq_L0 (hn : n ≤ 24) : ∀ (f : Nat) (v : List Int) (a b lim : Int) (c d : Bool), Rec M n rec0 (b - a) → In M n v → 0 ≤ a → a ≤ b → b ≤ n → 0 ≤ lim → lim ≤ 100 → (b - a).toNat < f → Tot (slices_pdqsortOrdered_int_h_L0 rec0 f v a b lim c d) (In M n)
  | 0, _, _, _, _, _, _, _, _, _, _, _, _, _, h => absurd h (by omega)
  | f + 1, v, a, b, lim, c, d, hr, hv, ha, hab, hb, hl0, hl1, hf => by
    have hk : ∀ lim', 0 ≤ lim' → lim' ≤ 100 → ∀ (v : List Int) (a' b' : Int) (c d : Bool), In M n v → 0 ≤ a' → a' ≤ b' → b' ≤ n → b' - a' < b - a → Tot (slices_pdqsortOrdered_int_h_L0 rec0 f v a' b' lim' c d) (In M n) := fun lim' h1 h2 v a' b' c d hv g0 g1 g2 g3 =>
      pdq_L0 hn f v a' b' lim' c d (fun a2 b2 l2 w hw e1 e2 e3 e4 e5 e6 => hr a2 b2 l2 w hw e1 e2 e3 (by omega) e5 e6) hv g0 g1 g2 h1 h2 (by omega)
    rw [slices_pdqsortOrdered_int_h_L0]
    repeat' (first | (with_reducible refine tot_gix (by assumption) ?_ ?_ (fun _ _ => ?_); omega; omega) | (with_reducible refine tot_get (by assumption) ?_ ?_ (fun _ _ => ?_); omega; omega) | (with_reducible refine tot_w ?_ ?_ ?_; omega; omega) | (with_reducible refine tot_set (by assumption) (by assumption) (fun _ _ => ?_)) | (with_reducible refine tot_less ?_ ?_) | (with_reducible refine tot_gt ?_) | (with_reducible refine tot_gf ?_) | (with_reducible refine tot_bt ?_) | (with_reducible refine tot_bf ?_) | (with_reducible refine tot_nt ?_) | (with_reducible refine tot_nf ?_) | (with_reducible refine tot_tt ?_) | (with_reducible refine tot_tf ?_) | (with_reducible refine tot_tn ?_) | (with_reducible refine tot_tnf ?_) | (with_reducible refine tot_f ?_) | (with_reducible refine tot_dec (fun _ => ?_) (fun _ => ?_)) | (with_reducible refine tot_q ?_ ?_ ?_ ?_; omega; omega; decide) | (with_reducible refine tot_s ?_; assumption))
    · refine tot_o (ins_t hv ha hab hb (by omega)) (fun w hw => ?_)
      exact tot_chk (by rw [hw.1, hv.1]) (tot_s hw)
    · refine tot_o (heap_t hv ha (by omega) hb (by omega)) (fun w hw => ?_)
      exact tot_chk (by rw [hw.1, hv.1]) (tot_s hw)
    · cases c
      · refine tot_nf ?_
        refine tot_o (brk_t hv ha (by omega) hb hn) (fun w hw => ?_)
        refine tot_chk (by rw [hw.1, hv.1]) ?_
        repeat' (first | (with_reducible refine tot_gix (by assumption) ?_ ?_ (fun _ _ => ?_); omega; omega) | (with_reducible refine tot_get (by assumption) ?_ ?_ (fun _ _ => ?_); omega; omega) | (with_reducible refine tot_w ?_ ?_ ?_; omega; omega) | (with_reducible refine tot_set (by assumption) (by assumption) (fun _ _ => ?_)) | (with_reducible refine tot_less ?_ ?_) | (with_reducible refine tot_gt ?_) | (with_reducible refine tot_gf ?_) | (with_reducible refine tot_bt ?_) | (with_reducible refine tot_bf ?_) | (with_reducible refine tot_nt ?_) | (with_reducible refine tot_nf ?_) | (with_reducible refine tot_tt ?_) | (with_reducible refine tot_tf ?_) | (with_reducible refine tot_tn ?_) | (with_reducible refine tot_tnf ?_) | (with_reducible refine tot_f ?_) | (with_reducible refine tot_dec (fun _ => ?_) (fun _ => ?_)) | (with_reducible refine tot_q ?_ ?_ ?_ ?_; omega; omega; decide) | (with_reducible refine tot_s ?_; assumption))
        exact pdq_J1 hr ha (by omega) hb hn (by omega) (hk _ (by omega) (by omega)) hw
      · refine tot_nt ?_
        exact pdq_J1 hr ha (by omega) hb hn (by omega) (hk _ hl0 hl1) hv
end
theorem pdq_t {M : List Int} {n : Nat} (hn : n ≤ 24) : ∀ (nr : Nat) (k : Int), k ≤ nr → Rec M n (slices_pdqsortOrdered_int_h nr) k
  | 0, k, hk => fun a b _ _ _ _ _ _ h _ _ => absurd h (by omega)
  | nr + 1, k, hk => fun a b lim v hv h0 h1 h2 h3 h4 h5 => by
    rw [slices_pdqsortOrdered_int_h]
    unfold slices_pdqsortOrdered_int_h_B
    exact pdq_L0 hn fuel v a b lim true true (pdq_t hn nr (b - a) (by omega)) hv h0 h1 h2 h4 h5 (fuel_gt (by omega))
theorem sort_t {l : List Int} (hl : l.length ≤ 24) : Tot (slices_Sort_int_int_h l) (In l l.length) := by
  unfold slices_Sort_int_int_h
  refine tot_b ?_
  rw [wU64 (by omega) (by omega)]
  refine tot_o (len_t (by omega) (by omega)) (fun x hx => ?_)
  have hr : Rec l l.length (slices_pdqsortOrdered_int_h fuel) 25 := pdq_t hl fuel 25 (by have := fuel_gt (n := 25) (by decide); omega)
  refine tot_o (hr 0 l.length x l ⟨rfl, fun _ h => h⟩ (by omega) (by omega) (by omega) (by omega) hx.1 (by omega)) (fun w hw => ?_)
  exact tot_chk hw.1 (tot_s hw)
end Go.Fn
set_option linter.unusedSimpArgs false
set_option linter.unusedVariables false
open Go Go.IL
namespace Go.Fn
/-! Fold: Depth, Meet, Below. -/
theorem there_any {K : Int} {st : Fs} (h : FV K st) {id : Int} (hx : ∃ n ∈ st.Nodes, n.ID = id) : fold_State_there st id = some true := by
  obtain ⟨y, hy, e⟩ := hx
  obtain ⟨A, C, _, hf⟩ := find_mem h hy
  rw [e] at hf
  unfold fold_State_there
  simp only [hf, bnoS, beq_self_eq_true, gdtt, check34 h, bndD, decide_true, Bool.and_self]
theorem pathA {K : Int} {st : Fs} (h : FV K st) {id : Int} (hx : ∃ n ∈ st.Nodes, n.ID = id) : fold_State_path_h st id = some (pathS st.Nodes st.Nodes.length id) := by
  obtain ⟨y, hy, e⟩ := hx
  have hr := (h.ra y hy).1
  exact path34 h.ok ⟨by omega, by omega⟩
theorem depth_any {K : Int} {st : Fs} (h : FV K st) {id : Int} (hx : ∃ n ∈ st.Nodes, n.ID = id) : fold_Depth st id = some ((pathS st.Nodes st.Nodes.length id).length + 1 : Int) := by
  have hl := path_len st.Nodes st.Nodes.length id
  have hln := h.ln
  unfold fold_Depth
  rw [there_any h hx, bnoS]
  show (bif false then _ else _) = _
  rw [bif_ff, pathA h hx, bnoS, bndD, w64 (by omega) (by omega)]
theorem sum_any {K : Int} {st : Fs} (h : FV K st) {p : Int} (hp : p = 0 ∨ ∃ n ∈ st.Nodes, n.ID = p) : fold_Sum st p = some (sumS st.Nodes p) := by
  have hln := h.ln
  have hs := sum34 (st := st) (by omega) (fun n hn => (h.ra n hn).2) p
  unfold fold_Sum
  by_cases hz : p = 0
  · simp only [check34 h, bnoS, bndD, decide_true, Bool.not_true, decide_eq_true hz, beq_self_eq_true, show ((false : Bool) == true) = false from rfl, Bool.true_and, gdff, Bool.false_and, Bool.or_self, bif_ff, hs]
  · have ht := there_any h (hp.resolve_left hz)
    simp only [check34 h, bnoS, bndD, decide_true, Bool.not_true, decide_eq_false hz, Bool.not_false, beq_self_eq_true, Bool.and_self, gdtt, ht, Bool.and_false, Bool.or_self, bif_ff, hs]
theorem meet_L {x6 x8 : List Int} {e : Int} {v : List Int} (he : e ∈ x6) (h6 : x6.length ≤ 100) (h8 : x8.length ≤ 100) : ∀ (u p : List Int) (f : Nat), x8 = p ++ (u ++ e :: v) → (∀ z ∈ u, z ∉ x6) → u.length < f → fold_Meet_L0 x6 x8 f (p.length : Int) = some e
  | [], p, f + 1, h, hu, _ => by
    have h : x8 = p ++ e :: v := h
    rw [fold_Meet_L0]
    simp only [bndD, lt_at h, bif_tt, gix_at h, get_app h, bnoS, cint (l := x6) (x := e) (by omega), decide_eq_true he]
  | z :: u, p, f + 1, h, hu, hf => by
    have h : x8 = p ++ z :: (u ++ e :: v) := h
    have hrec := meet_L (v := v) he h6 h8 u (p ++ [z]) f (next_at h) (fun y hy => hu y (by simp [hy])) (by simpa using hf)
    have hz : z ∉ x6 := hu z (by simp)
    rw [fold_Meet_L0]
    simp only [bndD, lt_at h, bif_tt, gix_at h, get_app h, bnoS, cint (l := x6) (x := z) (by omega), decide_eq_false hz, bif_ff, w_at h (by omega)]
    exact hrec
theorem meet_any {K : Int} {st : Fs} (h : FV K st) {a b e : Int} (ha : ∃ n ∈ st.Nodes, n.ID = a) (hb : ∃ n ∈ st.Nodes, n.ID = b) {u v : List Int} (h1 : a :: pathS st.Nodes st.Nodes.length a = u ++ e :: v) (h2 : e ∈ pathS st.Nodes st.Nodes.length b ++ [b]) (h3 : ∀ z ∈ u, z ∉ pathS st.Nodes st.Nodes.length b ++ [b]) : fold_Meet st a b = some e := by
  have hla := path_len st.Nodes st.Nodes.length a
  have hlb := path_len st.Nodes st.Nodes.length b
  have hln := h.ln
  have e1 : app 8 (pathS st.Nodes st.Nodes.length b) [b] = some (pathS st.Nodes st.Nodes.length b ++ [b]) := app_ok (by simp; omega) (by simp; omega)
  have e2 : app 8 [a] (pathS st.Nodes st.Nodes.length a) = some (u ++ e :: v) := by rw [app_ok (by simp; omega) (by simp; omega), ← h1]; rfl
  have hlen : (u ++ e :: v).length = (pathS st.Nodes st.Nodes.length a).length + 1 := by rw [← h1]; rfl
  have hm := meet_L (x6 := pathS st.Nodes st.Nodes.length b ++ [b]) (x8 := u ++ e :: v) (v := v) h2 (by simp; omega) (by omega) u [] fuel rfl h3 (fuel_gt (by rw [List.length_append] at hlen; omega))
  unfold fold_Meet
  simp only [there_any h ha, there_any h hb, bnoS, Bool.not_true, beq_self_eq_true, gdtt, bndD, Bool.or_self, bif_ff, pathA h ha, pathA h hb, e1, e2]
  exact hm
/-! What is below: the code. -/
def flatB (id : Int) (B : Int → List Int) (l : List Nd) : List Int := l.flatMap fun n => if n.Parent = id then n.ID :: B n.ID else []
theorem bel_L {st : Fs} (hl : st.Nodes.length ≤ 1000) {id : Int} {B : Int → List Int} {rec0 : Int → Fs → List Int → Option (List Int)} (hrec : ∀ n ∈ st.Nodes, n.Parent = id → ∀ acc, (acc ++ B n.ID).length ≤ 1000 → rec0 n.ID st acc = some (acc ++ B n.ID)) : ∀ (r p : List Nd) (acc : List Int) (f : Nat), st.Nodes = p ++ r → r.length < f → (acc ++ flatB id B r).length ≤ 1000 → fold_Below_1_h_v2_L0 rec0 id st f (p.length : Int) acc = some (acc ++ flatB id B r)
  | [], p, acc, f + 1, hN, _, _ => by
    rw [List.append_nil] at hN
    rw [fold_Below_1_h_v2_L0]
    simp only [bndD, hN, lt_len, bif_ff]
    rw [show flatB id B [] = [] from rfl, List.append_nil]
  | n :: r, p, acc, f + 1, hN, hf, ha => by
    have hn : n ∈ st.Nodes := by rw [hN]; simp
    have e : flatB id B (n :: r) = (if n.Parent = id then n.ID :: B n.ID else []) ++ flatB id B r := by unfold flatB; rw [List.flatMap_cons]
    rw [e] at ha ⊢
    rw [fold_Below_1_h_v2_L0]
    simp only [bndD, lt_at hN, bif_tt, gix_at hN, bnoS, w_at hN (show st.Nodes.length ≤ 1000000 by omega)]
    by_cases hp : n.Parent = id
    · rw [if_pos hp] at ha ⊢
      simp only [List.length_append, List.length_cons] at ha
      have hr := bel_L (B := B) hl hrec r (p ++ [n]) (acc ++ [n.ID] ++ B n.ID) f (next_at hN) (by simpa using hf) (by simp only [List.length_append, List.length_cons, List.length_nil]; omega)
      have h1 := hrec n hn hp (acc ++ [n.ID]) (by simp only [List.length_append, List.length_cons, List.length_nil]; omega)
      simp only [decide_eq_true hp, bif_tt, app_ok (b := 8) (l := acc) (m := [n.ID]) (by simp only [List.length_cons, List.length_nil]; omega) (by simp only [List.length_cons, List.length_nil]; omega), bnoS, h1]
      rw [hr]
      simp
    · rw [if_neg hp] at ha ⊢
      have hr := bel_L (B := B) hl hrec r (p ++ [n]) acc f (next_at hN) (by simpa using hf) (by simpa using ha)
      simp only [decide_eq_false hp, bif_ff]
      rw [hr]
      simp
theorem bel_rec {st : Fs} (hl : st.Nodes.length ≤ 1000) : ∀ (k nr : Nat) (id : Int) (acc : List Int), Hb st.Nodes k id → k < nr → (acc ++ belowS st.Nodes k id).length ≤ 1000 → fold_Below_1_h_v2 nr id st acc = some (acc ++ belowS st.Nodes k id)
  | _, 0, _, _, _, h, _ => absurd h (by omega)
  | 0, nr + 1, id, acc, hb, _, ha => by
    have hno : ∀ l : List Nd, (∀ n ∈ l, n.Parent ≠ id) → flatB id (fun _ => []) l = [] := fun l => by
      induction l with
      | nil => intro _; rfl
      | cons n l ih =>
        intro h
        show (if n.Parent = id then _ else []) ++ flatB id (fun _ => []) l = []
        rw [if_neg (h n (by simp)), ih (fun m hm => h m (by simp [hm]))]; rfl
    have hz := hno st.Nodes hb
    have := bel_L (B := fun _ => []) (rec0 := fold_Below_1_h_v2 nr) hl (fun n hn hp => absurd hp (hb n hn)) st.Nodes [] acc fuel rfl (fuel_gt (by omega)) (by rw [hz]; exact ha)
    rw [fold_Below_1_h_v2]
    unfold fold_Below_1_h_v2_B
    rw [hz] at this
    exact this
  | k + 1, nr + 1, id, acc, hb, hk, ha => by
    have := bel_L (B := belowS st.Nodes k) (rec0 := fold_Below_1_h_v2 nr) hl (fun n hn hp acc hacc => bel_rec hl k nr n.ID acc (hb n hn hp) (by omega) hacc) st.Nodes [] acc fuel rfl (fuel_gt (by omega)) ha
    rw [fold_Below_1_h_v2]
    unfold fold_Below_1_h_v2_B
    exact this
theorem bel_same (id : Int) (st : Fs) : ∀ (f : Nat) (i : Int) (acc : List Int), fold_Below_1_h_L0 id st f i acc = fold_Below_1_h_v2_L0 (fold_Below_1_h_v2 fuel) id st f i acc
  | 0, _, _ => by rw [fold_Below_1_h_L0, fold_Below_1_h_v2_L0]
  | f + 1, i, acc => by
    rw [fold_Below_1_h_L0, fold_Below_1_h_v2_L0]
    simp only [bel_same id st f]
theorem bel_top {st : Fs} (hl : st.Nodes.length ≤ 1000) {k : Nat} {id : Int} (hb : Hb st.Nodes (k + 1) id) (hk : k ≤ 10000) (ha : (belowS st.Nodes (k + 1) id).length ≤ 1000) : fold_Below_1_h id st = some (belowS st.Nodes (k + 1) id) := by
  unfold fold_Below_1_h
  rw [bel_same]
  have hf : k < fuel := fuel_gt (by omega)
  have := bel_L (B := belowS st.Nodes k) (rec0 := fold_Below_1_h_v2 fuel) hl (fun n hn hp acc hacc => bel_rec hl k fuel n.ID acc (hb n hn hp) hf hacc) st.Nodes [] [] fuel rfl (fuel_gt (by omega)) ha
  exact this
/-- What Below tells. -/
theorem below_any {K : Int} {st : Fs} (h : FV K st) {id : Int} (hx : id = 0 ∨ ∃ n ∈ st.Nodes, n.ID = id) : ∃ l, fold_Below st id = some l ∧ l.length = (belowS st.Nodes (st.Nodes.length + 1) id).length ∧ ∀ z ∈ l, Dsc st.Nodes id z := by
  obtain ⟨r, ht⟩ := h.tr
  have hln := h.ln
  have h0 : ∀ n ∈ st.Nodes, n.ID ≠ 0 := fun n hn => by have := ht.id n hn; omega
  have hb : Hb st.Nodes (st.Nodes.length + 1) id := by
    rcases hx with e | ⟨n, hn, e⟩
    · rw [e]; exact hb_root ht
    · rw [← e]; exact hb_all ht _ n hn (by omega)
  have hnd := bel_nodup ht (st.Nodes.length + 1) id
  have hle := nodup_le hnd (m := st.Nodes.map (·.ID)) (fun z hz => by
    obtain ⟨n, hn, e⟩ := dsc_node (bel_mem _ id z h0 hz)
    exact List.mem_map.2 ⟨n, hn, e⟩)
  rw [List.length_map] at hle
  have htop := bel_top (st := st) (by omega) hb (by omega) (by omega)
  obtain ⟨l, hs, hl1, hl2⟩ := sort_t (l := belowS st.Nodes (st.Nodes.length + 1) id) (by omega)
  refine ⟨l, ?_, hl1, fun z hz => bel_mem _ id z h0 (hl2 z hz)⟩
  unfold fold_Below
  rw [check34 h, bnoS, bndD, bndD]
  by_cases hz : id = 0
  · simp only [decide_true, Bool.not_true, decide_eq_true hz, beq_self_eq_true, show ((false : Bool) == true) = false from rfl, Bool.true_and, gdff, bnoS, bndD, Bool.false_and, Bool.or_self, bif_ff, htop, hs, chk_t hl1]
  · have hth := there_any h (hx.resolve_left hz)
    simp only [decide_true, Bool.not_true, decide_eq_false hz, Bool.not_false, beq_self_eq_true, Bool.and_self, gdtt, hth, bnoS, bndD, Bool.and_false, Bool.or_self, bif_ff, htop, hs, chk_t hl1]
end Go.Fn
