/-
  A part of the proof: rules and plain facts. No condition.
-/
import Derived.Test.YthjfhdlaockolaaIlTr
import Derived.KernelRfl
import Derived.Test.YthjfhdlaockolaaIlA34dD
set_option linter.all false
set_option linter.unusedSimpArgs false
set_option linter.unusedVariables false
open Go Go.IL
namespace Go.Fn
/-! Loops over lists, at any functions that are as the library's. -/
theorem gix_at {α : Type} {l p r : List α} {x : α} (h : l = p ++ x :: r) : gix l (p.length : Int) = some x := by
  subst h; rw [gix_nat, List.getElem?_append_right (Nat.le_refl _)]; simp
theorem lt_at {α : Type} {l p r : List α} {x : α} (h : l = p ++ x :: r) : decide ((p.length : Int) < (l.length : Int)) = true := by
  subst h; simp; omega
theorem lt_len {α : Type} {l : List α} : decide ((l.length : Int) < (l.length : Int)) = false := by simp
theorem w_at {α : Type} {l p r : List α} {x : α} (h : l = p ++ x :: r) (hl : l.length ≤ 1000000) : IntKind.wrap .i64 ((p.length : Int) + 1) = ((p ++ [x]).length : Int) := by
  subst h; simp only [List.length_append, List.length_cons, List.length_nil] at hl ⊢; rw [w64 (by omega) (by omega)]; omega
theorem next_at {α : Type} {l p r : List α} {x : α} (h : l = p ++ x :: r) : l = (p ++ [x]) ++ r := by rw [h]; simp
theorem tf : (true == false) = false := rfl
theorem ft : (false == true) = false := rfl
theorem idxf_gen {α : Type} {L : Nat → Int → Option Int} {l : List α} {q : α → Bool}
    (h1 : ∀ p x r f, l = p ++ x :: r → L (f + 1) (p.length : Int) = bif q x then some (p.length : Int) else L f ((p ++ [x]).length : Int)) (h0 : ∀ f, L (f + 1) (l.length : Int) = some (-1)) :
    ∀ (r p : List α) (f : Nat), l = p ++ r → r.length < f → (∀ y ∈ p, q y = false) →
      (L f (p.length : Int) = some (-1) ∧ ∀ y ∈ l, q y = false) ∨ ∃ a x t, l = a ++ x :: t ∧ (∀ y ∈ a, q y = false) ∧ q x = true ∧ L f (p.length : Int) = some (a.length : Int)
  | [], p, f + 1, h, _, ha => by
    left
    rw [List.append_nil] at h
    subst h
    exact ⟨h0 f, ha⟩
  | y :: r, p, f + 1, h, hf, ha => by
    rw [h1 p y r f h]
    rcases Bool.eq_false_or_eq_true (q y) with hb | hb
    · right; exact ⟨p, y, r, h, ha, hb, by rw [hb]; rfl⟩
    · rw [hb, bif_ff]
      exact idxf_gen h1 h0 r (p ++ [y]) f (next_at h) (by simpa using hf) (fun z hz => by
        rcases List.mem_append.1 hz with hz | hz
        · exact ha z hz
        · rw [List.mem_singleton.1 hz]; exact hb)
theorem idxf_any {α : Type} {L : Nat → Int → Option Int} {l : List α} {q : α → Bool} (hl : l.length ≤ 1000000)
    (h1 : ∀ p x r f, l = p ++ x :: r → L (f + 1) (p.length : Int) = bif q x then some (p.length : Int) else L f ((p ++ [x]).length : Int)) (h0 : ∀ f, L (f + 1) (l.length : Int) = some (-1)) :
    ∃ k : Int, L fuel 0 = some k ∧ decide (0 ≤ k) = l.any q := by
  rcases idxf_gen h1 h0 l [] fuel rfl (fuel_gt (by omega)) (fun _ h => (List.not_mem_nil h).elim) with ⟨h2, h3⟩ | ⟨a, x, t, h2, h3, h4, h5⟩
  · refine ⟨-1, h2, ?_⟩
    symm
    have : l.any q = false := by rw [List.any_eq_false]; intro y hy; rw [h3 y hy]; decide
    rw [this]; rfl
  · refine ⟨a.length, h5, ?_⟩
    have : l.any q = true := List.any_eq_true.2 ⟨x, by rw [h2]; simp, h4⟩
    rw [this]; exact decide_eq_true (by omega)
theorem equal_gen {α : Type} [DecidableEq α] {L : Nat → Int → Option Bool} {l m : List α} (hm : l.length = m.length)
    (h1 : ∀ p x r s y t f, l = p ++ x :: r → m = s ++ y :: t → p.length = s.length → L (f + 1) (p.length : Int) = bif !decide (x = y) then some false else L f ((p ++ [x]).length : Int)) {z : Bool} (h0 : ∀ f, L (f + 1) (l.length : Int) = some z) :
    ∀ (r t p s : List α) (f : Nat), l = p ++ r → m = s ++ t → p.length = s.length → r.length < f → L f (p.length : Int) = some (decide (r = t) && z)
  | [], [], p, s, f + 1, h, k, e, _ => by
    rw [List.append_nil] at h
    subst h
    rw [h0]; simp
  | [], y :: t, p, s, f + 1, h, k, e, _ => by rw [h, k] at hm; simp at hm; omega
  | x :: r, [], p, s, f + 1, h, k, e, _ => by rw [h, k] at hm; simp at hm; omega
  | x :: r, y :: t, p, s, f + 1, h, k, e, hf => by
    rw [h1 p x r s y t f h k e]
    by_cases hx : x = y
    · subst hx
      rw [decide_eq_true rfl, Bool.not_true, bif_ff]
      have := equal_gen hm h1 h0 r t (p ++ [x]) (s ++ [x]) f (next_at h) (next_at k) (by simp [e]) (by simpa using hf)
      rw [this]; simp
    · rw [decide_eq_false hx, Bool.not_false, bif_tt]; simp [hx]
theorem equal_all {α : Type} [DecidableEq α] {L : Nat → Int → Option Bool} {l m : List α} (hl : l.length ≤ 1000000)
    (h1 : ∀ p x r s y t f, l = p ++ x :: r → m = s ++ y :: t → p.length = s.length → L (f + 1) (p.length : Int) = bif !decide (x = y) then some false else L f ((p ++ [x]).length : Int)) {z : Bool} (h0 : l.length = m.length → ∀ f, L (f + 1) (l.length : Int) = some z) :
    (bnd (!decide ((l.length : Int) = (m.length : Int))) fun x1 => bif x1 then some false else L fuel 0) = some (decide (l = m) && z) := by
  by_cases hm : l.length = m.length
  · simp only [bndD, decide_eq_true (show (l.length : Int) = (m.length : Int) by omega), Bool.not_true, bif_ff]
    exact equal_gen hm h1 (h0 hm) l m [] [] fuel rfl rfl rfl (fuel_gt (by omega))
  · simp only [bndD, decide_eq_false (show ¬ (l.length : Int) = (m.length : Int) by omega), Bool.not_false, bif_tt]
    rw [decide_eq_false (fun h => hm (by rw [h]))]; rfl
theorem bsf_gen {α : Type} {L : Nat → Int → Int → Option (Int × Bool)} {l : List α} {key : α → Int} {x : Int} (hl : l.length ≤ 1000000)
    (h1 : ∀ (f lo hi m : Nat) (y : α), lo < hi → hi ≤ l.length → m = (lo + hi) / 2 → l[m]? = some y → L (f + 1) (lo : Int) (hi : Int) = bif decide (key y < x) then L f ((m + 1 : Nat) : Int) (hi : Int) else L f (lo : Int) (m : Int))
    (h0 : ∀ (f lo : Nat), lo ≤ l.length → L (f + 1) (lo : Int) (lo : Int) = some ((lo : Int), decide ((l[lo]?).map key = some x))) :
    ∀ (f lo hi : Nat), hi - lo < f → lo ≤ hi → hi ≤ l.length → ∃ p : Nat, p ≤ l.length ∧ L f lo hi = some ((p : Int), decide ((l[p]?).map key = some x)) ∧
    (l.Pairwise (fun a b => key a < key b) → (∀ y ∈ l.take lo, key y < x) → (∀ y ∈ l.drop hi, x ≤ key y) → (∀ y ∈ l.take p, key y < x) ∧ (∀ y ∈ l.drop p, x ≤ key y)) := by
  intro f
  induction f with
  | zero => intro lo hi h; omega
  | succ f ih =>
    intro lo hi hf h2 h3
    by_cases hc : lo < hi
    · have hm : (lo + hi) / 2 < l.length := by omega
      rw [h1 f lo hi _ l[(lo + hi) / 2] hc h3 rfl (List.getElem?_eq_getElem hm)]
      generalize hmm : (lo + hi) / 2 = m at hm ⊢
      have hml : lo ≤ m := by omega
      have hmh : m < hi := by omega
      by_cases hx : key l[m] < x
      · rw [decide_eq_true hx, bif_tt]
        obtain ⟨p, i1, i2, i3⟩ := ih (m + 1) hi (by omega) (by omega) h3
        refine ⟨p, i1, i2, fun hp ha hb => i3 hp (fun y hy => ?_) hb⟩
        obtain ⟨j, hj, rfl⟩ := List.mem_iff_getElem.1 hy
        rw [List.length_take] at hj
        rw [List.getElem_take]
        rcases Nat.lt_or_ge j m with hjm | hjm
        · exact Int.lt_trans (List.pairwise_iff_getElem.1 hp j m (by omega) (by omega) hjm) hx
        · have : j = m := by omega
          subst this; exact hx
      · rw [decide_eq_false hx, bif_ff]
        obtain ⟨p, i1, i2, i3⟩ := ih lo m (by omega) (by omega) (by omega)
        refine ⟨p, i1, i2, fun hp ha hb => i3 hp ha (fun y hy => ?_)⟩
        obtain ⟨j, hj, rfl⟩ := List.mem_iff_getElem.1 hy
        rw [List.length_drop] at hj
        rw [List.getElem_drop]
        rcases Nat.eq_zero_or_pos j with rfl | hj0
        · simp only [Nat.add_zero]; omega
        · have := List.pairwise_iff_getElem.1 hp m (m + j) (by omega) (by omega) (by omega)
          omega
    · have : lo = hi := by omega
      subst this
      exact ⟨lo, h3, h0 f lo h3, fun _ ha hb => ⟨ha, hb⟩⟩
theorem split_key {α : Type} {l a b : List α} {key : α → Int} {x : Int} (h : l = a ++ b) (ha : ∀ y ∈ a, key y < x) (hb : ∀ y ∈ b, x ≤ key y) : a = l.filter (fun y => decide (key y < x)) ∧ b = l.filter (fun y => decide (x ≤ key y)) := by
  subst h
  rw [List.filter_append, List.filter_append, List.filter_eq_self.2 (fun y hy => decide_eq_true (ha y hy)), List.filter_eq_nil_iff.2 (fun y hy => by have := hb y hy; simp; omega), List.filter_eq_nil_iff.2 (fun y hy => by have := ha y hy; simp; omega), List.filter_eq_self.2 (fun y hy => decide_eq_true (hb y hy))]
  simp
theorem bsf_all {α : Type} {L : Nat → Int → Int → Option (Int × Bool)} {l : List α} {key : α → Int} {x : Int} (hl : l.length ≤ 1000000)
    (h1 : ∀ (f lo hi m : Nat) (y : α), lo < hi → hi ≤ l.length → m = (lo + hi) / 2 → l[m]? = some y → L (f + 1) (lo : Int) (hi : Int) = bif decide (key y < x) then L f ((m + 1 : Nat) : Int) (hi : Int) else L f (lo : Int) (m : Int))
    (h0 : ∀ (f lo : Nat), lo ≤ l.length → L (f + 1) (lo : Int) (lo : Int) = some ((lo : Int), decide ((l[lo]?).map key = some x))) (hp : l.Pairwise (fun a b => key a < key b)) :
    ∃ a b : List α, l = a ++ b ∧ a = l.filter (fun y => decide (key y < x)) ∧ b = l.filter (fun y => decide (x ≤ key y)) ∧
      ((∃ y c, b = y :: c ∧ key y = x ∧ L fuel 0 (l.length : Int) = some ((a.length : Int), true)) ∨ ((∀ y ∈ l, key y ≠ x) ∧ L fuel 0 (l.length : Int) = some ((a.length : Int), false))) := by
  obtain ⟨p, e1, e2, e3⟩ := bsf_gen hl h1 h0 fuel 0 l.length (fuel_gt (by omega)) (Nat.zero_le _) (Nat.le_refl _)
  obtain ⟨e4, e5⟩ := e3 hp (by simp) (by simp)
  obtain ⟨e6, e7⟩ := split_key (List.take_append_drop p l).symm e4 e5
  have hpl : (l.take p).length = p := by rw [List.length_take]; omega
  have e2 : L fuel 0 (l.length : Int) = _ := e2
  refine ⟨l.take p, l.drop p, (List.take_append_drop p l).symm, e6, e7, ?_⟩
  rw [hpl, e2]
  by_cases hx : (l[p]?).map key = some x
  · left
    obtain ⟨y, hy, hk⟩ := Option.map_eq_some_iff.1 hx
    have hlt : p < l.length := (List.getElem?_eq_some_iff.1 hy).1
    have hye : l[p] = y := (List.getElem?_eq_some_iff.1 hy).2
    exact ⟨y, l.drop (p + 1), by rw [← hye]; exact List.drop_eq_getElem_cons hlt, hk, by rw [decide_eq_true hx]⟩
  · right
    refine ⟨fun y hy hk => ?_, by rw [decide_eq_false hx]⟩
    rw [← List.take_append_drop p l] at hy
    rcases List.mem_append.1 hy with hy | hy
    · have := e4 y hy; omega
    · obtain ⟨j, hj, hjx⟩ := List.mem_iff_getElem.1 hy
      rw [List.length_drop] at hj
      rw [List.getElem_drop] at hjx
      rcases Nat.eq_zero_or_pos j with rfl | hj0
      · apply hx; rw [List.getElem?_eq_getElem (by omega)]; simp only [Nat.add_zero] at hjx; rw [Option.map_some, hjx, hk]
      · have h8 := List.pairwise_iff_getElem.1 hp p (p + j) (by omega) (by omega) (by omega)
        have h9 := e5 l[p] (List.mem_iff_getElem.2 ⟨0, by rw [List.length_drop]; omega, by rw [List.getElem_drop]; simp⟩)
        rw [hjx, hk] at h8; omega
theorem binaryFunc_gen {α : Type} {dflt : α} {C : α → Option Int} {c : α → Int} {key : α → Int} {x : Int} {L : Nat → Int → Int → Option (Int × Bool)} {l : List α} (hC : ∀ y ∈ l, C y = some (c y)) (hc : ∀ y ∈ l, (c y < 0 ↔ key y < x) ∧ (c y = 0 ↔ key y = x))
    (hL : ∀ f a b, L (f + 1) a b = bnd (decide (a < b)) fun x25 => bif x25 then (bnd (IntKind.wrap .i64 (a + b)) fun x27 => bnd (IntKind.wrap .u64 x27) fun x28 => bno (shrI .u64 x28 1) fun x29 => bnd (IntKind.wrap .i64 x29) fun x30 => bno (gix l x30) fun x31 => bno (C x31) fun x32 =>
      bnd (decide (x32 < 0)) fun x33 => bif x33 then (bnd (IntKind.wrap .i64 (x30 + 1)) fun x35 => L f x35 b) else (L f a x30)) else (bnd (decide (a < (l.length : Int))) fun x36 => bno (gd (x36 == true) (gix l a) (dflt : α)) fun x37 => bno (gd (x36 == true) (C x37) (default : Int)) fun x38 =>
      bnd (decide (x38 = 0)) fun x39 => bnd (x36 && x39) fun x40 => some (a, x40)))
    (hl : l.length ≤ 1000000) (hp : l.Pairwise (fun a b => key a < key b)) :
    ∃ a b : List α, l = a ++ b ∧ a = l.filter (fun y => decide (key y < x)) ∧ b = l.filter (fun y => decide (x ≤ key y)) ∧
      ((∃ y c, b = y :: c ∧ key y = x ∧ L fuel 0 (l.length : Int) = some ((a.length : Int), true)) ∨ ((∀ y ∈ l, key y ≠ x) ∧ L fuel 0 (l.length : Int) = some ((a.length : Int), false))) := by
  refine bsf_all hl (fun f lo hi m y h1 h2 h3 h4 => ?_) (fun f lo h1 => ?_) hp
  · rw [hL]
    have hy : y ∈ l := List.mem_of_getElem? h4
    have e1 : shrI .u64 ((lo : Int) + (hi : Int)) 1 = some ((m : Nat) : Int) := by
      rw [shr_at (k := .u64) (b := 1) 1 rfl (by decide), h3]; congr 1
    simp only [bndD, decide_eq_true (show (lo : Int) < (hi : Int) by omega), bif_tt, w64 (show -9223372036854775808 ≤ (lo : Int) + (hi : Int) by omega) (by omega), wU64 (show 0 ≤ (lo : Int) + (hi : Int) by omega) (by omega), e1, bnoS,
      w64 (show -9223372036854775808 ≤ ((m : Nat) : Int) by omega) (by omega), gix_nat, h4, hC y hy, w64 (show -9223372036854775808 ≤ (m : Int) + 1 by omega) (by omega)]
    by_cases hx : key y < x
    · rw [decide_eq_true hx, decide_eq_true ((hc y hy).1.2 hx)]; rfl
    · rw [decide_eq_false hx, decide_eq_false (fun h => hx ((hc y hy).1.1 h))]; rfl
  · rw [hL]
    simp only [bndD, decide_eq_false (show ¬ (lo : Int) < (lo : Int) by omega), bif_ff]
    by_cases hl' : lo < l.length
    · have hy : l[lo] ∈ l := List.getElem_mem hl'
      simp only [decide_eq_true (show (lo : Int) < (l.length : Int) by omega), beq_self_eq_true, gdtt, gix_nat, List.getElem?_eq_getElem hl', bnoS, hC _ hy, Bool.true_and, Option.map_some, Option.some.injEq]
      by_cases hx : key l[lo] = x
      · rw [decide_eq_true hx, decide_eq_true ((hc _ hy).2.2 hx)]
      · rw [decide_eq_false hx, decide_eq_false (fun h => hx ((hc _ hy).2.1 h))]
    · rw [List.getElem?_eq_none (by omega)]
      simp only [decide_eq_false (show ¬ (lo : Int) < (l.length : Int) by omega), ft, gdff, bnoS, Bool.false_and, Option.map_none]
      rfl
end Go.Fn
set_option linter.unusedSimpArgs false
set_option linter.unusedVariables false
open Go Go.IL
namespace Go.Fn
/-! Fold: where a node stands; what it depends on. -/
abbrev Nd := T_ptree_Node
abbrev Fs := T_fold_State
theorem awake34 : sennitlaw34_awake = some true := by kernel_rfl
def I64 (n : Int) : Prop := -9223372036854775808 ≤ n ∧ n ≤ 9223372036854775807
theorem wrap_ne {a id : Int} (ha : 1 ≤ a ∧ a ≤ 1048576) (h : I64 id) (hn : a ≠ id) : IntKind.wrap .i64 (a - id) ≠ 0 := by
  obtain ⟨h1, h2⟩ := h
  rw [IntKind.wrap_i64]
  omega
/-- A search among what is in no order ends, too. -/
theorem bs_any {N : List Nd} (hl : N.length ≤ 1000) (hr : ∀ n ∈ N, 1 ≤ n.ID ∧ n.ID ≤ 1048576) (id : Int) (hn : ∀ n ∈ N, n.ID ≠ id) (h64 : I64 id) : ∀ (f lo hi : Nat), hi - lo < f → lo ≤ hi → hi ≤ N.length →
    ∃ p : Nat, p ≤ N.length ∧ slices_BinarySearchFunc_ptree_Node_ptree_Node_int_find_1_L0 N id f (lo : Int) (hi : Int) = some ((p : Int), false)
  | 0, lo, hi, h, _, _ => absurd h (by omega)
  | f + 1, lo, hi, h, h1, h2 => by
    rw [slices_BinarySearchFunc_ptree_Node_ptree_Node_int_find_1_L0, bndD]
    by_cases hlt : lo < hi
    · have hm : (lo + hi) / 2 < N.length := by omega
      have e1 : shrI .u64 ((lo : Int) + (hi : Int)) 1 = some (((lo + hi) / 2 : Nat) : Int) := by
        rw [shr_at (k := .u64) (b := 1) 1 rfl (by decide)]; congr 1
      have hg : N[(lo + hi) / 2]? = some N[(lo + hi) / 2] := List.getElem?_eq_getElem hm
      have hc : fold_State_find_1 N[(lo + hi) / 2] id = some (IntKind.wrap .i64 (N[(lo + hi) / 2].ID - id)) := rfl
      simp only [bndD, decide_eq_true (show (lo : Int) < (hi : Int) by omega), bif_tt, w64 (show -9223372036854775808 ≤ (lo : Int) + (hi : Int) by omega) (by omega), wU64 (show 0 ≤ (lo : Int) + (hi : Int) by omega) (by omega), e1, bnoS,
        w64 (show -9223372036854775808 ≤ (((lo + hi) / 2 : Nat) : Int) by omega) (by omega), gix_nat, hg, hc]
      by_cases hx : IntKind.wrap .i64 (N[(lo + hi) / 2].ID - id) < 0
      · rw [decide_eq_true hx, bif_tt, w64 (by omega) (by omega)]
        have := bs_any hl hr id hn h64 f ((lo + hi) / 2 + 1) hi (by omega) (by omega) h2
        exact this
      · rw [decide_eq_false hx, bif_ff]
        exact bs_any hl hr id hn h64 f lo ((lo + hi) / 2) (by omega) (by omega) (by omega)
    · refine ⟨lo, by omega, ?_⟩
      simp only [bndD, decide_eq_false (show ¬ (lo : Int) < (hi : Int) by omega), bif_ff]
      by_cases hl' : lo < N.length
      · have hg : N[lo]? = some N[lo] := List.getElem?_eq_getElem hl'
        have hc : fold_State_find_1 N[lo] id = some (IntKind.wrap .i64 (N[lo].ID - id)) := rfl
        have hmem := List.getElem_mem hl'
        have hz := wrap_ne (hr _ hmem) h64 (hn _ hmem)
        simp only [decide_eq_true (show (lo : Int) < (N.length : Int) by omega), beq_self_eq_true, gdtt, gix_nat, hg, bnoS, hc, decide_eq_false hz, Bool.and_false]
      · simp only [decide_eq_false (show ¬ (lo : Int) < (N.length : Int) by omega), ft, gdff, bnoS, Bool.false_and]
/-- What a search tells. -/
inductive Fd (N : List Nd) (id : Int) : Int × Bool → Prop
  | yes (A : List Nd) (y : Nd) (C : List Nd) (h : N = A ++ y :: C) (e : y.ID = id) (ha : ∀ a ∈ A, a.ID < id) (hc : ∀ c ∈ C, id < c.ID) : Fd N id ((A.length : Int), true)
  | no (p : Nat) (hp : p ≤ N.length) (h : ∀ n ∈ N, n.ID ≠ id) (h2 : 0 ≤ id → id ≤ 1048576 → (∀ a ∈ N.take p, a.ID < id) ∧ ∀ c ∈ N.drop p, id < c.ID) : Fd N id ((p : Int), false)
theorem find_st (st : Fs) (id : Int) {r : Int × Bool} (h : slices_BinarySearchFunc_ptree_Node_ptree_Node_int_find_1 st.Nodes id = some r) : fold_State_find st id = some r := by
  unfold fold_State_find
  rw [h, bnoS]
theorem bs_ok {N : List Nd} (hl : N.length ≤ 1000) (hr : ∀ n ∈ N, 1 ≤ n.ID ∧ n.ID ≤ 1048576) (hs : N.Pairwise (fun a b => a.ID < b.ID)) {id : Int} (h64 : I64 id) : ∃ r, slices_BinarySearchFunc_ptree_Node_ptree_Node_int_find_1 N id = some r ∧ Fd N id r := by
  by_cases hin : 0 ≤ id ∧ id ≤ 1048576
  · obtain ⟨a, b, h1, h2, h3, h4⟩ := binaryFunc_gen (dflt := (default : Nd)) (C := fun y => fold_State_find_1 y id) (c := fun y => y.ID - id) (key := fun y => y.ID) (x := id) (L := slices_BinarySearchFunc_ptree_Node_ptree_Node_int_find_1_L0 N id) (l := N)
      (fun y hy => by
        have := hr y hy
        unfold fold_State_find_1
        rw [bndD, w64 (by omega) (by omega)])
      (fun y hy => ⟨by omega, by omega⟩) (fun f a b => rfl) (by omega) hs
    have hlt : ∀ y ∈ a, y.ID < id := fun y hy => by
      rw [h2] at hy; have := (List.mem_filter.1 hy).2; simpa using this
    have hge : ∀ y ∈ b, id ≤ y.ID := fun y hy => by
      rw [h3] at hy; have := (List.mem_filter.1 hy).2; simpa using this
    rcases h4 with ⟨y, c, e1, e2, e3⟩ | ⟨e1, e2⟩
    · subst e1
      have hpw := hs
      rw [h1] at hpw
      have hpw := (List.pairwise_cons.1 (List.pairwise_append.1 hpw).2.1).1
      exact ⟨_, e3, .yes a y c h1 e2 hlt (fun z hz => by have := hpw z hz; omega)⟩
    · refine ⟨_, e2, .no a.length (by rw [h1, List.length_append]; omega) e1 (fun _ _ => ?_)⟩
      rw [h1, List.take_left, List.drop_left]
      exact ⟨hlt, fun z hz => by have := hge z hz; have := e1 z (by rw [h1]; simp [hz]); omega⟩
  · have hn : ∀ n ∈ N, n.ID ≠ id := fun n hn => by have := hr n hn; omega
    obtain ⟨p, h1, h2⟩ := bs_any hl hr id hn h64 fuel 0 N.length (fuel_gt (by omega)) (Nat.zero_le _) (Nat.le_refl _)
    exact ⟨_, h2, .no p h1 hn (fun h3 h4 => absurd ⟨h3, h4⟩ hin)⟩
def parOf (N : List Nd) (id : Int) : Option Int := (N.find? fun n => decide (n.ID = id)).map (·.Parent)
theorem par_yes {N A C : List Nd} {y : Nd} {id : Int} (h : N = A ++ y :: C) (e : y.ID = id) (ha : ∀ a ∈ A, a.ID < id) : parOf N id = some y.Parent := by
  unfold parOf
  rw [h, List.find?_append]
  have h1 : A.find? (fun n => decide (n.ID = id)) = none := List.find?_eq_none.2 (fun a hm => by have := ha a hm; simp; omega)
  rw [h1]
  simp [e]
theorem par_no {N : List Nd} {id : Int} (h : ∀ n ∈ N, n.ID ≠ id) : parOf N id = none := by
  unfold parOf
  have h1 : N.find? (fun n => decide (n.ID = id)) = none := List.find?_eq_none.2 (fun a hm => by have := h a hm; simpa using this)
  rw [h1]; rfl
/-- What a node depends on, as far as this goes. -/
def pathS (N : List Nd) : Nat → Int → List Int
  | 0, _ => []
  | k + 1, id => match parOf N id with
    | some p => if p = 0 then [] else p :: pathS N k p
    | none => []
structure Ok34 (N : List Nd) : Prop where
  ln : N.length ≤ 1000
  ra : ∀ n ∈ N, 1 ≤ n.ID ∧ n.ID ≤ 1048576
  so : N.Pairwise (fun a b => a.ID < b.ID)
  pa : ∀ n ∈ N, I64 n.Parent
theorem find34 {st : Fs} (h : Ok34 st.Nodes) {id : Int} (h64 : I64 id) : ∃ r, fold_State_find st id = some r ∧ Fd st.Nodes id r := by
  obtain ⟨r, h1, h2⟩ := bs_ok h.ln h.ra h.so h64
  exact ⟨r, find_st st id h1, h2⟩
theorem path_L {st : Fs} (h : Ok34 st.Nodes) : ∀ (k f i : Nat) (id : Int) (acc : List Int), I64 id → i + k = st.Nodes.length → k < f → acc.length = i → fold_State_path_h_L0 st f id acc (i : Int) = some (acc ++ pathS st.Nodes k id)
  | k, 0, _, _, _, _, _, hf, _ => absurd hf (by omega)
  | 0, f + 1, i, id, acc, h64, hi, hf, ha => by
    rw [fold_State_path_h_L0, bndD, decide_eq_false (by omega), bif_ff]
    unfold pathS; rw [List.append_nil]
  | k + 1, f + 1, i, id, acc, h64, hi, hf, ha => by
    have hln := h.ln
    obtain ⟨r, h1, h2⟩ := find34 h h64
    rw [fold_State_path_h_L0, bndD, decide_eq_true (by omega), bif_tt, h1, bnoS]
    unfold pathS
    cases h2 with
    | yes A y C hN he hA hC =>
      have hg : gix st.Nodes (A.length : Int) = some y := gix_at hN
      have hy : y ∈ st.Nodes := by rw [hN]; simp
      rw [par_yes hN he hA]
      simp only [Bool.not_true, beq_self_eq_true, gdtt, hg, bnoS, bndD, Bool.false_or]
      by_cases hp : y.Parent = 0
      · rw [decide_eq_true hp, bif_tt]
        simp only [hp, if_true, List.append_nil]
      · rw [decide_eq_false hp, bif_ff]
        simp only [if_neg hp]
        rw [app_ok (by simp; omega) (by simp; omega), bnoS, w64 (by omega) (by omega)]
        have := path_L h k f (i + 1) y.Parent (acc ++ [y.Parent]) (h.pa y hy) (by omega) (by omega) (by rw [List.length_append, List.length_singleton]; omega)
        rw [show ((i : Int) + 1) = ((i + 1 : Nat) : Int) by omega, this, List.append_assoc]
        rfl
    | no p hp hn _ =>
      rw [par_no hn]
      simp only [Bool.not_false, tf, gdff, bnoS, bndD, Bool.true_or, bif_tt, List.append_nil]
theorem path34 {st : Fs} (h : Ok34 st.Nodes) {id : Int} (h64 : I64 id) : fold_State_path_h st id = some (pathS st.Nodes st.Nodes.length id) := by
  have hln := h.ln
  have := path_L h st.Nodes.length fuel 0 id [] h64 (by omega) (fuel_gt (by omega)) rfl
  rw [List.nil_append] at this
  exact this
end Go.Fn
set_option linter.unusedSimpArgs false
set_option linter.unusedVariables false
open Go Go.IL
namespace Go.Fn
/-! Fold: states that may be. -/
theorem cmem {α : Type} {P : α → Option Bool} {q : α → Bool} {I : Nat → Int → Option Int} {l : List α} (hP : ∀ x ∈ l, P x = some (q x))
    (hI : ∀ f v, I (f + 1) v = bnd (decide (v < (l.length : Int))) fun x14 => bif x14 then (bno (gix l v) fun x16 => bno (P x16) fun x17 => bif x17 then some v else (bnd (IntKind.wrap .i64 (v + 1)) fun x19 => I f x19)) else some (-1))
    (hl : l.length ≤ 1000000) : (bno (I fuel 0) fun x1 => bnd (decide (0 ≤ x1)) fun x2 => some x2) = some (l.any q) := by
  obtain ⟨k, h1, h2⟩ := idxf_any (L := I) (q := q) hl (fun p x r f h => by
    rw [hI]; simp only [bndD, lt_at h, bif_tt, gix_at h, bnoS, hP x (by rw [h]; simp), w_at h hl]) (fun f => by rw [hI]; simp only [bndD, lt_len, bif_ff])
  rw [h1, bnoS, bndD, h2]
theorem cint {l : List Int} {x : Int} (hl : l.length ≤ 1000000) : slices_Contains_int_int l x = some (decide (x ∈ l)) := by
  unfold slices_Contains_int_int slices_Index_int_int
  have := cmem (P := fun y => some (decide (x = y))) (q := fun y => decide (x = y)) (I := slices_Index_int_int_L0 l x) (l := l) (fun _ _ => rfl) (fun f v => rfl) hl
  rw [this]
  congr 1
  rw [Bool.eq_iff_iff, List.any_eq_true]
  simp
/-- A list without doubles is no longer than one that has all of it. -/
theorem nodup_le : ∀ {l m : List Int}, l.Nodup → (∀ x ∈ l, x ∈ m) → l.length ≤ m.length
  | [], m, _, _ => Nat.zero_le _
  | x :: l, m, hn, hs => by
    obtain ⟨h1, h2⟩ := List.nodup_cons.1 hn
    have hx := hs x (by simp)
    have := nodup_le (l := l) (m := m.erase x) h2 (fun y hy => by
      have hne : y ≠ x := fun e => h1 (e ▸ hy)
      exact (List.mem_erase_of_ne hne).2 (hs y (by simp [hy])))
    rw [List.length_erase_of_mem hx] at this
    have hp : 0 < m.length := List.length_pos_of_mem hx
    simp only [List.length_cons]; omega
theorem ids_nodup {N : List Nd} (h : N.Pairwise (fun a b => a.ID < b.ID)) : (N.map (·.ID)).Nodup := by
  unfold List.Nodup
  rw [List.pairwise_map]
  exact h.imp (fun h => by omega)
structure FV (K : Int) (st : Fs) : Prop where
  rm : st.Room = 24
  kp : st.Keep = K ∧ 0 ≤ K ∧ K ≤ 24
  ln : st.Nodes.length ≤ 24
  el : (st.Ended.length : Int) ≤ K
  so : st.Nodes.Pairwise (fun a b => a.ID < b.ID)
  ra : ∀ n ∈ st.Nodes, (1 ≤ n.ID ∧ n.ID ≤ 1048576) ∧ 1 ≤ n.Weight ∧ n.Weight ≤ 256
  pa : ∀ n ∈ st.Nodes, n.Parent = 0 ∨ ∃ m ∈ st.Nodes, m.ID = n.Parent
  rk : ∃ r : Int → Nat, ∀ n ∈ st.Nodes, n.Parent ≠ 0 → r n.Parent < r n.ID
  en : ∀ n ∈ st.Nodes, (n.Closed = true ↔ n.ID ∈ st.Ended)
  nd : st.Ended.Nodup
  es : ∀ e ∈ st.Ended, ∃ n ∈ st.Nodes, n.ID = e
theorem FV.ok {K : Int} {st : Fs} (h : FV K st) : Ok34 st.Nodes :=
  ⟨by have := h.ln; omega, fun n hn => (h.ra n hn).1, h.so, fun n hn => by
    rcases h.pa n hn with e | ⟨m, hm, e⟩
    · rw [e]; exact ⟨by decide, by decide⟩
    · have := (h.ra m hm).1; exact ⟨by omega, by omega⟩⟩
theorem uniq34 {N : List Nd} (h : N.Pairwise (fun a b => a.ID < b.ID)) {a b : Nd} (ha : a ∈ N) (hb : b ∈ N) (e : a.ID = b.ID) : a = b := by
  obtain ⟨A, C, rfl⟩ := List.append_of_mem ha
  have hp := List.pairwise_append.1 h
  have hp2 := List.pairwise_cons.1 hp.2.1
  rcases List.mem_append.1 hb with hb | hb
  · have := hp.2.2 b hb a (by simp); omega
  · rcases List.mem_cons.1 hb with hb | hb
    · exact hb.symm
    · have := hp2.1 b hb; omega
theorem par_mem {N : List Nd} {id p : Int} (h : parOf N id = some p) : ∃ n ∈ N, n.ID = id ∧ n.Parent = p := by
  unfold parOf at h
  cases hf : N.find? (fun n => decide (n.ID = id)) with
  | none => rw [hf] at h; cases h
  | some n =>
    rw [hf] at h
    have h1 := List.find?_some hf
    exact ⟨n, List.mem_of_find?_eq_some hf, by simpa using h1, by simpa using h⟩
theorem par_of {N : List Nd} (h : N.Pairwise (fun a b => a.ID < b.ID)) {n : Nd} (hn : n ∈ N) : parOf N n.ID = some n.Parent := by
  obtain ⟨A, C, rfl⟩ := List.append_of_mem hn
  have hp := List.pairwise_append.1 h
  exact par_yes rfl rfl (fun a ha => hp.2.2 a ha n (by simp))
theorem path_rank {N : List Nd} {r : Int → Nat} (h : ∀ n ∈ N, n.Parent ≠ 0 → r n.Parent < r n.ID) : ∀ (k : Nat) (id x : Int), x ∈ pathS N k id → r x < r id
  | 0, _, _, hx => (List.not_mem_nil hx).elim
  | k + 1, id, x, hx => by
    unfold pathS at hx
    cases hp : parOf N id with
    | none => rw [hp] at hx; exact (List.not_mem_nil hx).elim
    | some p =>
      rw [hp] at hx
      obtain ⟨n, hn, e1, e2⟩ := par_mem hp
      by_cases hz : p = 0
      · simp only [hz, if_true] at hx; exact (List.not_mem_nil hx).elim
      · simp only [if_neg hz] at hx
        have h1 := h n hn (by rw [e2]; exact hz)
        rw [e1, e2] at h1
        rcases List.mem_cons.1 hx with rfl | hx
        · exact h1
        · have := path_rank h k p x hx; omega
theorem path_len (N : List Nd) : ∀ (k : Nat) (id : Int), (pathS N k id).length ≤ k
  | 0, _ => Nat.le_refl _
  | k + 1, id => by
    unfold pathS
    cases parOf N id with
    | none => exact Nat.zero_le _
    | some p =>
      have := path_len N k p
      simp only
      split
      · exact Nat.zero_le _
      · rw [List.length_cons]; omega
end Go.Fn
set_option linter.unusedSimpArgs false
set_option linter.unusedVariables false
open Go Go.IL
namespace Go.Fn
/-! Fold: who is removed. -/
theorem get_app {α : Type} {l p r : List α} {x : α} (h : l = p ++ x :: r) : l[((p.length : Nat) : Int).toNat]? = some x := by
  rw [Int.toNat_natCast, h, List.getElem?_append_right (Nat.le_refl _)]; simp
/-- The weights of those that depend on a node at once; how many they are. -/
def sumS : List Nd → Int → Int
  | [], _ => 0
  | n :: r, id => (if n.Parent = id then n.Weight else 0) + sumS r id
theorem sum_app : ∀ (a b : List Nd) (id : Int), sumS (a ++ b) id = sumS a id + sumS b id
  | [], b, id => by show sumS b id = 0 + sumS b id; omega
  | n :: a, b, id => by
    have := sum_app a b id
    show _ + sumS (a ++ b) id = _ + sumS a id + sumS b id
    omega
theorem sum_nn : ∀ {N : List Nd}, (∀ n ∈ N, 1 ≤ n.Weight ∧ n.Weight ≤ 256) → ∀ id, 0 ≤ sumS N id ∧ sumS N id ≤ 256 * N.length
  | [], _, _ => ⟨Int.le_refl _, Int.le_refl _⟩
  | n :: r, h, id => by
    have h1 := sum_nn (N := r) (fun x hx => h x (by simp [hx])) id
    have h2 := h n (by simp)
    have e : sumS (n :: r) id = (if n.Parent = id then n.Weight else 0) + sumS r id := rfl
    rw [e, List.length_cons]
    split <;> omega
theorem sum_L {st : Fs} (hl : st.Nodes.length ≤ 1000) (hw : ∀ n ∈ st.Nodes, 1 ≤ n.Weight ∧ n.Weight ≤ 256) (id : Int) : ∀ (r p : List Nd) (f : Nat), st.Nodes = p ++ r → r.length < f → fold_State_sum_L0 st id f (sumS p id) (p.length : Int) = some (sumS st.Nodes id)
  | [], p, f + 1, hN, _ => by
    rw [List.append_nil] at hN
    rw [fold_State_sum_L0]
    simp only [bndD, hN, lt_len, bif_ff]
  | n :: r, p, f + 1, hN, hf => by
    have hp := sum_nn (N := p) (fun x hx => hw x (by rw [hN]; simp [hx])) id
    have hpl : p.length ≤ 1000 := by rw [hN] at hl; simp at hl; omega
    have hn := hw n (by rw [hN]; simp)
    have hrec := sum_L hl hw id r (p ++ [n]) f (next_at hN) (by simpa using hf)
    have e1 : sumS [n] id = (if n.Parent = id then n.Weight else 0) + 0 := rfl
    rw [sum_app, e1] at hrec
    rw [fold_State_sum_L0]
    simp only [bndD, lt_at hN, bif_tt, gix_at hN, bnoS, w_at hN (show st.Nodes.length ≤ 1000000 by omega)]
    by_cases hq : n.Parent = id
    · rw [if_pos hq, Int.add_zero] at hrec
      rw [decide_eq_true hq, bif_tt, w64 (by omega) (by omega)]
      exact hrec
    · rw [if_neg hq, Int.add_zero, Int.add_zero] at hrec
      rw [decide_eq_false hq, bif_ff]
      exact hrec
theorem sum34 {st : Fs} (hl : st.Nodes.length ≤ 1000) (hw : ∀ n ∈ st.Nodes, 1 ≤ n.Weight ∧ n.Weight ≤ 256) (id : Int) : fold_State_sum st id = some (sumS st.Nodes id) :=
  sum_L hl hw id st.Nodes [] fuel rfl (fuel_gt (by omega))
end Go.Fn
set_option linter.unusedSimpArgs false
set_option linter.unusedVariables false
open Go Go.IL
namespace Go.Fn
/-! Fold: who hangs on whom; nobody on itself in the end. -/
/-- At or below a node. -/
inductive Anc (N : List Nd) (x : Int) : Int → Prop
  | here : Anc N x x
  | up (n : Nd) (hn : n ∈ N) (hx : n.ID ≠ x) (hp : n.Parent ≠ 0) (h : Anc N x n.Parent) : Anc N x n.ID
/-- Below a place, not by way of 'x'. -/
inductive Blw (N : List Nd) (x d : Int) : Int → Prop
  | child (n : Nd) (hn : n ∈ N) (hx : n.ID ≠ x) (hp : n.Parent = d) : Blw N x d n.ID
  | up (n : Nd) (hn : n ∈ N) (hx : n.ID ≠ x) (hp : n.Parent ≠ 0) (h : Blw N x d n.Parent) : Blw N x d n.ID
def Rk (N : List Nd) (x : Int) (r : Int → Nat) : Prop := ∀ n ∈ N, n.ID ≠ x → n.Parent ≠ 0 → r n.Parent < r n.ID
theorem path_more {N : List Nd} : ∀ (k : Nat) (z x : Int), x ∈ pathS N k z → x ∈ pathS N (k + 1) z
  | 0, _, _, hx => (List.not_mem_nil hx).elim
  | k + 1, z, x, hx => by
    unfold pathS at hx ⊢
    cases hp : parOf N z with
    | none => rw [hp] at hx; exact (List.not_mem_nil hx).elim
    | some p =>
      rw [hp] at hx
      by_cases hq : p = 0
      · simp only [hq, if_true] at hx; exact (List.not_mem_nil hx).elim
      · simp only [if_neg hq] at hx ⊢
        rcases List.mem_cons.1 hx with e | hx
        · rw [e]; exact List.mem_cons_self
        · exact List.mem_cons_of_mem _ (path_more k p x hx)
theorem path_stop {N : List Nd} : ∀ (k : Nat) (z : Int), (pathS N k z).length < k → pathS N (k + 1) z = pathS N k z
  | 0, _, h => absurd h (by omega)
  | k + 1, z, h => by
    rw [pathS] at h
    rw [pathS, pathS]
    cases hp : parOf N z with
    | none => rfl
    | some p =>
      rw [hp] at h
      by_cases hq : p = 0
      · simp only [hq, if_true]
      · simp only [if_neg hq, List.length_cons] at h ⊢
        rw [path_stop k p (by omega)]
/-- A path without a place twice is shorter than all there are. -/
theorem path_short {N : List Nd} (hs : N.Pairwise (fun a b => a.ID < b.ID)) {r : Int → Nat} (hr : ∀ n ∈ N, n.Parent ≠ 0 → r n.Parent < r n.ID) (hpa : ∀ n ∈ N, n.Parent = 0 ∨ ∃ m ∈ N, m.ID = n.Parent) : ∀ (k : Nat) (z : Int), (∃ n ∈ N, n.ID = z) → (z :: pathS N k z).Nodup ∧ ∀ y ∈ z :: pathS N k z, y ∈ N.map (·.ID)
  | 0, z, ⟨n, hn, e⟩ => ⟨by simp [pathS], fun y hy => by
    rcases List.mem_cons.1 hy with rfl | hy
    · exact List.mem_map.2 ⟨n, hn, e⟩
    · exact (List.not_mem_nil hy).elim⟩
  | k + 1, z, ⟨n, hn, e⟩ => by
    subst e
    have hz : n.ID ∈ N.map (·.ID) := List.mem_map.2 ⟨n, hn, rfl⟩
    have hnot : ¬ n.ID ∈ pathS N (k + 1) n.ID := fun hm => by have := path_rank hr (k + 1) _ _ hm; omega
    refine ⟨List.nodup_cons.2 ⟨hnot, ?_⟩, fun y hy => ?_⟩
    · rw [pathS, par_of hs hn]
      by_cases hq : n.Parent = 0
      · simp only [if_pos hq]; exact List.nodup_nil
      · simp only [if_neg hq]
        rcases hpa n hn with e | ⟨m, hm, e⟩
        · exact absurd e hq
        · exact (path_short hs hr hpa k n.Parent ⟨m, hm, e⟩).1
    · rcases List.mem_cons.1 hy with rfl | hy
      · exact hz
      · rw [pathS, par_of hs hn] at hy
        by_cases hq : n.Parent = 0
        · simp only [if_pos hq] at hy; exact (List.not_mem_nil hy).elim
        · simp only [if_neg hq] at hy
          rcases hpa n hn with e | ⟨m, hm, e⟩
          · exact absurd e hq
          · exact (path_short hs hr hpa k n.Parent ⟨m, hm, e⟩).2 y hy
theorem path_full {N : List Nd} (hs : N.Pairwise (fun a b => a.ID < b.ID)) {r : Int → Nat} (hr : ∀ n ∈ N, n.Parent ≠ 0 → r n.Parent < r n.ID) (hpa : ∀ n ∈ N, n.Parent = 0 ∨ ∃ m ∈ N, m.ID = n.Parent) {z : Int} (hz : ∃ n ∈ N, n.ID = z) : ∀ (j : Nat), pathS N (N.length + j) z = pathS N N.length z
  | 0 => rfl
  | j + 1 => by
    have h1 := path_full hs hr hpa hz j
    obtain ⟨h2, h3⟩ := path_short hs hr hpa N.length z hz
    have h4 := nodup_le h2 h3
    rw [List.length_cons, List.length_map] at h4
    have := path_stop (N := N) (N.length + j) z (by rw [h1]; omega)
    rw [show N.length + (j + 1) = N.length + j + 1 by omega, this, h1]
end Go.Fn
set_option linter.unusedSimpArgs false
set_option linter.unusedVariables false
open Go Go.IL
namespace Go.Fn
/-! Fold: hang. -/
/-- What may hang on another one. -/
structure HP (N : List Nd) (x : Int) (r : Int → Nat) : Prop where
  ok : Ok34 N
  xm : ∃ n ∈ N, n.ID = x
  ra : ∀ n ∈ N, 1 ≤ n.Weight ∧ n.Weight ≤ 256
  pa : ∀ n ∈ N, n.ID ≠ x → n.Parent = 0 ∨ ∃ m ∈ N, m.ID = n.Parent
  rk : Rk N x r
  xs : ((∀ n ∈ N, n.Parent ≠ 0 → r n.Parent < r n.ID) ∧ ∀ n ∈ N, n.Parent = 0 ∨ ∃ m ∈ N, m.ID = n.Parent) ∨ ∀ n ∈ N, n.ID ≠ x → n.Parent ≠ x
structure Hung (N : List Nd) (g : Nd → Nd) : Prop where
  id : ∀ n, (g n).ID = n.ID
  cl : ∀ n, (g n).Closed = n.Closed
  ra : ∀ n ∈ N, 1 ≤ (g n).Weight ∧ (g n).Weight ≤ 256
  pa : ∀ n ∈ N, (g n).Parent = 0 ∨ ∃ m ∈ N, m.ID = (g n).Parent
  rk : ∃ r : Int → Nat, ∀ m ∈ N.map g, m.Parent ≠ 0 → r m.Parent < r m.ID
end Go.Fn
set_option linter.unusedSimpArgs false
set_option linter.unusedVariables false
open Go Go.IL
namespace Go.Fn
/-! Fold: hang, whole. -/
end Go.Fn
set_option linter.unusedSimpArgs false
set_option linter.unusedVariables false
open Go Go.IL
namespace Go.Fn
/-! Fold: what is done leaves a state that may be. -/
/-- What a state keeps when its nodes change in their places. -/
structure BS (K : Int) (N : List Nd) (E : List Int) : Prop where
  kp : 0 ≤ K ∧ K ≤ 24
  ln : N.length ≤ 24
  el : (E.length : Int) ≤ K
  so : N.Pairwise (fun a b => a.ID < b.ID)
  ra : ∀ n ∈ N, 1 ≤ n.ID ∧ n.ID ≤ 1048576
  en : ∀ n ∈ N, (n.Closed = true ↔ n.ID ∈ E)
  nd : E.Nodup
  es : ∀ e ∈ E, ∃ n ∈ N, n.ID = e
theorem FV.bs {K : Int} {st : Fs} (h : FV K st) : BS K st.Nodes st.Ended := ⟨h.kp.2, h.ln, h.el, h.so, fun n hn => (h.ra n hn).1, h.en, h.nd, h.es⟩
end Go.Fn
set_option linter.unusedSimpArgs false
set_option linter.unusedVariables false
open Go Go.IL
namespace Go.Fn
/-! Fold: shut, Do. -/
end Go.Fn
set_option linter.unusedSimpArgs false
set_option linter.unusedVariables false
open Go Go.IL
namespace Go.Fn
/-! FoldWeights. -/
end Go.Fn
set_option linter.unusedSimpArgs false
set_option linter.unusedVariables false
open Go Go.IL
namespace Go.Fn
/-! FoldWeights: the law. -/
end Go.Fn
set_option linter.unusedSimpArgs false
set_option linter.unusedVariables false
open Go Go.IL
namespace Go.Fn
/-! Fold: what is done, however many closed nodes are kept. -/
end Go.Fn
set_option linter.unusedSimpArgs false
set_option linter.unusedVariables false
open Go Go.IL
namespace Go.Fn
/-! Fold: what is below. -/
/-- Below a place. -/
inductive Dsc (N : List Nd) (d : Int) : Int → Prop
  | child (n : Nd) (hn : n ∈ N) (hp : n.Parent = d) : Dsc N d n.ID
  | up (n : Nd) (hn : n ∈ N) (hp : n.Parent ≠ 0) (h : Dsc N d n.Parent) : Dsc N d n.ID
/-- A tree: as FV has it. -/
structure Tr (N : List Nd) (r : Int → Nat) : Prop where
  so : N.Pairwise (fun a b => a.ID < b.ID)
  id : ∀ n ∈ N, 1 ≤ n.ID
  pa : ∀ n ∈ N, n.Parent = 0 ∨ ∃ m ∈ N, m.ID = n.Parent
  rk : ∀ n ∈ N, n.Parent ≠ 0 → r n.Parent < r n.ID
theorem FV.tr {K : Int} {st : Fs} (h : FV K st) : ∃ r, Tr st.Nodes r := by
  obtain ⟨r, hr⟩ := h.rk
  exact ⟨r, h.so, fun n hn => (h.ra n hn).1.1, h.pa, hr⟩
section
variable {N : List Nd} {r : Int → Nat}
theorem path_tr (h : Tr N r) {n : Nd} (hn : n ∈ N) : pathS N N.length n.ID = if n.Parent = 0 then [] else n.Parent :: pathS N N.length n.Parent := by
  obtain ⟨k, hk⟩ : ∃ k, N.length = k + 1 := ⟨N.length - 1, by have := List.length_pos_of_mem hn; omega⟩
  by_cases hz : n.Parent = 0
  · rw [if_pos hz, hk, pathS, par_of h.so hn]
    simp only [if_pos hz]
  · rw [if_neg hz]
    have e1 : pathS N N.length n.ID = n.Parent :: pathS N k n.Parent := by
      rw [hk, pathS, par_of h.so hn]
      simp only [if_neg hz]
    obtain ⟨h1, h2⟩ := path_short h.so h.rk h.pa N.length n.ID ⟨n, hn, rfl⟩
    have h3 := nodup_le h1 h2
    rw [e1, List.length_cons, List.length_cons, List.length_map] at h3
    have h4 := path_stop (N := N) k n.Parent (by omega)
    rw [e1, hk, h4]
theorem dsc_inv (h : Tr N r) {d : Int} {n : Nd} (hn : n ∈ N) (hd : Dsc N d n.ID) : n.Parent = d ∨ (n.Parent ≠ 0 ∧ Dsc N d n.Parent) := by
  generalize hz : n.ID = z at hd
  cases hd with
  | child m hm hp =>
    have : m = n := uniq34 h.so hm hn hz.symm
    subst this; exact .inl hp
  | up m hm hp h2 =>
    have : m = n := uniq34 h.so hm hn hz.symm
    subst this; exact .inr ⟨hp, h2⟩
theorem dsc_node {d z : Int} (hd : Dsc N d z) : ∃ n ∈ N, n.ID = z := by
  cases hd with
  | child n hn _ => exact ⟨n, hn, rfl⟩
  | up n hn _ _ => exact ⟨n, hn, rfl⟩
theorem dsc_rank (h : Tr N r) {d z : Int} (h0 : d ≠ 0) (hd : Dsc N d z) : r d < r z := by
  induction hd with
  | child n hn hp => have := h.rk n hn (by rw [hp]; exact h0); rw [hp] at this; exact this
  | up n hn hp _ ih => have := h.rk n hn hp; omega
theorem dsc_path (h : Tr N r) {d z : Int} (h0 : d ≠ 0) (hd : Dsc N d z) : ∃ xs, pathS N N.length z = xs ++ d :: pathS N N.length d ∧ ∀ x ∈ xs, Dsc N d x := by
  induction hd with
  | child n hn hp => exact ⟨[], by rw [path_tr h hn, if_neg (by rw [hp]; exact h0), hp]; rfl, fun _ hx => (List.not_mem_nil hx).elim⟩
  | up n hn hp hh ih =>
    obtain ⟨xs, e, hx⟩ := ih
    refine ⟨n.Parent :: xs, by rw [path_tr h hn, if_neg hp, e]; rfl, fun x hx2 => ?_⟩
    rcases List.mem_cons.1 hx2 with e2 | hx2
    · rw [e2]; exact hh
    · exact hx x hx2
theorem sib_no (h : Tr N r) {c d : Nd} (hc : c ∈ N) (hd : d ∈ N) (hp : c.Parent = d.Parent) : ¬ Dsc N d.ID c.ID := fun hh => by
  have hdi := h.id d hd
  rcases dsc_inv h hc hh with e | ⟨e1, e2⟩
  · have := h.rk d hd (by rw [← hp, e]; omega)
    rw [← hp, e] at this; omega
  · have h1 := dsc_rank h (by omega) e2
    have h2 := h.rk d hd (by rw [← hp]; exact e1)
    rw [hp] at h1; omega
theorem sib_one (h : Tr N r) {c d : Nd} (hc : c ∈ N) (hd : d ∈ N) (hp : c.Parent = d.Parent) {z : Int} (h1 : z = c.ID ∨ Dsc N c.ID z) (h2 : z = d.ID ∨ Dsc N d.ID z) : c = d := by
  have key : ∀ z, Dsc N c.ID z → (z = d.ID ∨ Dsc N d.ID z) → c = d := fun z hz => by
    induction hz with
    | child n hn hp2 =>
      intro h2
      rcases h2 with e | h2
      · have : n = d := uniq34 h.so hn hd e
        subst this
        exact absurd (Dsc.child n hn hp2) (sib_no h hd hc hp.symm)
      · rcases dsc_inv h hn h2 with e | ⟨_, e2⟩
        · exact uniq34 h.so hc hd (hp2.symm.trans e)
        · rw [hp2] at e2
          exact absurd e2 (sib_no h hc hd hp)
    | up n hn hp2 hh ih =>
      intro h2
      rcases h2 with e | h2
      · have : n = d := uniq34 h.so hn hd e
        subst this
        exact absurd (Dsc.up n hn hp2 hh) (sib_no h hd hc hp.symm)
      · rcases dsc_inv h hn h2 with e | ⟨_, e2⟩
        · exact ih (.inl e)
        · exact ih (.inr e2)
  rcases h1 with e | h1
  · rcases h2 with e2 | h2
    · exact uniq34 h.so hc hd (e.symm.trans e2)
    · rw [e] at h2
      exact absurd h2 (sib_no h hc hd hp)
  · exact key z h1 h2
theorem dsc_root (h : Tr N r) : ∀ (k : Nat) {n : Nd}, n ∈ N → r n.ID ≤ k → Dsc N 0 n.ID
  | k, n, hn, hk => by
    by_cases hz : n.Parent = 0
    · exact .child n hn hz
    · obtain ⟨m, hm, e⟩ := (h.pa n hn).resolve_left hz
      have hr := h.rk n hn hz
      match k, hk with
      | 0, hk => omega
      | k + 1, hk =>
        have := dsc_root h k hm (by rw [e]; omega)
        rw [e] at this
        exact .up n hn hz this
end
/-- What is below a place, in the order in which it is found. -/
def belowS (N : List Nd) : Nat → Int → List Int
  | 0, _ => []
  | k + 1, id => N.flatMap fun n => if n.Parent = id then n.ID :: belowS N k n.ID else []
/-- Nobody is below by more than so many steps. -/
def Hb (N : List Nd) : Nat → Int → Prop
  | 0, id => ∀ n ∈ N, n.Parent ≠ id
  | k + 1, id => ∀ n ∈ N, n.Parent = id → Hb N k n.ID
theorem dsc_under {N : List Nd} {id z : Int} {n : Nd} (hn : n ∈ N) (h0 : n.ID ≠ 0) (hp : n.Parent = id) (hd : Dsc N n.ID z) : Dsc N id z := by
  induction hd with
  | child m hm hp2 => exact .up m hm (by rw [hp2]; exact h0) (by rw [hp2]; exact .child n hn hp)
  | up m hm hp2 _ ih => exact .up m hm hp2 ih
theorem bel_mem {N : List Nd} : ∀ (k : Nat) (id z : Int), (∀ n ∈ N, n.ID ≠ 0) → z ∈ belowS N k id → Dsc N id z
  | 0, _, _, _, h => (List.not_mem_nil h).elim
  | k + 1, id, z, h0, h => by
    unfold belowS at h
    obtain ⟨n, hn, hz⟩ := List.mem_flatMap.1 h
    by_cases hp : n.Parent = id
    · rw [if_pos hp] at hz
      rcases List.mem_cons.1 hz with e | hz
      · rw [e]; exact .child n hn hp
      · exact dsc_under hn (h0 n hn) hp (bel_mem k n.ID z h0 hz)
    · rw [if_neg hp] at hz; exact (List.not_mem_nil hz).elim
theorem bel_all {N : List Nd} {r : Int → Nat} (h : Tr N r) : ∀ (k : Nat) (id z : Int), Hb N k id → Dsc N id z → z ∈ belowS N k id := by
  intro k
  induction k with
  | zero =>
    intro id z hb hd
    exfalso
    induction hd with
    | child n hn hp => exact hb n hn hp
    | up n hn hp _ ih => exact ih
  | succ k ih =>
    intro id z hb hd
    have key : ∃ c ∈ N, c.Parent = id ∧ (z = c.ID ∨ Dsc N c.ID z) := by
      induction hd with
      | child n hn hp => exact ⟨n, hn, hp, .inl rfl⟩
      | up n hn hp _ ih2 =>
        obtain ⟨c, hc, hcp, e | e⟩ := ih2
        · exact ⟨c, hc, hcp, .inr (.child n hn e)⟩
        · exact ⟨c, hc, hcp, .inr (.up n hn hp e)⟩
    obtain ⟨c, hc, hcp, e⟩ := key
    unfold belowS
    refine List.mem_flatMap.2 ⟨c, hc, ?_⟩
    rw [if_pos hcp]
    rcases e with e | e
    · rw [e]; exact List.mem_cons_self
    · exact List.mem_cons_of_mem _ (ih c.ID z (hb c hc hcp) e)
theorem bel_nodup {N : List Nd} {r : Int → Nat} (h : Tr N r) : ∀ (k : Nat) (id : Int), (belowS N k id).Nodup := by
  have h0 : ∀ n ∈ N, n.ID ≠ 0 := fun n hn => by have := h.id n hn; omega
  intro k
  induction k with
  | zero => intro id; exact .nil
  | succ k ih =>
    intro id
    unfold belowS
    have main : ∀ l : List Nd, (∀ n ∈ l, n ∈ N) → l.Pairwise (fun a b => a.ID < b.ID) → (l.flatMap fun n => if n.Parent = id then n.ID :: belowS N k n.ID else []).Nodup := fun l => by
      induction l with
      | nil => intro _ _; exact .nil
      | cons n l ihl =>
        intro hl hs
        have hs2 := List.pairwise_cons.1 hs
        have hrest := ihl (fun m hm => hl m (by simp [hm])) hs2.2
        have hn := hl n (by simp)
        rw [List.flatMap_cons, List.nodup_append]
        refine ⟨?_, hrest, fun a ha b hb => ?_⟩
        · split
          · refine List.nodup_cons.2 ⟨fun hm => ?_, ih n.ID⟩
            have hd := bel_mem k n.ID n.ID h0 hm
            have := dsc_rank h (h0 n hn) hd; omega
          · exact .nil
        · rintro rfl
          by_cases hp : n.Parent = id
          · rw [if_pos hp] at ha
            obtain ⟨m, hm, hb⟩ := List.mem_flatMap.1 hb
            by_cases hmp : m.Parent = id
            · rw [if_pos hmp] at hb
              have e1 : a = n.ID ∨ Dsc N n.ID a := (List.mem_cons.1 ha).imp (fun e => e) (fun h2 => bel_mem k n.ID a h0 h2)
              have e2 : a = m.ID ∨ Dsc N m.ID a := (List.mem_cons.1 hb).imp (fun e => e) (fun h2 => bel_mem k m.ID a h0 h2)
              have := sib_one h hn (hl m (by simp [hm])) (hp.trans hmp.symm) e1 e2
              subst this
              have := hs2.1 n hm; omega
            · rw [if_neg hmp] at hb; exact List.not_mem_nil hb
          · rw [if_neg hp] at ha; exact List.not_mem_nil ha
    exact main N (fun _ hn => hn) h.so
/-- A bound of the steps below. -/
theorem hb_all {N : List Nd} {r : Int → Nat} (h : Tr N r) : ∀ (k : Nat) (n : Nd), n ∈ N → N.length ≤ k + (pathS N N.length n.ID).length + 1 → Hb N k n.ID := by
  intro k
  have hlt : ∀ n ∈ N, (pathS N N.length n.ID).length + 1 ≤ N.length := fun n hn => by
    obtain ⟨h1, h2⟩ := path_short h.so h.rk h.pa N.length n.ID ⟨n, hn, rfl⟩
    have h3 := nodup_le h1 h2
    rw [List.length_cons, List.length_map] at h3
    exact h3
  have hch : ∀ n ∈ N, ∀ c ∈ N, c.Parent = n.ID → (pathS N N.length c.ID).length = (pathS N N.length n.ID).length + 1 := fun n hn c hc hp => by
    have := h.id n hn
    rw [path_tr h hc, if_neg (by rw [hp]; omega), hp, List.length_cons]
  induction k with
  | zero =>
    intro n hn hk c hc hp
    have := hch n hn c hc hp
    have := hlt c hc
    omega
  | succ k ih =>
    intro n hn hk c hc hp
    have := hch n hn c hc hp
    exact ih c hc (by omega)
theorem hb_root {N : List Nd} {r : Int → Nat} (h : Tr N r) : Hb N (N.length + 1) 0 := fun c hc _ => hb_all h N.length c hc (by omega)
end Go.Fn
set_option linter.unusedSimpArgs false
set_option linter.unusedVariables false
open Go Go.IL
namespace Go.Fn
/-! Sorting ends, and makes up nothing. -/
def Tot {α : Type} (o : Option α) (Q : α → Prop) : Prop := ∃ r, o = some r ∧ Q r
def In (M : List Int) (n : Nat) (l : List Int) : Prop := l.length = n ∧ ∀ x ∈ l, x ∈ M
section
variable {α β : Type} {Q : α → Prop} {M : List Int} {n : Nat} {l : List Int}
theorem tot_s {r : α} (h : Q r) : Tot (some r) Q := ⟨r, rfl, h⟩
theorem tot_b {e : β} {f : β → Option α} (h : Tot (f e) Q) : Tot (bnd e f) Q := by rw [bndD]; exact h
theorem tot_gix {i : Int} {f : Int → Option α} (hl : In M n l) (h0 : 0 ≤ i) (h1 : i < n) (h : ∀ x, x ∈ M → Tot (f x) Q) : Tot (bno (gix l i) f) Q := by
  have hlt : i.toNat < l.length := by rw [hl.1]; omega
  rw [gix_get h0 hlt, bnoS]
  exact h _ (hl.2 _ (List.getElem_mem hlt))
theorem tot_get {i : Int} {f : Int → Option α} (hl : In M n l) (h0 : 0 ≤ i) (h1 : i < n) (h : ∀ x, x ∈ M → Tot (f x) Q) : Tot (bno (l[i.toNat]?) f) Q := by
  have hlt : i.toNat < l.length := by rw [hl.1]; omega
  rw [List.getElem?_eq_getElem hlt, bnoS]
  exact h _ (hl.2 _ (List.getElem_mem hlt))
theorem tot_set {i : Nat} {y : Int} {f : List Int → Option α} (hl : In M n l) (hy : y ∈ M) (h : ∀ w, In M n w → Tot (f w) Q) : Tot (bnd (l.set i y) f) Q := by
  rw [bndD]
  refine h _ ⟨by rw [List.length_set]; exact hl.1, fun x hx => ?_⟩
  rcases List.mem_or_eq_of_mem_set hx with hx | rfl
  · exact hl.2 x hx
  · exact hy
theorem less34 (a b : Int) : cmp_Less_int a b = some (decide (a < b)) := by
  unfold cmp_Less_int cmp_isNaN_int
  simp only [bndD, bnoS, decide_true, Bool.not_true, ft, gdff, Bool.not_false, Bool.and_true, Bool.false_and, Bool.false_or]
theorem tot_less {a b : Int} {f : Bool → Option α} (h1 : Tot (f true) Q) (h2 : Tot (f false) Q) : Tot (bno (cmp_Less_int a b) f) Q := by
  rw [less34, bnoS]
  cases decide (a < b)
  · exact h2
  · exact h1
theorem tot_dec {p : Prop} [Decidable p] {f : Bool → Option α} (h1 : p → Tot (f true) Q) (h2 : ¬ p → Tot (f false) Q) : Tot (bnd (decide p) f) Q := by
  rw [bndD]
  by_cases h : p
  · rw [decide_eq_true h]; exact h1 h
  · rw [decide_eq_false h]; exact h2 h
theorem tot_w {e : Int} {f : Int → Option α} (h0 : -9223372036854775808 ≤ e) (h1 : e ≤ 9223372036854775807) (h : Tot (f e) Q) : Tot (bnd (IntKind.wrap .i64 e) f) Q := by
  rw [bndD, w64 h0 h1]; exact h
theorem tot_gt {o : Option β} {d : β} {f : β → Option α} (h : Tot (bno o f) Q) : Tot (bno (gd (true == true) o d) f) Q := h
theorem tot_gf {o : Option β} {d : β} {f : β → Option α} (h : Tot (f d) Q) : Tot (bno (gd (false == true) o d) f) Q := by rw [ft, gdff, bnoS]; exact h
theorem tot_bt {o p : Option α} (h : Tot o Q) : Tot (bif true then o else p) Q := h
theorem tot_bf {o p : Option α} (h : Tot p Q) : Tot (bif false then o else p) Q := h
theorem tot_nt {o p : Option α} (h : Tot p Q) : Tot (bif (!true) then o else p) Q := h
theorem tot_nf {o p : Option α} (h : Tot o Q) : Tot (bif (!false) then o else p) Q := h
theorem tot_tt {f : Bool → Option α} (h : Tot (f true) Q) : Tot (bnd (true && true) f) Q := by rw [bndD]; exact h
theorem tot_tf {f : Bool → Option α} (h : Tot (f false) Q) : Tot (bnd (true && false) f) Q := by rw [bndD]; exact h
theorem tot_f {b : Bool} {f : Bool → Option α} (h : Tot (f false) Q) : Tot (bnd (false && b) f) Q := by rw [bndD]; exact h
theorem tot_tn {f : Bool → Option α} (h : Tot (f false) Q) : Tot (bnd (true && !true) f) Q := by rw [bndD]; exact h
theorem tot_tnf {f : Bool → Option α} (h : Tot (f true) Q) : Tot (bnd (true && !false) f) Q := by rw [bndD]; exact h
theorem tot_q {e c : Int} {f : Int → Option α} (h0 : 0 ≤ e) (h1 : e ≤ 1000) (hc : 0 < c) (h : Tot (f (e / c)) Q) : Tot (bno (quoI .i64 e c) f) Q := by
  have h2 : 0 ≤ e / c := Int.ediv_nonneg h0 (by omega)
  have h3 : e / c ≤ e := Int.ediv_le_self _ h0
  unfold quoI
  rw [if_neg (by omega), Int.tdiv_eq_ediv_of_nonneg h0, w64 (by omega) (by omega), bnoS]; exact h
theorem tot_o {o : Option β} {R : β → Prop} {f : β → Option α} (ho : Tot o R) (h : ∀ x, R x → Tot (f x) Q) : Tot (bno o f) Q := by
  obtain ⟨x, e, hx⟩ := ho
  rw [e, bnoS]; exact h x hx
theorem tot_chk {p : Prop} [Decidable p] {o : Option α} (hp : p) (h : Tot o Q) : Tot (chk p o) Q := by rw [chk_t hp]; exact h
end
section
variable {M : List Int} {n : Nat}
theorem order_t {Q : Int × Int × Int → Prop} {v : List Int} (hv : In M n v) {i j k : Int} (hi : 0 ≤ i ∧ i < n) (hj : 0 ≤ j ∧ j < n) (hk : 0 ≤ k ∧ k ≤ 100) (h1 : ∀ k', 0 ≤ k' → k' ≤ k + 1 → Q (i, j, k')) (h2 : ∀ k', 0 ≤ k' → k' ≤ k + 1 → Q (j, i, k')) : Tot (slices_order2Ordered_int_h v i j k) Q := by
  unfold slices_order2Ordered_int_h
  repeat' (first | (with_reducible refine tot_gix (by assumption) ?_ ?_ (fun _ _ => ?_); omega; omega) | (with_reducible refine tot_get (by assumption) ?_ ?_ (fun _ _ => ?_); omega; omega) | (with_reducible refine tot_w ?_ ?_ ?_; omega; omega) | (with_reducible refine tot_set (by assumption) (by assumption) (fun _ _ => ?_)) | (with_reducible refine tot_less ?_ ?_) | (with_reducible refine tot_gt ?_) | (with_reducible refine tot_gf ?_) | (with_reducible refine tot_bt ?_) | (with_reducible refine tot_bf ?_) | (with_reducible refine tot_nt ?_) | (with_reducible refine tot_nf ?_) | (with_reducible refine tot_tt ?_) | (with_reducible refine tot_tf ?_) | (with_reducible refine tot_tn ?_) | (with_reducible refine tot_tnf ?_) | (with_reducible refine tot_f ?_) | (with_reducible refine tot_dec (fun _ => ?_) (fun _ => ?_)) | (with_reducible refine tot_q ?_ ?_ ?_ ?_; omega; omega; decide) | (with_reducible refine tot_s ?_; assumption))
  · exact tot_s (h2 _ (by omega) (by omega))
  · exact tot_s (h1 _ (by omega) (by omega))
theorem med_t {v : List Int} (hv : In M n v) {P : Int → Prop} (hP : ∀ i, P i → 0 ≤ i ∧ i < n) {i j k c : Int} (hi : P i) (hj : P j) (hk : P k) (hc : 0 ≤ c ∧ c ≤ 50) : Tot (slices_medianOrdered_int_h v i j k c) (fun r => P r.1 ∧ 0 ≤ r.2 ∧ r.2 ≤ c + 3) := by
  unfold slices_medianOrdered_int_h
  refine tot_o (R := fun r => P r.1 ∧ P r.2.1 ∧ 0 ≤ r.2.2 ∧ r.2.2 ≤ c + 1) (order_t hv (hP _ hi) (hP _ hj) (by omega) (fun k' h1 h2 => ⟨hi, hj, h1, h2⟩) (fun k' h1 h2 => ⟨hj, hi, h1, h2⟩)) (fun x hx => ?_)
  refine tot_o (R := fun r => P r.1 ∧ P r.2.1 ∧ 0 ≤ r.2.2 ∧ r.2.2 ≤ c + 2) (order_t hv (hP _ hx.2.1) (hP _ hk) (by omega) (fun k' h1 h2 => ⟨hx.2.1, hk, h1, by show k' ≤ c + 2; omega⟩) (fun k' h1 h2 => ⟨hk, hx.2.1, h1, by show k' ≤ c + 2; omega⟩)) (fun y hy => ?_)
  refine tot_o (R := fun r => P r.1 ∧ P r.2.1 ∧ 0 ≤ r.2.2 ∧ r.2.2 ≤ c + 3) (order_t hv (hP _ hx.1) (hP _ hy.1) (by omega) (fun k' h1 h2 => ⟨hx.1, hy.1, h1, by show k' ≤ c + 3; omega⟩) (fun k' h1 h2 => ⟨hy.1, hx.1, h1, by show k' ≤ c + 3; omega⟩)) (fun z hz => ?_)
  exact tot_s ⟨hz.2.1, hz.2.2⟩
theorem piv_J {Q : Int × Int → Prop} {i c : Int} (h : ∀ h, Q (i, h)) : Tot (slices_choosePivotOrdered_int_J1 i c) Q := by
  unfold slices_choosePivotOrdered_int_J1
  repeat' (first | (with_reducible refine tot_gix (by assumption) ?_ ?_ (fun _ _ => ?_); omega; omega) | (with_reducible refine tot_get (by assumption) ?_ ?_ (fun _ _ => ?_); omega; omega) | (with_reducible refine tot_w ?_ ?_ ?_; omega; omega) | (with_reducible refine tot_set (by assumption) (by assumption) (fun _ _ => ?_)) | (with_reducible refine tot_less ?_ ?_) | (with_reducible refine tot_gt ?_) | (with_reducible refine tot_gf ?_) | (with_reducible refine tot_bt ?_) | (with_reducible refine tot_bf ?_) | (with_reducible refine tot_nt ?_) | (with_reducible refine tot_nf ?_) | (with_reducible refine tot_tt ?_) | (with_reducible refine tot_tf ?_) | (with_reducible refine tot_tn ?_) | (with_reducible refine tot_tnf ?_) | (with_reducible refine tot_f ?_) | (with_reducible refine tot_dec (fun _ => ?_) (fun _ => ?_)) | (with_reducible refine tot_q ?_ ?_ ?_ ?_; omega; omega; decide) | (with_reducible refine tot_s ?_; assumption))
  all_goals exact tot_s (h _)
theorem piv_t {a b : Int} {v : List Int} (hv : In M n v) (ha : 0 ≤ a) (hab : a < b) (hb : b ≤ n) (hs : b - a < 50) (hn : n ≤ 900) : Tot (slices_choosePivotOrdered_int v a b) (fun r => a ≤ r.1 ∧ r.1 < b) := by
  unfold slices_choosePivotOrdered_int
  repeat' (first | (with_reducible refine tot_gix (by assumption) ?_ ?_ (fun _ _ => ?_); omega; omega) | (with_reducible refine tot_get (by assumption) ?_ ?_ (fun _ _ => ?_); omega; omega) | (with_reducible refine tot_w ?_ ?_ ?_; omega; omega) | (with_reducible refine tot_set (by assumption) (by assumption) (fun _ _ => ?_)) | (with_reducible refine tot_less ?_ ?_) | (with_reducible refine tot_gt ?_) | (with_reducible refine tot_gf ?_) | (with_reducible refine tot_bt ?_) | (with_reducible refine tot_bf ?_) | (with_reducible refine tot_nt ?_) | (with_reducible refine tot_nf ?_) | (with_reducible refine tot_tt ?_) | (with_reducible refine tot_tf ?_) | (with_reducible refine tot_tn ?_) | (with_reducible refine tot_tnf ?_) | (with_reducible refine tot_f ?_) | (with_reducible refine tot_dec (fun _ => ?_) (fun _ => ?_)) | (with_reducible refine tot_q ?_ ?_ ?_ ?_; omega; omega; decide) | (with_reducible refine tot_s ?_; assumption))
  · omega
  · unfold slices_choosePivotOrdered_int_J2
    refine tot_o (med_t hv (P := fun i => a ≤ i ∧ i < b) (fun i h => by omega) (by constructor <;> omega) (by constructor <;> omega) (by constructor <;> omega) (by omega)) (fun x hx => ?_)
    exact piv_J (fun _ => hx.1)
  · exact piv_J (fun _ => by constructor <;> simp only <;> omega)
end
end Go.Fn
set_option linter.unusedSimpArgs false
set_option linter.unusedVariables false
open Go Go.IL
namespace Go.Fn
theorem len_all : ((List.range 25).all fun k => match math_bits_Len (k : Int) with | some r => decide (0 ≤ r ∧ r ≤ 5) | none => false) = true := by kernel_rfl
theorem np_all : ((List.range 25).all fun k => decide (k < 8) || match slices_nextPowerOfTwo (k : Int) with | some r => decide (r = 16 ∧ k ≤ 15 ∨ r = 32 ∧ 16 ≤ k) | none => false) = true := by kernel_rfl
theorem len_t {x : Int} (h0 : 0 ≤ x) (h1 : x ≤ 24) : Tot (math_bits_Len x) (fun r => 0 ≤ r ∧ r ≤ 5) := by
  have h := List.all_eq_true.1 len_all x.toNat (List.mem_range.2 (by omega))
  rw [show ((x.toNat : Nat) : Int) = x by omega] at h
  cases hm : math_bits_Len x with
  | none => rw [hm] at h; cases h
  | some r => rw [hm] at h; exact ⟨r, rfl, of_decide_eq_true h⟩
theorem np_t {x : Int} (h0 : 8 ≤ x) (h1 : x ≤ 24) : Tot (slices_nextPowerOfTwo x) (fun r => r = 16 ∧ x ≤ 15 ∨ r = 32 ∧ 16 ≤ x) := by
  have h := List.all_eq_true.1 np_all x.toNat (List.mem_range.2 (by omega))
  rw [show ((x.toNat : Nat) : Int) = x by omega, show decide (x.toNat < 8) = false from decide_eq_false (by omega), Bool.false_or] at h
  cases hm : slices_nextPowerOfTwo x with
  | none => rw [hm] at h; cases h
  | some r => rw [hm] at h; exact ⟨r, rfl, by have := of_decide_eq_true h; omega⟩
theorem and_t (a : Int) {m : Nat} (hm : m < 1000) : 0 ≤ andI .u64 a (m : Int) ∧ andI .u64 a (m : Int) ≤ m := by
  unfold andI
  have e : (BitVec.ofInt 64 (m : Int)).toNat = m := by
    rw [BitVec.toNat_ofInt]; omega
  have h : ((BitVec.ofInt 64 a) &&& (BitVec.ofInt 64 (m : Int))).toNat ≤ m := by
    rw [BitVec.toNat_and, e]; exact Nat.and_le_right
  have h2 : 0 ≤ IntKind.wrap .u64 (((BitVec.ofInt 64 a) &&& (BitVec.ofInt 64 (m : Int))).toNat : Int) ∧ IntKind.wrap .u64 (((BitVec.ofInt 64 a) &&& (BitVec.ofInt 64 (m : Int))).toNat : Int) ≤ m := by
    rw [wU64 (by omega) (by omega)]; omega
  exact h2
theorem xor_t (a : Int) : Tot (slices_xorshift_Next_h a) (fun _ => True) := ⟨_, rfl, trivial⟩
section
variable {M : List Int} {n : Nat}
end
section
variable {M : List Int} {n : Nat} {rec0 : Int → Int → Int → List Int → Option (List Int)} {kk : List Int → Int → Int → Int → Bool → Bool → Option (List Int)} {a b lim : Int} {c d : Bool}
end
section
variable {M : List Int} {n : Nat} {rec0 : Int → Int → Int → List Int → Option (List Int)}
end
end Go.Fn
set_option linter.unusedSimpArgs false
set_option linter.unusedVariables false
open Go Go.IL
namespace Go.Fn
/-! Fold: Depth, Meet, Below. -/
/-! What is below: the code. -/
def flatB (id : Int) (B : Int → List Int) (l : List Nd) : List Int := l.flatMap fun n => if n.Parent = id then n.ID :: B n.ID else []
theorem bel_L {st : Fs} (hl : st.Nodes.length ≤ 1000) {id : Int} {B : Int → List Int} {rec0 : Int → Fs → List Int → Option (List Int)} (hrec : ∀ n ∈ st.Nodes, n.Parent = id → ∀ acc, (acc ++ B n.ID).length ≤ 1000 → rec0 n.ID st acc = some (acc ++ B n.ID)) : ∀ (r p : List Nd) (acc : List Int) (f : Nat), st.Nodes = p ++ r → r.length < f → (acc ++ flatB id B r).length ≤ 1000 → fold_Below_1_h_v2_L0 rec0 id st f (p.length : Int) acc = some (acc ++ flatB id B r)
  | [], p, acc, f + 1, hN, _, _ => by
    rw [List.append_nil] at hN
    rw [fold_Below_1_h_v2_L0]
    simp only [bndD, hN, lt_len, bif_ff]
    rw [show flatB id B [] = [] from rfl, List.append_nil]
  | n :: r, p, acc, f + 1, hN, hf, ha => by
    have hn : n ∈ st.Nodes := by rw [hN]; simp
    have e : flatB id B (n :: r) = (if n.Parent = id then n.ID :: B n.ID else []) ++ flatB id B r := by unfold flatB; rw [List.flatMap_cons]
    rw [e] at ha ⊢
    rw [fold_Below_1_h_v2_L0]
    simp only [bndD, lt_at hN, bif_tt, gix_at hN, bnoS, w_at hN (show st.Nodes.length ≤ 1000000 by omega)]
    by_cases hp : n.Parent = id
    · rw [if_pos hp] at ha ⊢
      simp only [List.length_append, List.length_cons] at ha
      have hr := bel_L (B := B) hl hrec r (p ++ [n]) (acc ++ [n.ID] ++ B n.ID) f (next_at hN) (by simpa using hf) (by simp only [List.length_append, List.length_cons, List.length_nil]; omega)
      have h1 := hrec n hn hp (acc ++ [n.ID]) (by simp only [List.length_append, List.length_cons, List.length_nil]; omega)
      simp only [decide_eq_true hp, bif_tt, app_ok (b := 8) (l := acc) (m := [n.ID]) (by simp only [List.length_cons, List.length_nil]; omega) (by simp only [List.length_cons, List.length_nil]; omega), bnoS, h1]
      rw [hr]
      simp
    · rw [if_neg hp] at ha ⊢
      have hr := bel_L (B := B) hl hrec r (p ++ [n]) acc f (next_at hN) (by simpa using hf) (by simpa using ha)
      simp only [decide_eq_false hp, bif_ff]
      rw [hr]
      simp
theorem bel_rec {st : Fs} (hl : st.Nodes.length ≤ 1000) : ∀ (k nr : Nat) (id : Int) (acc : List Int), Hb st.Nodes k id → k < nr → (acc ++ belowS st.Nodes k id).length ≤ 1000 → fold_Below_1_h_v2 nr id st acc = some (acc ++ belowS st.Nodes k id)
  | _, 0, _, _, _, h, _ => absurd h (by omega)
  | 0, nr + 1, id, acc, hb, _, ha => by
    have hno : ∀ l : List Nd, (∀ n ∈ l, n.Parent ≠ id) → flatB id (fun _ => []) l = [] := fun l => by
      induction l with
      | nil => intro _; rfl
      | cons n l ih =>
        intro h
        show (if n.Parent = id then _ else []) ++ flatB id (fun _ => []) l = []
        rw [if_neg (h n (by simp)), ih (fun m hm => h m (by simp [hm]))]; rfl
    have hz := hno st.Nodes hb
    have := bel_L (B := fun _ => []) (rec0 := fold_Below_1_h_v2 nr) hl (fun n hn hp => absurd hp (hb n hn)) st.Nodes [] acc fuel rfl (fuel_gt (by omega)) (by rw [hz]; exact ha)
    rw [fold_Below_1_h_v2]
    unfold fold_Below_1_h_v2_B
    rw [hz] at this
    exact this
  | k + 1, nr + 1, id, acc, hb, hk, ha => by
    have := bel_L (B := belowS st.Nodes k) (rec0 := fold_Below_1_h_v2 nr) hl (fun n hn hp acc hacc => bel_rec hl k nr n.ID acc (hb n hn hp) (by omega) hacc) st.Nodes [] acc fuel rfl (fuel_gt (by omega)) ha
    rw [fold_Below_1_h_v2]
    unfold fold_Below_1_h_v2_B
    exact this
theorem bel_same (id : Int) (st : Fs) : ∀ (f : Nat) (i : Int) (acc : List Int), fold_Below_1_h_L0 id st f i acc = fold_Below_1_h_v2_L0 (fold_Below_1_h_v2 fuel) id st f i acc
  | 0, _, _ => by rw [fold_Below_1_h_L0, fold_Below_1_h_v2_L0]
  | f + 1, i, acc => by
    rw [fold_Below_1_h_L0, fold_Below_1_h_v2_L0]
    simp only [bel_same id st f]
theorem bel_top {st : Fs} (hl : st.Nodes.length ≤ 1000) {k : Nat} {id : Int} (hb : Hb st.Nodes (k + 1) id) (hk : k ≤ 10000) (ha : (belowS st.Nodes (k + 1) id).length ≤ 1000) : fold_Below_1_h id st = some (belowS st.Nodes (k + 1) id) := by
  unfold fold_Below_1_h
  rw [bel_same]
  have hf : k < fuel := fuel_gt (by omega)
  have := bel_L (B := belowS st.Nodes k) (rec0 := fold_Below_1_h_v2 fuel) hl (fun n hn hp acc hacc => bel_rec hl k fuel n.ID acc (hb n hn hp) hf hacc) st.Nodes [] [] fuel rfl (fuel_gt (by omega)) ha
  exact this
end Go.Fn
set_option linter.unusedSimpArgs false
set_option linter.unusedVariables false
open Go Go.IL
namespace Go.Fn
/-! The document's tree: where a node stands; lists. -/
abbrev T19 := T_sennitref19_Tree
/-- Where a node stands. -/
inductive Pl (N : List Nd) (id : Int) : Int → Prop
  | yes (A : List Nd) (y : Nd) (C : List Nd) (h : N = A ++ y :: C) (e : y.ID = id) (ha : ∀ a ∈ A, a.ID ≠ id) : Pl N id (A.length : Int)
  | no (h : ∀ n ∈ N, n.ID ≠ id) : Pl N id (-1)
theorem pl_L {t : T19} {id : Int} (hl : t.L.length ≤ 1000) : ∀ (r p : List Nd) (f : Nat), t.L = p ++ r → (∀ a ∈ p, a.ID ≠ id) → r.length < f → ∃ i, sennitref19_Tree_Place_L0 t id f (p.length : Int) = some i ∧ Pl t.L id i
  | [], p, f + 1, hN, ha, _ => by
    rw [List.append_nil] at hN
    rw [sennitref19_Tree_Place_L0]
    simp only [bndD, hN, lt_len, bif_ff]
    exact ⟨_, rfl, .no ha⟩
  | n :: r, p, f + 1, hN, ha, hf => by
    rw [sennitref19_Tree_Place_L0]
    simp only [bndD, lt_at hN, bif_tt, gix_at hN, bnoS, w_at hN (show t.L.length ≤ 1000000 by omega)]
    by_cases h : n.ID = id
    · rw [decide_eq_true h, bif_tt]
      exact ⟨_, rfl, .yes p n r hN h ha⟩
    · rw [decide_eq_false h, bif_ff]
      exact pl_L hl r (p ++ [n]) f (next_at hN) (fun a hm => by
        rcases List.mem_append.1 hm with hm | hm
        · exact ha a hm
        · rw [List.mem_singleton.1 hm]; exact h) (by simpa using hf)
theorem pl_any {t : T19} (hl : t.L.length ≤ 1000) (id : Int) : ∃ i, sennitref19_Tree_Place t id = some i ∧ Pl t.L id i :=
  pl_L hl t.L [] fuel rfl (fun _ h => (List.not_mem_nil h).elim) (fuel_gt (by omega))
theorem par_pl {N A C : List Nd} {y : Nd} {id : Int} (h : N = A ++ y :: C) (e : y.ID = id) (ha : ∀ a ∈ A, a.ID ≠ id) : parOf N id = some y.Parent := by
  unfold parOf
  rw [h, List.find?_append]
  have h1 : A.find? (fun n => decide (n.ID = id)) = none := List.find?_eq_none.2 (fun a hm => by simpa using ha a hm)
  rw [h1]
  simp [e]
theorem rpath_L {t : T19} (hl : t.L.length ≤ 1000) (h0 : ∀ n ∈ t.L, n.ID ≠ 0) : ∀ (k f turn : Nat) (id i : Int) (acc : List Int), Pl t.L id i → turn + k = t.L.length + 1 → k < f → acc.length ≤ turn → sennitref19_Tree_Path_L0 t f acc i (turn : Int) = some (acc ++ pathS t.L k id)
  | k, 0, _, _, _, _, _, _, hf, _ => absurd hf (by omega)
  | 0, f + 1, turn, id, i, acc, _, ht, _, _ => by
    rw [sennitref19_Tree_Path_L0]
    simp only [bndD, decide_eq_false (show ¬ (turn : Int) ≤ (t.L.length : Int) by omega), Bool.false_and, bif_ff]
    unfold pathS; rw [List.append_nil]
  | k + 1, f + 1, turn, id, i, acc, hp, ht, hf, ha => by
    rw [sennitref19_Tree_Path_L0]
    unfold pathS
    cases hp with
    | no h =>
      rw [par_no h]
      simp only [bndD, show decide (0 ≤ (-1 : Int)) = false from rfl, Bool.and_false, bif_ff, List.append_nil]
    | yes A y C hN e hA =>
      have hg : gix t.L (A.length : Int) = some y := gix_at hN
      obtain ⟨j, hj, hp2⟩ := pl_any hl y.Parent
      rw [par_pl hN e hA]
      simp only [bndD, decide_eq_true (show (turn : Int) ≤ (t.L.length : Int) by omega), decide_eq_true (show (0 : Int) ≤ (A.length : Int) by omega), Bool.and_self, bif_tt, hg, bnoS]
      have hw : IntKind.wrap .i64 ((turn : Int) + 1) = ((turn + 1 : Nat) : Int) := by rw [w64 (by omega) (by omega)]; omega
      by_cases hz : y.Parent = 0
      · have hr := rpath_L hl h0 k f (turn + 1) y.Parent j acc hp2 (by omega) (by omega) (by omega)
        have hnil : pathS t.L k y.Parent = [] := by
          cases k with
          | zero => rfl
          | succ k => unfold pathS; rw [par_no (fun n hn => by rw [hz]; exact h0 n hn)]
        rw [hnil] at hr
        rw [decide_eq_true hz]
        show sennitref19_Tree_Path_J1 t (turn : Int) (sennitref19_Tree_Path_L0 t f) y acc = _
        unfold sennitref19_Tree_Path_J1
        rw [hj, bnoS, bndD, hw, hr, if_pos hz]
      · have hr := rpath_L hl h0 k f (turn + 1) y.Parent j (acc ++ [y.Parent]) hp2 (by omega) (by omega) (by rw [List.length_append, List.length_singleton]; omega)
        rw [decide_eq_false hz]
        show bno (app 8 acc [y.Parent]) _ = _
        rw [app_ok (by rw [List.length_singleton]; omega) (by rw [List.length_singleton]; omega), bnoS]
        unfold sennitref19_Tree_Path_J1
        rw [hj, bnoS, bndD, hw, hr, if_neg hz, List.append_assoc]; rfl
theorem rpath {t : T19} (hl : t.L.length ≤ 1000) (h0 : ∀ n ∈ t.L, n.ID ≠ 0) (id : Int) : sennitref19_Tree_Path t id = some (pathS t.L (t.L.length + 1) id) := by
  obtain ⟨i, hi, hp⟩ := pl_any hl id
  have := rpath_L hl h0 (t.L.length + 1) fuel 0 id i [] hp (by omega) (fuel_gt (by omega)) (Nat.le_refl _)
  unfold sennitref19_Tree_Path
  rw [hi, bnoS]
  exact this
theorem in_L {l : List Int} {x : Int} (hl : l.length ≤ 1000000) : ∀ (r p : List Int) (f : Nat), l = p ++ r → r.length < f → sennitref19_In_L0 l x f (p.length : Int) = some (decide (x ∈ r))
  | [], p, f + 1, h, _ => by
    rw [List.append_nil] at h
    rw [sennitref19_In_L0]
    simp only [bndD, h, lt_len, bif_ff]
    simp
  | y :: r, p, f + 1, h, hf => by
    have hr := in_L (x := x) hl r (p ++ [y]) f (next_at h) (by simpa using hf)
    rw [sennitref19_In_L0]
    simp only [bndD, lt_at h, bif_tt, gix_at h, bnoS, w_at h hl]
    by_cases e : y = x
    · rw [decide_eq_true e, bif_tt, decide_eq_true (show x ∈ y :: r by rw [e]; simp)]
    · rw [decide_eq_false e, bif_ff, hr]
      have : x ∈ y :: r ↔ x ∈ r := by
        constructor
        · intro h; exact (List.mem_cons.1 h).resolve_left (fun e2 => e e2.symm)
        · intro h; exact List.mem_cons_of_mem _ h
      simp only [this]
theorem in19 {l : List Int} {x : Int} (hl : l.length ≤ 1000000) : sennitref19_In l x = some (decide (x ∈ l)) := in_L hl l [] fuel rfl (fuel_gt (by omega))
end Go.Fn
set_option linter.unusedSimpArgs false
set_option linter.unusedVariables false
open Go Go.IL
namespace Go.Fn
/-! Check, of any state: the program's and the document's. -/
def wrongB (n : Nd) : Bool := decide (n.ID < 1) || decide (1048576 < n.ID) || decide (n.Weight < 1) || decide (256 < n.Weight)
def lostB (N : List Nd) (n : Nd) : Bool := !decide (n.Parent = 0) && !(N.any fun m => decide (m.ID = n.Parent))
def roundB (N : List Nd) (k : Nat) (n : Nd) : Bool := decide (n.ID ∈ pathS N k n.ID)
def ordB (x : Nd) : List Nd → Bool
  | [] => true
  | n :: r => decide (x.ID < n.ID) && ordB n r
def closB (E : List Int) (n : Nd) : Bool := n.Closed == decide (n.ID ∈ E)
def endB (N : List Nd) (E : List Int) : Bool := N.all (closB E) && decide ((N.filter (·.Closed)).length = E.length)
def tailC (st : Fs) (k : Nat) : Int := bif st.Nodes.any (lostB st.Nodes) then 6 else bif st.Nodes.any (roundB st.Nodes k) then 4 else bif endB st.Nodes st.Ended then 0 else 9
def ordN : List Nd → Bool
  | [] => true
  | x :: r => ordB x r
def rangeB (st : Fs) : Bool := decide (st.Room < 1) || decide (24 < st.Room) || decide (st.Keep < 0) || decide (st.Room < st.Keep)
def checkV (st : Fs) (k : Nat) : Int := bif rangeB st || st.Nodes.any wrongB then 8 else bif decide (st.Room < (st.Nodes.length : Int)) || decide (st.Keep < (st.Ended.length : Int)) then 7 else bif ordN st.Nodes then tailC st k else 10
theorem ordB_c (x n : Nd) (r : List Nd) : ordB x (n :: r) = (decide (x.ID < n.ID) && ordB n r) := rfl
theorem natdec (a b : Nat) : decide ((a : Int) = (b : Int)) = decide (a = b) := by rw [Bool.eq_iff_iff]; simp; omega
theorem ord_pw : ∀ (r : List Nd) (x : Nd), ordB x r = true → (x :: r).Pairwise (fun a b => a.ID < b.ID)
  | [], x, _ => List.pairwise_singleton _ _
  | n :: r, x, h => by
    have h : (decide (x.ID < n.ID) && ordB n r) = true := h
    rw [Bool.and_eq_true, decide_eq_true_iff] at h
    have ih := ord_pw r n h.2
    refine List.pairwise_cons.2 ⟨fun m hm => ?_, ih⟩
    rcases List.mem_cons.1 hm with e | hm
    · rw [e]; exact h.1
    · have := (List.pairwise_cons.1 ih).1 m hm; omega
theorem ordN_pw {N : List Nd} (h : ordN N = true) : N.Pairwise (fun a b => a.ID < b.ID) := by
  cases N with
  | nil => exact .nil
  | cons x r => exact ord_pw r x h
theorem any_lost {N : List Nd} {p : Int} : (N.any fun m => decide (m.ID = p)) = true ↔ ∃ m ∈ N, m.ID = p := by
  rw [List.any_eq_true]; simp
section
variable {st : Fs}
/-! The program's. -/
theorem wrongC (hl : st.Nodes.length ≤ 1000) : slices_ContainsFunc_ptree_Node_ptree_Node_wrong st.Nodes = some (st.Nodes.any wrongB) := by
  unfold slices_ContainsFunc_ptree_Node_ptree_Node_wrong slices_IndexFunc_ptree_Node_ptree_Node_wrong
  exact cmem (P := fold_wrong) (q := wrongB) (I := slices_IndexFunc_ptree_Node_ptree_Node_wrong_L0 st.Nodes) (l := st.Nodes) (fun n hn => rfl) (fun f v => rfl) (by omega)
theorem lostC (h : Ok34 st.Nodes) : slices_ContainsFunc_ptree_Node_ptree_Node_lost st.Nodes st = some (st.Nodes.any (lostB st.Nodes)) := by
  have hln := h.ln
  unfold slices_ContainsFunc_ptree_Node_ptree_Node_lost slices_IndexFunc_ptree_Node_ptree_Node_lost
  refine cmem (P := fun y => fold_State_lost st y) (q := lostB st.Nodes) (I := slices_IndexFunc_ptree_Node_ptree_Node_lost_L0 st.Nodes st) (l := st.Nodes) (fun n hn => ?_) (fun f v => rfl) (by omega)
  obtain ⟨r, h1, h2⟩ := find34 h (id := n.Parent) (h.pa n hn)
  unfold fold_State_lost lostB
  rw [h1, bnoS, bndD, bndD]
  cases h2 with
  | yes A y C hN he hA hC => rw [any_lost.2 ⟨y, by rw [hN]; simp, he⟩]
  | no p hp hno _ =>
    have hf : (st.Nodes.any fun m => decide (m.ID = n.Parent)) = false := Bool.eq_false_iff.2 (fun hh => by obtain ⟨m, hm, e⟩ := any_lost.1 hh; exact hno m hm e)
    rw [hf]
theorem roundC (h : Ok34 st.Nodes) : slices_ContainsFunc_ptree_Node_ptree_Node_round st.Nodes st = some (st.Nodes.any (roundB st.Nodes st.Nodes.length)) := by
  have hln := h.ln
  unfold slices_ContainsFunc_ptree_Node_ptree_Node_round slices_IndexFunc_ptree_Node_ptree_Node_round
  refine cmem (P := fun y => fold_State_round st y) (q := roundB st.Nodes st.Nodes.length) (I := slices_IndexFunc_ptree_Node_ptree_Node_round_L0 st.Nodes st) (l := st.Nodes) (fun n hn => ?_) (fun f v => rfl) (by omega)
  have hp := path_len st.Nodes st.Nodes.length n.ID
  have hr := h.ra n hn
  unfold fold_State_round
  rw [path34 h ⟨by omega, by omega⟩, bnoS, cint (by omega), bnoS]; rfl
theorem endC (hl : st.Nodes.length ≤ 1000) (he : st.Ended.length ≤ 1000) : ∀ (r p : List Nd) (f : Nat), st.Nodes = p ++ r → r.length < f → fold_State_ended_L0 st f ((p.filter (·.Closed)).length : Int) (p.length : Int) = some (r.all (closB st.Ended) && decide ((st.Nodes.filter (·.Closed)).length = st.Ended.length))
  | [], p, f + 1, hN, _ => by
    rw [List.append_nil] at hN
    rw [fold_State_ended_L0]
    simp only [bndD, hN, lt_len, bif_ff, List.all_nil, Bool.true_and, natdec]
  | n :: r, p, f + 1, hN, hf => by
    have hpl : p.length ≤ 1000 := by rw [hN] at hl; simp at hl; omega
    have hfl := List.length_filter_le (·.Closed) p
    have hrec := endC hl he r (p ++ [n]) f (next_at hN) (by simpa using hf)
    have hcon := cint (l := st.Ended) (x := n.ID) (by omega)
    rw [List.filter_append] at hrec
    rw [fold_State_ended_L0]
    simp only [bndD, lt_at hN, bif_tt, gix_at hN, bnoS, List.all_cons]
    have hJ : ∀ v : Int, fold_State_ended_L0 st f v ((p ++ [n]).length : Int) = some (r.all (closB st.Ended) && decide ((st.Nodes.filter (·.Closed)).length = st.Ended.length)) → fold_State_ended_J1 st (p.length : Int) (fold_State_ended_L0 st f) n v = some ((closB st.Ended n && r.all (closB st.Ended)) && decide ((st.Nodes.filter (·.Closed)).length = st.Ended.length)) := fun v hv => by
      unfold fold_State_ended_J1
      rw [hcon, bnoS, bndD]
      show (bif !(closB st.Ended n) then _ else _) = _
      cases closB st.Ended n
      · rfl
      · simp only [Bool.not_true, bif_ff, bndD, w_at hN (show st.Nodes.length ≤ 1000000 by omega), Bool.true_and]
        exact hv
    cases hC : n.Closed
    · rw [show [n].filter (·.Closed) = [] by simp [hC], List.append_nil] at hrec
      simp only [bif_ff]
      exact hJ _ hrec
    · rw [show [n].filter (·.Closed) = [n] by simp [hC], List.length_append, List.length_singleton] at hrec
      simp only [bif_tt, w64 (show -9223372036854775808 ≤ ((p.filter (·.Closed)).length : Int) + 1 by omega) (by omega)]
      exact hJ _ hrec
theorem endedC (hl : st.Nodes.length ≤ 1000) (he : st.Ended.length ≤ 1000) : fold_State_ended st = some (endB st.Nodes st.Ended) :=
  endC hl he st.Nodes [] fuel rfl (fuel_gt (by omega))
theorem tailF (h : Ok34 st.Nodes) (he : st.Ended.length ≤ 1000) : (bno (slices_ContainsFunc_ptree_Node_ptree_Node_lost st.Nodes st) fun x40 =>
      bif x40 then (some 6) else (
        bno (slices_ContainsFunc_ptree_Node_ptree_Node_round st.Nodes st) fun x42 =>
        bif x42 then (some 4) else (
          bno (fold_State_ended st) fun x44 =>
          bif (!x44) then (some 9) else (some 0)))) = some (tailC st st.Nodes.length) := by
  rw [lostC h, bnoS, roundC h, endedC h.ln he]
  unfold tailC
  cases st.Nodes.any (lostB st.Nodes)
  · rw [bif_ff, bnoS]
    cases st.Nodes.any (roundB st.Nodes st.Nodes.length)
    · rw [bif_ff, bnoS]
      cases endB st.Nodes st.Ended <;> rfl
    · rfl
  · rfl
theorem ord_L (hl : st.Nodes.length ≤ 1000) (T : Int) (hT : ordN st.Nodes = true → (bno (slices_ContainsFunc_ptree_Node_ptree_Node_lost st.Nodes st) fun x40 =>
      bif x40 then (some 6) else (
        bno (slices_ContainsFunc_ptree_Node_ptree_Node_round st.Nodes st) fun x42 =>
        bif x42 then (some 4) else (
          bno (fold_State_ended st) fun x44 =>
          bif (!x44) then (some 9) else (some 0)))) = some T) : ∀ (r p : List Nd) (x : Nd) (f : Nat), st.Nodes = (p ++ [x]) ++ r → (ordB x r = true → ordN st.Nodes = true) → r.length < f → fold_Check_L0 st f ((p ++ [x]).length : Int) = some (bif ordB x r then T else 10)
  | [], p, x, f + 1, hN, ho, _ => by
    rw [List.append_nil] at hN
    rw [fold_Check_L0]
    rw [← hN]
    simp only [bndD, lt_len, bif_ff]
    exact hT (ho rfl)
  | n :: r, p, x, f + 1, hN, ho, hf => by
    have hpl : (p ++ [x]).length ≤ 1000 := by rw [hN] at hl; simp at hl ⊢; omega
    have e1 : ((p ++ [x]).length : Int) - 1 = (p.length : Int) := by rw [List.length_append, List.length_singleton]; omega
    have hg1 : gix st.Nodes (p.length : Int) = some x := gix_at (l := st.Nodes) (r := n :: r) (by rw [hN, List.append_assoc]; rfl)
    rw [fold_Check_L0]
    simp only [bndD, lt_at hN, bif_tt, e1, w64 (show -9223372036854775808 ≤ (p.length : Int) by omega) (by rw [List.length_append] at hpl; omega), hg1, gix_at hN, bnoS, w_at hN (show st.Nodes.length ≤ 1000000 by omega)]
    by_cases h : x.ID < n.ID
    · have hrec := ord_L hl T hT r (p ++ [x]) n f (by rw [hN]; simp) (fun h2 => ho (by rw [ordB_c, decide_eq_true h, h2]; rfl)) (by simpa using hf)
      rw [decide_eq_false (show ¬ n.ID ≤ x.ID by omega), bif_ff, hrec]
      rw [ordB_c, decide_eq_true h, Bool.true_and]
    · rw [decide_eq_true (show n.ID ≤ x.ID by omega), bif_tt]
      rw [ordB_c, decide_eq_false h]; rfl
theorem checkF (hl : st.Nodes.length ≤ 1000) (he : st.Ended.length ≤ 1000) (hp : ∀ n ∈ st.Nodes, I64 n.Parent) : fold_Check st = some (checkV st st.Nodes.length) := by
  have hL : st.Nodes.any wrongB = false → fold_Check_L0 st fuel 1 = some (bif ordN st.Nodes then tailC st st.Nodes.length else 10) := fun hw => by
    have hok : ordN st.Nodes = true → Ok34 st.Nodes := fun ho => ⟨hl, fun n hn => by
      have := List.any_eq_false.1 hw n hn
      unfold wrongB at this
      simp at this; omega, ordN_pw ho, hp⟩
    cases hN : st.Nodes with
    | nil =>
      obtain ⟨m, hm⟩ : ∃ m, fuel = m + 1 := ⟨2 ^ 64 - 1, by show 2 ^ 64 = _; omega⟩
      have ht := tailF (hok (by rw [hN]; rfl)) he
      rw [hN] at ht
      rw [hm, fold_Check_L0]
      rw [hN]
      simp only [bndD, List.length_nil, show decide ((1 : Int) < ((0 : Nat) : Int)) = false from rfl, bif_ff]
      exact ht
    | cons x r =>
      have := ord_L hl (tailC st st.Nodes.length) (fun ho => tailF (hok ho) he) r [] x fuel hN (fun h => by rw [hN]; exact h) (fuel_gt (by rw [hN] at hl; simp at hl; omega))
      rw [hN] at this
      exact this
  unfold fold_Check checkV
  simp only [bndD]
  show bno (gd ((rangeB st) == false) _ _) _ = _
  cases hr : rangeB st
  · show bno (slices_ContainsFunc_ptree_Node_ptree_Node_wrong st.Nodes) _ = _
    rw [wrongC hl, bnoS]
    show (bif (rangeB st || _) then _ else _) = _
    rw [hr, Bool.false_or]
    cases hw : st.Nodes.any wrongB
    · rw [bif_ff]
      cases hf : (decide (st.Room < (st.Nodes.length : Int)) || decide (st.Keep < (st.Ended.length : Int)))
      · rw [bif_ff, hL hw]; rfl
      · rfl
    · rfl
  · show bno (some (default : Bool)) _ = _
    rw [bnoS]
    show (bif (rangeB st || _) then _ else _) = _
    rw [hr]; rfl
/-! The document's. -/
theorem num_L (hl : st.Nodes.length ≤ 1000) : ∀ (r p : List Nd) (f : Nat), st.Nodes = p ++ r → r.length < f → sennitref34_numbers_L0 st f (p.length : Int) = some (!(r.any wrongB))
  | [], p, f + 1, hN, _ => by
    rw [List.append_nil] at hN
    rw [sennitref34_numbers_L0]
    simp only [bndD, hN, lt_len, bif_ff]; rfl
  | n :: r, p, f + 1, hN, hf => by
    have hrec := num_L hl r (p ++ [n]) f (next_at hN) (by simpa using hf)
    rw [sennitref34_numbers_L0]
    simp only [bndD, lt_at hN, bif_tt, gix_at hN, bnoS, w_at hN (show st.Nodes.length ≤ 1000000 by omega), List.any_cons]
    show (bif wrongB n then _ else _) = _
    cases wrongB n
    · rw [bif_ff, hrec, Bool.false_or]
    · rfl
theorem clos_L (hl : st.Nodes.length ≤ 1000) (he : st.Ended.length ≤ 1000) : ∀ (r p : List Nd) (f : Nat), st.Nodes = p ++ r → r.length < f → sennitref34_closed_L0 st f ((p.filter (·.Closed)).length : Int) (p.length : Int) = some (r.all (closB st.Ended) && decide ((st.Nodes.filter (·.Closed)).length = st.Ended.length))
  | [], p, f + 1, hN, _ => by
    rw [List.append_nil] at hN
    rw [sennitref34_closed_L0]
    simp only [bndD, hN, lt_len, bif_ff, List.all_nil, Bool.true_and, natdec]
  | n :: r, p, f + 1, hN, hf => by
    have hpl : p.length ≤ 1000 := by rw [hN] at hl; simp at hl; omega
    have hfl := List.length_filter_le (·.Closed) p
    have hrec := clos_L hl he r (p ++ [n]) f (next_at hN) (by simpa using hf)
    have hcon := in19 (l := st.Ended) (x := n.ID) (by omega)
    rw [List.filter_append] at hrec
    rw [sennitref34_closed_L0]
    simp only [bndD, lt_at hN, bif_tt, gix_at hN, bnoS, List.all_cons]
    have hJ : ∀ v : Int, sennitref34_closed_L0 st f v ((p ++ [n]).length : Int) = some (r.all (closB st.Ended) && decide ((st.Nodes.filter (·.Closed)).length = st.Ended.length)) → sennitref34_closed_J1 st (p.length : Int) (sennitref34_closed_L0 st f) v = some ((closB st.Ended n && r.all (closB st.Ended)) && decide ((st.Nodes.filter (·.Closed)).length = st.Ended.length)) := fun v hv => by
      unfold sennitref34_closed_J1
      rw [gix_at hN, bnoS, bnoS, hcon, bnoS, bndD]
      show (bif !(closB st.Ended n) then _ else _) = _
      cases closB st.Ended n
      · rfl
      · simp only [Bool.not_true, bif_ff, bndD, w_at hN (show st.Nodes.length ≤ 1000000 by omega), Bool.true_and]
        exact hv
    cases hC : n.Closed
    · rw [show [n].filter (·.Closed) = [] by simp [hC], List.append_nil] at hrec
      simp only [bif_ff]
      exact hJ _ hrec
    · rw [show [n].filter (·.Closed) = [n] by simp [hC], List.length_append, List.length_singleton] at hrec
      simp only [bif_tt, w64 (show -9223372036854775808 ≤ ((p.filter (·.Closed)).length : Int) + 1 by omega) (by omega)]
      exact hJ _ hrec
/-- The document's tree of a state. -/
def tre (st : Fs) : T19 := ⟨st.Room, st.Keep, st.Nodes, st.Ended⟩
theorem rnd_L (hl : st.Nodes.length ≤ 1000) (he : st.Ended.length ≤ 1000) (h0 : ∀ n ∈ st.Nodes, n.ID ≠ 0) : ∀ (r p : List Nd) (f : Nat), st.Nodes = p ++ r → r.length < f → sennitref34_Check_L2 st (tre st) f (p.length : Int) = some (bif r.any (roundB st.Nodes (st.Nodes.length + 1)) then 4 else bif endB st.Nodes st.Ended then 0 else 9)
  | [], p, f + 1, hN, _ => by
    have hc : sennitref34_closed st = some (endB st.Nodes st.Ended) := clos_L hl he st.Nodes [] fuel rfl (fuel_gt (by omega))
    rw [List.append_nil] at hN
    rw [sennitref34_Check_L2]
    rw [← hN]
    simp only [bndD, lt_len, bif_ff, hc, bnoS]
    cases endB st.Nodes st.Ended <;> rfl
  | n :: r, p, f + 1, hN, hf => by
    have hrec := rnd_L hl he h0 r (p ++ [n]) f (next_at hN) (by simpa using hf)
    have hlen := path_len st.Nodes (st.Nodes.length + 1) n.ID
    have hpa : sennitref19_Tree_Path (tre st) n.ID = some (pathS st.Nodes (st.Nodes.length + 1) n.ID) := rpath (t := tre st) hl h0 n.ID
    have hin := in19 (l := pathS st.Nodes (st.Nodes.length + 1) n.ID) (x := n.ID) (by omega)
    rw [sennitref34_Check_L2]
    simp only [bndD, lt_at hN, bif_tt, gix_at hN, bnoS, hpa, hin, w_at hN (show st.Nodes.length ≤ 1000000 by omega), List.any_cons]
    show (bif roundB st.Nodes (st.Nodes.length + 1) n then _ else _) = _
    cases roundB st.Nodes (st.Nodes.length + 1) n
    · rw [bif_ff, hrec, Bool.false_or]
    · rfl
theorem lst_L (hl : st.Nodes.length ≤ 1000) (he : st.Ended.length ≤ 1000) (h0 : ∀ n ∈ st.Nodes, n.ID ≠ 0) : ∀ (r p : List Nd) (f : Nat), st.Nodes = p ++ r → r.length < f → sennitref34_Check_L1 st (tre st) f (p.length : Int) = some (bif r.any (lostB st.Nodes) then 6 else bif st.Nodes.any (roundB st.Nodes (st.Nodes.length + 1)) then 4 else bif endB st.Nodes st.Ended then 0 else 9)
  | [], p, f + 1, hN, _ => by
    have hc := rnd_L hl he h0 st.Nodes [] fuel rfl (fuel_gt (by omega))
    rw [List.append_nil] at hN
    rw [sennitref34_Check_L1]
    rw [← hN]
    simp only [bndD, lt_len, bif_ff]
    exact hc
  | n :: r, p, f + 1, hN, hf => by
    have hrec := lst_L hl he h0 r (p ++ [n]) f (next_at hN) (by simpa using hf)
    obtain ⟨i, hi, hp⟩ := pl_any (t := tre st) hl n.Parent
    have hb : (!decide (n.Parent = 0) && decide (i < 0)) = lostB st.Nodes n := by
      unfold lostB
      congr 1
      cases hp with
      | yes A y C hA e _ =>
        have hA : st.Nodes = A ++ y :: C := hA
        rw [any_lost.2 ⟨y, by rw [hA]; simp, e⟩, decide_eq_false (by omega)]; rfl
      | no hno =>
        have hf : (st.Nodes.any fun m => decide (m.ID = n.Parent)) = false := Bool.eq_false_iff.2 (fun hh => by obtain ⟨m, hm, e⟩ := any_lost.1 hh; exact hno m hm e)
        rw [hf]; rfl
    rw [sennitref34_Check_L1]
    simp only [bndD, lt_at hN, bif_tt, gix_at hN, bnoS, w_at hN (show st.Nodes.length ≤ 1000000 by omega), List.any_cons]
    rw [← hb]
    cases hz : decide (n.Parent = 0)
    · simp only [Bool.not_false, beq_self_eq_true, gdtt, bnoS, hi, Bool.true_and]
      cases hi2 : decide (i < 0)
      · rw [bif_ff, hrec, Bool.false_or]
      · rfl
    · simp only [Bool.not_true, ft, gdff, bnoS, Bool.false_and, bif_ff, Bool.false_or]
      by_cases hpl : (!decide ((default : Nd).Parent = 0)) = true <;> exact hrec
theorem rord_L (hl : st.Nodes.length ≤ 1000) (he : st.Ended.length ≤ 1000) (h0 : ∀ n ∈ st.Nodes, n.ID ≠ 0) : ∀ (r p : List Nd) (x : Nd) (f : Nat), st.Nodes = (p ++ [x]) ++ r → r.length < f → sennitref34_Check_L0 st (tre st) f ((p ++ [x]).length : Int) = some (bif ordB x r then tailC st (st.Nodes.length + 1) else 10)
  | [], p, x, f + 1, hN, _ => by
    have hc := lst_L hl he h0 st.Nodes [] fuel rfl (fuel_gt (by omega))
    rw [List.append_nil] at hN
    rw [sennitref34_Check_L0]
    rw [← hN]
    simp only [bndD, lt_len, bif_ff]
    exact hc
  | n :: r, p, x, f + 1, hN, hf => by
    have hpl : (p ++ [x]).length ≤ 1000 := by rw [hN] at hl; simp at hl ⊢; omega
    have e1 : ((p ++ [x]).length : Int) - 1 = (p.length : Int) := by rw [List.length_append, List.length_singleton]; omega
    have hg1 : gix st.Nodes (p.length : Int) = some x := gix_at (l := st.Nodes) (r := n :: r) (by rw [hN, List.append_assoc]; rfl)
    rw [sennitref34_Check_L0]
    simp only [bndD, lt_at hN, bif_tt, e1, w64 (show -9223372036854775808 ≤ (p.length : Int) by omega) (by rw [List.length_append] at hpl; omega), hg1, gix_at hN, bnoS, w_at hN (show st.Nodes.length ≤ 1000000 by omega)]
    by_cases h : x.ID < n.ID
    · have hrec := rord_L hl he h0 r (p ++ [x]) n f (by rw [hN]; simp) (by simpa using hf)
      rw [decide_eq_false (show ¬ n.ID ≤ x.ID by omega), bif_ff, hrec]
      rw [ordB_c, decide_eq_true h, Bool.true_and]
    · rw [decide_eq_true (show n.ID ≤ x.ID by omega), bif_tt]
      rw [ordB_c, decide_eq_false h]; rfl
theorem checkR (hl : st.Nodes.length ≤ 1000) (he : st.Ended.length ≤ 1000) : sennitref34_Check st = some (checkV st (st.Nodes.length + 1)) := by
  have hL : st.Nodes.any wrongB = false → sennitref34_Check_L0 st (tre st) fuel 1 = some (bif ordN st.Nodes then tailC st (st.Nodes.length + 1) else 10) := fun hw => by
    have h0 : ∀ n ∈ st.Nodes, n.ID ≠ 0 := fun n hn => by
      have := List.any_eq_false.1 hw n hn
      unfold wrongB at this
      simp at this; omega
    cases hN : st.Nodes with
    | nil =>
      obtain ⟨m, hm⟩ : ∃ m, fuel = m + 1 := ⟨2 ^ 64 - 1, by show 2 ^ 64 = _; omega⟩
      have ht := lst_L hl he h0 st.Nodes [] fuel rfl (fuel_gt (by omega))
      rw [hN] at ht
      rw [hm, sennitref34_Check_L0]
      rw [hN]
      simp only [bndD, List.length_nil, show decide ((1 : Int) < ((0 : Nat) : Int)) = false from rfl, bif_ff]
      unfold tailC
      rw [hN]
      exact ht
    | cons x r =>
      have := rord_L hl he h0 r [] x fuel hN (fuel_gt (by rw [hN] at hl; simp at hl; omega))
      rw [hN] at this
      exact this
  have hnum : sennitref34_numbers st = some (!(rangeB st || st.Nodes.any wrongB)) := by
    unfold sennitref34_numbers
    simp only [bndD]
    show (bif rangeB st then _ else _) = _
    cases rangeB st
    · exact num_L hl st.Nodes [] fuel rfl (fuel_gt (by omega))
    · rfl
  unfold sennitref34_Check checkV
  show bno (some (tre st)) _ = _
  rw [bnoS, hnum, bnoS, Bool.not_not]
  cases hw : (rangeB st || st.Nodes.any wrongB)
  · rw [bif_ff, bndD, bndD, bndD]
    cases hf : (decide (st.Room < (st.Nodes.length : Int)) || decide (st.Keep < (st.Ended.length : Int)))
    · rw [bif_ff, hL (by rw [Bool.or_eq_false_iff] at hw; exact hw.2)]; rfl
    · rfl
  · rfl
end
end Go.Fn
set_option linter.unusedSimpArgs false
set_option linter.unusedVariables false
open Go Go.IL
namespace Go.Fn
/-! A state that passes may be; both look at the same. -/
section
variable {N : List Nd}
theorem path_in (hpa : ∀ n ∈ N, n.Parent = 0 ∨ ∃ m ∈ N, m.ID = n.Parent) : ∀ (k : Nat) (z x : Int), x ∈ pathS N k z → ∃ m ∈ N, m.ID = x
  | 0, _, _, h => (List.not_mem_nil h).elim
  | k + 1, z, x, h => by
    unfold pathS at h
    cases hp : parOf N z with
    | none => rw [hp] at h; exact (List.not_mem_nil h).elim
    | some p =>
      rw [hp] at h
      obtain ⟨n, hn, e1, e2⟩ := par_mem hp
      by_cases hz : p = 0
      · simp only [hz, if_true] at h; exact (List.not_mem_nil h).elim
      · simp only [if_neg hz] at h
        rcases List.mem_cons.1 h with e | h
        · rw [e, ← e2]; exact (hpa n hn).resolve_left (by rw [e2]; exact hz)
        · exact path_in hpa k p x h
theorem own_path (hs : N.Pairwise (fun a b => a.ID < b.ID)) (hpa : ∀ n ∈ N, n.Parent = 0 ∨ ∃ m ∈ N, m.ID = n.Parent) : ∀ (k : Nat) {z : Int}, (∃ n ∈ N, n.ID = z) → ¬ (z :: pathS N k z).Nodup → ∃ n ∈ N, n.ID ∈ pathS N k n.ID
  | 0, z, _, h => absurd (List.nodup_cons.2 ⟨List.not_mem_nil, .nil⟩) h
  | k + 1, z, hz, h => by
    obtain ⟨n, hn, rfl⟩ := hz
    have e : pathS N (k + 1) n.ID = if n.Parent = 0 then [] else n.Parent :: pathS N k n.Parent := by
      rw [pathS, par_of hs hn]
    by_cases hp : n.Parent = 0
    · rw [e, if_pos hp] at h
      exact absurd (List.nodup_cons.2 ⟨List.not_mem_nil, .nil⟩) h
    · rw [if_neg hp] at e
      by_cases hm : n.ID ∈ pathS N (k + 1) n.ID
      · exact ⟨n, hn, hm⟩
      · rw [List.nodup_cons] at h
        have h2 : ¬ (n.Parent :: pathS N k n.Parent).Nodup := fun hh => h ⟨hm, by rw [e]; exact hh⟩
        obtain ⟨m, hm1, hm2⟩ := own_path hs hpa k ((hpa n hn).resolve_left hp) h2
        exact ⟨m, hm1, path_more k _ _ hm2⟩
theorem rank_of (hs : N.Pairwise (fun a b => a.ID < b.ID)) (hpa : ∀ n ∈ N, n.Parent = 0 ∨ ∃ m ∈ N, m.ID = n.Parent) (hr : ∀ n ∈ N, n.ID ∉ pathS N N.length n.ID) : ∃ r : Int → Nat, ∀ n ∈ N, n.Parent ≠ 0 → r n.Parent < r n.ID := by
  refine ⟨fun z => (pathS N N.length z).length, fun n hn hp => ?_⟩
  have hnd : (n.ID :: pathS N N.length n.ID).Nodup := Classical.byContradiction fun hh => by
    obtain ⟨m, h1, h2⟩ := own_path hs hpa N.length ⟨n, hn, rfl⟩ hh
    exact hr m h1 h2
  have hle := nodup_le hnd (m := N.map (·.ID)) (fun x hx => by
    rcases List.mem_cons.1 hx with e | hx
    · exact List.mem_map.2 ⟨n, hn, e.symm⟩
    · obtain ⟨m, hm, e⟩ := path_in hpa _ _ _ hx
      exact List.mem_map.2 ⟨m, hm, e⟩)
  rw [List.length_cons, List.length_map] at hle
  have h1 := path_stop (N := N) N.length n.ID (by omega)
  have h2 : pathS N (N.length + 1) n.ID = n.Parent :: pathS N N.length n.Parent := by
    rw [pathS, par_of hs hn]
    exact if_neg hp
  have h3 : (pathS N N.length n.ID).length = (pathS N N.length n.Parent).length + 1 := by rw [← h1, h2]; rfl
  show (pathS N N.length n.Parent).length < (pathS N N.length n.ID).length
  omega
theorem round_eq (hs : N.Pairwise (fun a b => a.ID < b.ID)) (hpa : ∀ n ∈ N, n.Parent = 0 ∨ ∃ m ∈ N, m.ID = n.Parent) : N.any (roundB N N.length) = N.any (roundB N (N.length + 1)) := by
  cases h : N.any (roundB N N.length)
  · have hr : ∀ n ∈ N, n.ID ∉ pathS N N.length n.ID := fun n hn hm => by
      have := List.any_eq_false.1 h n hn
      unfold roundB at this
      simp only [decide_eq_true_iff] at this
      exact this hm
    obtain ⟨r, hrk⟩ := rank_of hs hpa hr
    symm
    rw [List.any_eq_false]
    intro n hn
    unfold roundB
    rw [path_full hs hrk hpa ⟨n, hn, rfl⟩ 1]
    simp only [decide_eq_true_iff]
    exact hr n hn
  · symm
    obtain ⟨n, hn, e⟩ := List.any_eq_true.1 h
    unfold roundB at e
    exact List.any_eq_true.2 ⟨n, hn, by unfold roundB; exact decide_eq_true (path_more _ _ _ (of_decide_eq_true e))⟩
theorem lost_pa (h : N.any (lostB N) = false) : ∀ n ∈ N, n.Parent = 0 ∨ ∃ m ∈ N, m.ID = n.Parent := fun n hn => by
  have := List.any_eq_false.1 h n hn
  unfold lostB at this
  by_cases hz : n.Parent = 0
  · exact .inl hz
  · right
    rw [decide_eq_false hz, Bool.not_false, Bool.true_and] at this
    cases hh : N.any fun m => decide (m.ID = n.Parent)
    · rw [hh] at this; exact absurd rfl this
    · exact any_lost.1 hh
theorem sub_all : ∀ {l m : List Int}, l.Nodup → (∀ x ∈ l, x ∈ m) → m.length ≤ l.length → m.Nodup ∧ ∀ x ∈ m, x ∈ l
  | [], m, _, _, h => by
    have : m = [] := List.length_eq_zero_iff.1 (Nat.le_zero.1 h)
    subst this; exact ⟨.nil, fun _ h => h⟩
  | x :: l, m, hn, hs, h => by
    obtain ⟨h1, h2⟩ := List.nodup_cons.1 hn
    have hx := hs x (by simp)
    have hle := List.length_erase_of_mem hx
    have hp : 0 < m.length := List.length_pos_of_mem hx
    rw [List.length_cons] at h
    obtain ⟨h3, h4⟩ := sub_all (l := l) (m := m.erase x) h2 (fun y hy => by
      have hne : y ≠ x := fun e => h1 (e ▸ hy)
      exact (List.mem_erase_of_ne hne).2 (hs y (by simp [hy]))) (by omega)
    have hperm := List.perm_cons_erase hx
    refine ⟨hperm.nodup_iff.2 (List.nodup_cons.2 ⟨fun hh => h1 (h4 x hh), h3⟩), fun y hy => ?_⟩
    rcases List.mem_cons.1 (hperm.mem_iff.1 hy) with e | hy
    · rw [e]; simp
    · exact List.mem_cons_of_mem _ (h4 y hy)
end
/-- A state that may be. -/
structure GV (st : Fs) : Prop where
  rm : 1 ≤ st.Room ∧ st.Room ≤ 24
  kp : 0 ≤ st.Keep ∧ st.Keep ≤ st.Room
  ln : (st.Nodes.length : Int) ≤ st.Room
  el : (st.Ended.length : Int) ≤ st.Keep
  fv : FV 24 ⟨24, 24, st.Nodes, st.Ended⟩
theorem checkV_eq (st : Fs) : checkV st (st.Nodes.length + 1) = checkV st st.Nodes.length := by
  unfold checkV
  cases h1 : (rangeB st || st.Nodes.any wrongB)
  · cases h2 : (decide (st.Room < (st.Nodes.length : Int)) || decide (st.Keep < (st.Ended.length : Int)))
    · cases h3 : ordN st.Nodes
      · rfl
      · show tailC st (st.Nodes.length + 1) = tailC st st.Nodes.length
        unfold tailC
        cases h4 : st.Nodes.any (lostB st.Nodes)
        · rw [round_eq (ordN_pw h3) (lost_pa h4)]
        · rfl
    · rfl
  · rfl
theorem check_gv {st : Fs} (h : checkV st st.Nodes.length = 0) : GV st := by
  unfold checkV at h
  cases h1 : (rangeB st || st.Nodes.any wrongB)
  · rw [h1] at h
    cases h2 : (decide (st.Room < (st.Nodes.length : Int)) || decide (st.Keep < (st.Ended.length : Int)))
    · rw [h2] at h
      cases h3 : ordN st.Nodes
      · rw [h3] at h; cases h
      · rw [h3] at h
        have h : tailC st st.Nodes.length = 0 := h
        unfold tailC at h
        cases h4 : st.Nodes.any (lostB st.Nodes)
        · rw [h4] at h
          cases h5 : st.Nodes.any (roundB st.Nodes st.Nodes.length)
          · rw [h5] at h
            cases h6 : endB st.Nodes st.Ended
            · rw [h6] at h; cases h
            · rw [Bool.or_eq_false_iff] at h1 h2
              have hs := ordN_pw h3
              have hpa := lost_pa h4
              have hra : ∀ n ∈ st.Nodes, (1 ≤ n.ID ∧ n.ID ≤ 1048576) ∧ 1 ≤ n.Weight ∧ n.Weight ≤ 256 := fun n hn => by
                have := List.any_eq_false.1 h1.2 n hn
                unfold wrongB at this
                simp at this; omega
              have hrk := rank_of hs hpa (fun n hn hm => by
                have := List.any_eq_false.1 h5 n hn
                unfold roundB at this
                simp only [decide_eq_true_iff] at this
                exact this hm)
              have hrg := h1.1
              unfold rangeB at hrg
              simp only [Bool.or_eq_false_iff, decide_eq_false_iff_not] at hrg h2
              unfold endB at h6
              rw [Bool.and_eq_true, decide_eq_true_iff] at h6
              have hen : ∀ n ∈ st.Nodes, (n.Closed = true ↔ n.ID ∈ st.Ended) := fun n hn => by
                have := List.all_eq_true.1 h6.1 n hn
                unfold closB at this
                rw [beq_iff_eq] at this
                rw [this, decide_eq_true_iff]
              have hnd : ((st.Nodes.filter (·.Closed)).map (·.ID)).Nodup := ids_nodup (List.Pairwise.sublist List.filter_sublist hs)
              obtain ⟨g1, g2⟩ := sub_all hnd (m := st.Ended) (fun x hx => by
                obtain ⟨n, hn, rfl⟩ := List.mem_map.1 hx
                obtain ⟨hn, hc⟩ := List.mem_filter.1 hn
                exact (hen n hn).1 hc) (by rw [List.length_map]; exact Nat.le_of_eq h6.2.symm)
              refine ⟨by omega, by omega, by omega, by omega, ⟨rfl, ⟨rfl, by decide, by decide⟩, by show st.Nodes.length ≤ 24; omega, by show (st.Ended.length : Int) ≤ 24; omega, hs, hra, hpa, hrk, hen, g1, fun e he => ?_⟩⟩
              obtain ⟨n, hn, e2⟩ := List.mem_map.1 (g2 e he)
              exact ⟨n, (List.mem_filter.1 hn).1, e2⟩
          · rw [h5] at h; cases h
        · rw [h4] at h; cases h
    · rw [h2] at h; cases h
  · rw [h1] at h; cases h
end Go.Fn
set_option linter.unusedSimpArgs false
set_option linter.unusedVariables false
open Go Go.IL
namespace Go.Fn
/-! The document's removal is the program's. -/
section
variable {N : List Nd} {R K : Int} {E : List Int}
end
def wS : List Nd → Int
  | [] => 0
  | n :: r => n.Weight + wS r
theorem wS_app : ∀ a b : List Nd, wS (a ++ b) = wS a + wS b
  | [], b => by show wS b = 0 + wS b; omega
  | n :: a, b => by
    have := wS_app a b
    show n.Weight + wS (a ++ b) = n.Weight + wS a + wS b
    omega
theorem wS_kids (id : Int) : ∀ N : List Nd, wS (N.filter fun n => decide (n.Parent = id)) = sumS N id
  | [] => rfl
  | n :: N => by
    have := wS_kids id N
    have e : sumS (n :: N) id = (if n.Parent = id then n.Weight else 0) + sumS N id := rfl
    rw [e]
    by_cases h : n.Parent = id
    · rw [List.filter_cons_of_pos (by simp [h]), if_pos h]
      show n.Weight + wS _ = _
      rw [this]
    · rw [List.filter_cons_of_neg (by simp [h]), if_neg h, this]; omega
theorem wS_bd : ∀ {M : List Nd}, (∀ n ∈ M, 1 ≤ n.Weight ∧ n.Weight ≤ 256) → 0 ≤ wS M ∧ wS M ≤ 256 * M.length
  | [], _ => ⟨Int.le_refl _, Int.le_refl _⟩
  | n :: M, h => by
    have h1 := wS_bd (M := M) (fun x hx => h x (by simp [hx]))
    have h2 := h n (by simp)
    show 0 ≤ n.Weight + wS M ∧ n.Weight + wS M ≤ 256 * ((M.length + 1 : Nat) : Int)
    omega
section
variable {N : List Nd} {R K : Int} {E : List Int}
end
end Go.Fn
set_option linter.unusedSimpArgs false
set_option linter.unusedVariables false
open Go Go.IL
namespace Go.Fn
/-! What hangs on another one: the document's is the program's. -/
section
variable {N : List Nd} {R K : Int} {E : List Int}
/-! The program's. -/
/-! The document's. -/
end
end Go.Fn
set_option linter.unusedSimpArgs false
set_option linter.unusedVariables false
open Go Go.IL
namespace Go.Fn
/-! What is done: the document's is the program's. -/
section
variable {N : List Nd} {R K : Int} {E : List Int}
end
section
variable {st : Fs}
theorem GV.ok (h : GV st) : Ok34 st.Nodes := h.fv.ok
end
end Go.Fn
set_option linter.unusedSimpArgs false
set_option linter.unusedVariables false
open Go Go.IL
namespace Go.Fn
/-! FoldDoes. -/
section
variable {st : Fs}
end
/-! The law's own. -/
theorem own34s_L {st : Fs} (hl : st.Nodes.length ≤ 1000) : ∀ (r p : List Nd) (f : Nat), st.Nodes = p ++ r → r.length < f → sennitlaw34_own_L0 st f (p.length : Int) p = some st
  | [], p, f + 1, h, _ => by
    rw [List.append_nil] at h
    rw [sennitlaw34_own_L0]
    simp only [bndD, h, lt_len, bif_ff]
    rw [← h]
  | x :: r, p, f + 1, h, hf => by
    have hp : p.length ≤ 1000 := by rw [h] at hl; simp at hl; omega
    have hrec := own34s_L hl r (p ++ [x]) f (next_at h) (by simpa using hf)
    rw [sennitlaw34_own_L0]
    simp only [bndD, lt_at h, bif_tt, gix_at h, bnoS, app_ok (b := 32) (l := p) (m := [x]) (by rw [List.length_singleton]; omega) (by rw [List.length_singleton]; omega), w_at h (show st.Nodes.length ≤ 1000000 by omega)]
    exact hrec
theorem own34s {st : Fs} (hl : st.Nodes.length ≤ 1000) : sennitlaw34_own st = some st := own34s_L hl st.Nodes [] fuel rfl (fuel_gt (by omega))
theorem rieq34 {l m : List Int} (hl : l.length ≤ 1000000) : sennitref02_SameInts l m = some (decide (l = m)) := by
  have := equal_all (L := sennitref02_SameInts_L0 l m) (m := m) (z := true) hl (fun p x r s y t f h k e => by
    rw [sennitref02_SameInts_L0]
    simp only [bndD, lt_at h, bif_tt, gix_at h, show gix m (p.length : Int) = some y by rw [e]; exact gix_at k, bnoS, w_at h hl]) (fun _ f => by
    rw [sennitref02_SameInts_L0]
    simp only [bndD, lt_len, bif_ff])
  rw [Bool.and_true] at this
  exact this
theorem few34 {st : Fs} : sennitlaw34_few st = some (decide (st.Nodes.length ≤ 30) && decide (st.Ended.length ≤ 30)) := by
  unfold sennitlaw34_few
  simp only [bndD]
  congr 1
  congr 1 <;> rw [Bool.eq_iff_iff] <;> simp <;> omega
end Go.Fn
set_option linter.unusedSimpArgs false
set_option linter.unusedVariables false
open Go Go.IL
namespace Go.Fn
/-! Sorting sorts: lists by place; the parts of pdqsort. -/
def gv (v : List Int) (i : Int) : Int := v.getD i.toNat 0
theorem gv_get {v : List Int} {i : Int} (h : i.toNat < v.length) : v[i.toNat]? = some (gv v i) := by
  unfold gv
  rw [List.getD_eq_getElem?_getD, List.getElem?_eq_getElem h]; rfl
/-- Two places are changed. -/
structure Sw (v : List Int) (i j : Int) (w : List Int) : Prop where
  len : w.length = v.length
  at_i : gv w i = gv v j
  at_j : gv w j = gv v i
  at_o : ∀ k, 0 ≤ k → k ≠ i → k ≠ j → gv w k = gv v k
  pm : w.Perm v
theorem sw_of {v : List Int} {i j : Int} (hi : 0 ≤ i) (hi2 : i < v.length) (hj : 0 ≤ j) (hj2 : j < v.length) : Sw v i j ((v.set i.toNat (gv v j)).set j.toNat (gv v i)) := by
  have h1 : i.toNat < v.length := by omega
  have h2 : j.toNat < v.length := by omega
  have gj : v[j.toNat] = gv v j := by have := gv_get h2; rw [List.getElem?_eq_getElem h2] at this; exact Option.some.inj this
  have gi : v[i.toNat] = gv v i := by have := gv_get h1; rw [List.getElem?_eq_getElem h1] at this; exact Option.some.inj this
  have hat : ∀ k : Int, 0 ≤ k → gv ((v.set i.toNat (gv v j)).set j.toNat (gv v i)) k = if k = j then gv v i else if k = i then gv v j else gv v k := fun k hk => by
    show (((v.set i.toNat (gv v j)).set j.toNat (gv v i)).getD k.toNat 0) = _
    rw [List.getD_eq_getElem?_getD, List.getElem?_set, List.getElem?_set, List.length_set]
    by_cases e1 : k = j
    · rw [if_pos (by omega), if_pos h2, if_pos e1]; rfl
    · rw [if_neg (by omega), if_neg e1]
      by_cases e2 : k = i
      · rw [if_pos (by omega), if_pos h1, if_pos e2]; rfl
      · rw [if_neg (by omega), if_neg e2, ← List.getD_eq_getElem?_getD]; rfl
  refine ⟨by rw [List.length_set, List.length_set], ?_, ?_, fun k h0 h3 h4 => ?_, ?_⟩
  · rw [hat i hi]
    by_cases e : i = j
    · rw [if_pos e, e]
    · rw [if_neg e, if_pos rfl]
  · rw [hat j hj, if_pos rfl]
  · rw [hat k h0, if_neg h4, if_neg h3]
  · have := List.set_set_perm h1 h2
    rw [gi, gj] at this; exact this
section
variable {α : Type} {Q : α → Prop} {l : List Int}
theorem tv_gix {i : Int} {f : Int → Option α} (h0 : 0 ≤ i) (h1 : i < l.length) (h : Tot (f (gv l i)) Q) : Tot (bno (gix l i) f) Q := by
  rw [gix_lit l h0, gv_get (by omega), bnoS]; exact h
theorem tv_get {i : Int} {f : Int → Option α} (h0 : 0 ≤ i) (h1 : i < l.length) (h : Tot (f (gv l i)) Q) : Tot (bno (l[i.toNat]?) f) Q := by
  rw [gv_get (by omega), bnoS]; exact h
theorem tv_less {a b : Int} {f : Bool → Option α} (h1 : a < b → Tot (f true) Q) (h2 : ¬ a < b → Tot (f false) Q) : Tot (bno (cmp_Less_int a b) f) Q := by
  rw [less34, bnoS]
  by_cases h : a < b
  · rw [decide_eq_true h]; exact h1 h
  · rw [decide_eq_false h]; exact h2 h
theorem tv_swap {i j : Int} {f : List Int → Option α} (hi : 0 ≤ i) (hi2 : i < l.length) (hj : 0 ≤ j) (hj2 : j < l.length) (h : ∀ w, Sw l i j w → Tot (f w) Q) : Tot (bnd (l.set i.toNat (gv l j)) fun a => bno (gix a j) fun _ => bno (a[j.toNat]?) fun _ => bnd (a.set j.toNat (gv l i)) f) Q := by
  have hl : (l.set i.toNat (gv l j)).length = l.length := List.length_set ..
  rw [bndD, gix_lit _ hj, gv_get (by omega), bnoS, bnoS, bndD]
  exact h _ (sw_of hi hi2 hj hj2)
theorem tot_mono {R : α → Prop} {o : Option α} (h : Tot o R) (k : ∀ x, R x → Q x) : Tot o Q := by
  obtain ⟨x, e, hx⟩ := h
  exact ⟨x, e, k x hx⟩
end
/-- The same, but for what is between two places, which is changed among itself. -/
structure Pr (a b : Int) (v w : List Int) : Prop where
  pm : w.Perm v
  out : ∀ k, 0 ≤ k → k < a ∨ b ≤ k → gv w k = gv v k
  inn : ∀ k, a ≤ k → k < b → ∃ j, a ≤ j ∧ j < b ∧ gv w k = gv v j
def Sd (a b : Int) (v : List Int) : Prop := ∀ p q, a ≤ p → p < q → q < b → gv v p ≤ gv v q
section
variable {a b : Int} {u v w : List Int}
theorem Pr.len (h : Pr a b v w) : w.length = v.length := h.pm.length_eq
theorem pr_refl : Pr a b v v := ⟨.refl _, fun _ _ _ => rfl, fun k h1 h2 => ⟨k, h1, h2, rfl⟩⟩
theorem pr_trans (h : Pr a b u v) (k : Pr a b v w) : Pr a b u w :=
  ⟨k.pm.trans h.pm, fun x h0 h1 => (k.out x h0 h1).trans (h.out x h0 h1), fun x h1 h2 => by
    obtain ⟨j, j1, j2, e⟩ := k.inn x h1 h2
    obtain ⟨i, i1, i2, e2⟩ := h.inn j j1 j2
    exact ⟨i, i1, i2, e.trans e2⟩⟩
theorem pr_mono {c d : Int} (h : Pr a b v w) (h0 : 0 ≤ c) (hc : c ≤ a) (hd : b ≤ d) : Pr c d v w :=
  ⟨h.pm, fun x h0 h1 => h.out x h0 (by omega), fun x h1 h2 => by
    by_cases hx : a ≤ x ∧ x < b
    · obtain ⟨j, j1, j2, e⟩ := h.inn x hx.1 hx.2
      exact ⟨j, by omega, by omega, e⟩
    · exact ⟨x, h1, h2, h.out x (by omega) (by omega)⟩⟩
theorem pr_sw {i j : Int} (h : Sw v i j w) (ha : 0 ≤ a) (hi : a ≤ i ∧ i < b) (hj : a ≤ j ∧ j < b) : Pr a b v w :=
  ⟨h.pm, fun k h0 h1 => h.at_o k h0 (by omega) (by omega), fun k h1 h2 => by
    by_cases e1 : k = i
    · exact ⟨j, hj.1, hj.2, by rw [e1, h.at_i]⟩
    · by_cases e2 : k = j
      · exact ⟨i, hi.1, hi.2, by rw [e2, h.at_j]⟩
      · exact ⟨k, h1, h2, h.at_o k (by omega) e1 e2⟩⟩
end
section
variable {n : Nat}
theorem vins_L1 {α : Type} {Q : List Int → Prop} {a b i : Int} {kk : List Int → Int → Option (List Int)} (hn : n ≤ 900) (ha : 0 ≤ a) (hi : a < i ∧ i < b) (hb : b ≤ n) {v0 : List Int} (hk : ∀ w, w.length = n → Pr a b v0 w → Sd a (i + 1) w → Tot (kk w (i + 1)) Q) : ∀ (f : Nat) (v : List Int) (j : Int), v.length = n → Pr a b v0 v → a ≤ j → j ≤ i → (∀ p q, a ≤ p → p < q → q ≤ i → p ≠ j → q ≠ j → gv v p ≤ gv v q) → (∀ q, j < q → q ≤ i → gv v j ≤ gv v q) → (j - a).toNat < f → Tot (slices_insertionSortOrdered_int_h_L1 a i kk f v j) Q
  | 0, _, _, _, _, _, _, _, _, h => absurd h (by omega)
  | f + 1, v, j, hv, hp, h0, h1, g1, g2, hf => by
    rw [slices_insertionSortOrdered_int_h_L1]
    repeat' (first | (with_reducible refine tv_gix ?_ ?_ ?_; omega; omega) | (with_reducible refine tv_get ?_ ?_ ?_; omega; omega) | (with_reducible refine tot_w ?_ ?_ ?_; omega; omega) | (with_reducible refine tv_swap ?_ ?_ ?_ ?_ (fun w hw => ?_); omega; omega; omega; omega) | (with_reducible refine tv_less (fun _ => ?_) (fun _ => ?_)) | (with_reducible refine tot_gt ?_) | (with_reducible refine tot_gf ?_) | (with_reducible refine tot_bt ?_) | (with_reducible refine tot_bf ?_) | (with_reducible refine tot_nt ?_) | (with_reducible refine tot_nf ?_) | (with_reducible refine tot_tt ?_) | (with_reducible refine tot_tf ?_) | (with_reducible refine tot_tn ?_) | (with_reducible refine tot_tnf ?_) | (with_reducible refine tot_f ?_) | (with_reducible refine tot_dec (fun _ => ?_) (fun _ => ?_)) | (with_reducible refine tot_q ?_ ?_ ?_ ?_; omega; omega; decide) | (with_reducible refine tot_s ?_; assumption))
    · rename_i hja hlt
      have hwp := pr_sw hw ha (b := b) (by omega) (by omega)
      refine vins_L1 (α := α) hn ha hi hb hk f w (j - 1) (by rw [hw.len, hv]) (pr_trans hp hwp) (by omega) (by omega) (fun p q k1 k2 k3 k4 k5 => ?_) (fun q k1 k2 => ?_) (by omega)
      · by_cases e1 : p = j
        · rw [e1, hw.at_i, hw.at_o q (by omega) (by omega) (by omega)]
          exact g1 _ _ (by omega) (by omega) k3 (by omega) (by omega)
        · by_cases e2 : q = j
          · rw [e2, hw.at_i, hw.at_o p (by omega) e1 (by omega)]
            exact g1 _ _ k1 (by omega) (by omega) e1 (by omega)
          · rw [hw.at_o p (by omega) e1 k4, hw.at_o q (by omega) e2 k5]
            exact g1 _ _ k1 k2 k3 e1 e2
      · rw [hw.at_j]
        by_cases e2 : q = j
        · rw [e2, hw.at_i]; omega
        · rw [hw.at_o q (by omega) e2 (by omega)]
          exact g2 _ (by omega) k2
    · rename_i hja hlt
      refine hk v hv hp (fun p q k1 k2 k3 => ?_)
      by_cases e1 : q = j
      · rw [e1]
        by_cases e2 : p = j - 1
        · rw [e2]; omega
        · have := g1 p (j - 1) k1 (by omega) (by omega) (by omega) (by omega); omega
      · by_cases e2 : p = j
        · rw [e2]; exact g2 _ (by omega) (by omega)
        · exact g1 _ _ k1 k2 (by omega) e2 e1
    · refine hk v hv hp (fun p q k1 k2 k3 => ?_)
      by_cases e2 : p = j
      · rw [e2]; exact g2 _ (by omega) (by omega)
      · exact g1 _ _ k1 k2 (by omega) e2 (by omega)
theorem vins_L0 {a b : Int} (hn : n ≤ 900) (ha : 0 ≤ a) (hb : b ≤ n) {v0 : List Int} : ∀ (f : Nat) (v : List Int) (i : Int), v.length = n → Pr a b v0 v → Sd a i v → a + 1 ≤ i → i ≤ b ∨ i = a + 1 → (b - i).toNat < f → Tot (slices_insertionSortOrdered_int_h_L0 a b f v i) (fun w => Pr a b v0 w ∧ Sd a b w)
  | 0, _, _, _, _, _, _, _, h => absurd h (by omega)
  | f + 1, v, i, hv, hp, hs, h0, h1, hf => by
    rw [slices_insertionSortOrdered_int_h_L0]
    repeat' (first | (with_reducible refine tv_gix ?_ ?_ ?_; omega; omega) | (with_reducible refine tv_get ?_ ?_ ?_; omega; omega) | (with_reducible refine tot_w ?_ ?_ ?_; omega; omega) | (with_reducible refine tv_swap ?_ ?_ ?_ ?_ (fun w hw => ?_); omega; omega; omega; omega) | (with_reducible refine tv_less (fun _ => ?_) (fun _ => ?_)) | (with_reducible refine tot_gt ?_) | (with_reducible refine tot_gf ?_) | (with_reducible refine tot_bt ?_) | (with_reducible refine tot_bf ?_) | (with_reducible refine tot_nt ?_) | (with_reducible refine tot_nf ?_) | (with_reducible refine tot_tt ?_) | (with_reducible refine tot_tf ?_) | (with_reducible refine tot_tn ?_) | (with_reducible refine tot_tnf ?_) | (with_reducible refine tot_f ?_) | (with_reducible refine tot_dec (fun _ => ?_) (fun _ => ?_)) | (with_reducible refine tot_q ?_ ?_ ?_ ?_; omega; omega; decide) | (with_reducible refine tot_s ?_; assumption))
    · exact vins_L1 (α := Int) hn ha (by omega) hb (fun w hw1 hw2 hw3 => vins_L0 hn ha hb f w (i + 1) hw1 hw2 hw3 (by omega) (by omega) (by omega)) fuel v i hv hp (by omega) (by omega) (fun p q k1 k2 k3 k4 k5 => hs p q k1 k2 (by omega)) (fun q k1 k2 => by omega) (fuel_gt (by omega))
    · exact tot_s ⟨hp, fun p q k1 k2 k3 => hs p q k1 k2 (by omega)⟩
theorem vins_t {a b : Int} {v : List Int} (hv : v.length = n) (ha : 0 ≤ a) (hab : a ≤ b) (hb : b ≤ n) (hn : n ≤ 900) : Tot (slices_insertionSortOrdered_int_h a b v) (fun w => Pr a b v w ∧ Sd a b w) := by
  unfold slices_insertionSortOrdered_int_h
  repeat' (first | (with_reducible refine tv_gix ?_ ?_ ?_; omega; omega) | (with_reducible refine tv_get ?_ ?_ ?_; omega; omega) | (with_reducible refine tot_w ?_ ?_ ?_; omega; omega) | (with_reducible refine tv_swap ?_ ?_ ?_ ?_ (fun w hw => ?_); omega; omega; omega; omega) | (with_reducible refine tv_less (fun _ => ?_) (fun _ => ?_)) | (with_reducible refine tot_gt ?_) | (with_reducible refine tot_gf ?_) | (with_reducible refine tot_bt ?_) | (with_reducible refine tot_bf ?_) | (with_reducible refine tot_nt ?_) | (with_reducible refine tot_nf ?_) | (with_reducible refine tot_tt ?_) | (with_reducible refine tot_tf ?_) | (with_reducible refine tot_tn ?_) | (with_reducible refine tot_tnf ?_) | (with_reducible refine tot_f ?_) | (with_reducible refine tot_dec (fun _ => ?_) (fun _ => ?_)) | (with_reducible refine tot_q ?_ ?_ ?_ ?_; omega; omega; decide) | (with_reducible refine tot_s ?_; assumption))
  exact vins_L0 hn ha hb fuel v (a + 1) hv pr_refl (fun p q k1 k2 k3 => by omega) (by omega) (by omega) (fuel_gt (by omega))
theorem vrev_L0 {a b : Int} (ha : 0 ≤ a) (hb : b ≤ n) (hn : n ≤ 900) {v0 : List Int} : ∀ (f : Nat) (v : List Int) (i j : Int), v.length = n → Pr a b v0 v → a ≤ i → j < b → (j - i).toNat < f → Tot (slices_reverseRangeOrdered_int_h_L0 f v i j) (Pr a b v0)
  | 0, _, _, _, _, _, _, _, h => absurd h (by omega)
  | f + 1, v, i, j, hv, hp, h0, h1, hf => by
    rw [slices_reverseRangeOrdered_int_h_L0]
    repeat' (first | (with_reducible refine tv_gix ?_ ?_ ?_; omega; omega) | (with_reducible refine tv_get ?_ ?_ ?_; omega; omega) | (with_reducible refine tot_w ?_ ?_ ?_; omega; omega) | (with_reducible refine tv_swap ?_ ?_ ?_ ?_ (fun w hw => ?_); omega; omega; omega; omega) | (with_reducible refine tv_less (fun _ => ?_) (fun _ => ?_)) | (with_reducible refine tot_gt ?_) | (with_reducible refine tot_gf ?_) | (with_reducible refine tot_bt ?_) | (with_reducible refine tot_bf ?_) | (with_reducible refine tot_nt ?_) | (with_reducible refine tot_nf ?_) | (with_reducible refine tot_tt ?_) | (with_reducible refine tot_tf ?_) | (with_reducible refine tot_tn ?_) | (with_reducible refine tot_tnf ?_) | (with_reducible refine tot_f ?_) | (with_reducible refine tot_dec (fun _ => ?_) (fun _ => ?_)) | (with_reducible refine tot_q ?_ ?_ ?_ ?_; omega; omega; decide) | (with_reducible refine tot_s ?_; assumption))
    · exact vrev_L0 ha hb hn f w _ _ (by rw [hw.len, hv]) (pr_trans hp (pr_sw hw ha (by omega) (by omega))) (by omega) (by omega) (by omega)
theorem vrev_t {a b : Int} {v : List Int} (hv : v.length = n) (ha : 0 ≤ a) (hab : a ≤ b) (hb : b ≤ n) (hn : n ≤ 900) : Tot (slices_reverseRangeOrdered_int_h a b v) (Pr a b v) := by
  unfold slices_reverseRangeOrdered_int_h
  repeat' (first | (with_reducible refine tv_gix ?_ ?_ ?_; omega; omega) | (with_reducible refine tv_get ?_ ?_ ?_; omega; omega) | (with_reducible refine tot_w ?_ ?_ ?_; omega; omega) | (with_reducible refine tv_swap ?_ ?_ ?_ ?_ (fun w hw => ?_); omega; omega; omega; omega) | (with_reducible refine tv_less (fun _ => ?_) (fun _ => ?_)) | (with_reducible refine tot_gt ?_) | (with_reducible refine tot_gf ?_) | (with_reducible refine tot_bt ?_) | (with_reducible refine tot_bf ?_) | (with_reducible refine tot_nt ?_) | (with_reducible refine tot_nf ?_) | (with_reducible refine tot_tt ?_) | (with_reducible refine tot_tf ?_) | (with_reducible refine tot_tn ?_) | (with_reducible refine tot_tnf ?_) | (with_reducible refine tot_f ?_) | (with_reducible refine tot_dec (fun _ => ?_) (fun _ => ?_)) | (with_reducible refine tot_q ?_ ?_ ?_ ?_; omega; omega; decide) | (with_reducible refine tot_s ?_; assumption))
  exact vrev_L0 ha hb hn fuel v _ _ hv pr_refl (by omega) (by omega) (fuel_gt (by omega))
theorem vbrk_J {Q : List Int → Prop} {a b i o : Int} {v : List Int} (hv : v.length = n) {x : Int × Int} {kk : List Int → Int → Int → Option (List Int)} (ha : 0 ≤ a) (hb : b ≤ n) (hi : a ≤ i ∧ i < b) (ho : 0 ≤ o ∧ a + o < b) (hn : n ≤ 900) (hk : ∀ w, w.length = n → Pr a b v w → Tot (kk w (i + 1) x.2) Q) : Tot (slices_breakPatternsOrdered_int_h_J1 a v i kk x o) Q := by
  unfold slices_breakPatternsOrdered_int_h_J1
  repeat' (first | (with_reducible refine tv_gix ?_ ?_ ?_; omega; omega) | (with_reducible refine tv_get ?_ ?_ ?_; omega; omega) | (with_reducible refine tot_w ?_ ?_ ?_; omega; omega) | (with_reducible refine tv_swap ?_ ?_ ?_ ?_ (fun w hw => ?_); omega; omega; omega; omega) | (with_reducible refine tv_less (fun _ => ?_) (fun _ => ?_)) | (with_reducible refine tot_gt ?_) | (with_reducible refine tot_gf ?_) | (with_reducible refine tot_bt ?_) | (with_reducible refine tot_bf ?_) | (with_reducible refine tot_nt ?_) | (with_reducible refine tot_nf ?_) | (with_reducible refine tot_tt ?_) | (with_reducible refine tot_tf ?_) | (with_reducible refine tot_tn ?_) | (with_reducible refine tot_tnf ?_) | (with_reducible refine tot_f ?_) | (with_reducible refine tot_dec (fun _ => ?_) (fun _ => ?_)) | (with_reducible refine tot_q ?_ ?_ ?_ ?_; omega; omega; decide) | (with_reducible refine tot_s ?_; assumption))
  exact hk w (by rw [hw.len, hv]) (pr_sw hw ha hi (by omega))
theorem vbrk_L0 {a b s : Int} (ha : 0 ≤ a) (hb : b ≤ n) (h8 : 8 ≤ b - a) (hn : n ≤ 24) (hs : s = 16 ∧ b - a ≤ 15 ∨ s = 32 ∧ 16 ≤ b - a) {v0 : List Int} : ∀ (f : Nat) (v : List Int) (i r : Int), v.length = n → Pr a b v0 v → a ≤ i → i ≤ 900 → (b - i).toNat < f → Tot (slices_breakPatternsOrdered_int_h_L0 a (b - a) s f v i r) (Pr a b v0)
  | 0, _, _, _, _, _, _, _, h => absurd h (by omega)
  | f + 1, v, i, r, hv, hp, h0, h1, hf => by
    rw [slices_breakPatternsOrdered_int_h_L0]
    repeat' (first | (with_reducible refine tv_gix ?_ ?_ ?_; omega; omega) | (with_reducible refine tv_get ?_ ?_ ?_; omega; omega) | (with_reducible refine tot_w ?_ ?_ ?_; omega; omega) | (with_reducible refine tv_swap ?_ ?_ ?_ ?_ (fun w hw => ?_); omega; omega; omega; omega) | (with_reducible refine tv_less (fun _ => ?_) (fun _ => ?_)) | (with_reducible refine tot_gt ?_) | (with_reducible refine tot_gf ?_) | (with_reducible refine tot_bt ?_) | (with_reducible refine tot_bf ?_) | (with_reducible refine tot_nt ?_) | (with_reducible refine tot_nf ?_) | (with_reducible refine tot_tt ?_) | (with_reducible refine tot_tf ?_) | (with_reducible refine tot_tn ?_) | (with_reducible refine tot_tnf ?_) | (with_reducible refine tot_f ?_) | (with_reducible refine tot_dec (fun _ => ?_) (fun _ => ?_)) | (with_reducible refine tot_q ?_ ?_ ?_ ?_; omega; omega; decide) | (with_reducible refine tot_s ?_; assumption))
    refine tot_o (xor_t r) (fun x _ => ?_)
    have hm : ∃ m : Nat, m < 1000 ∧ IntKind.wrap .u64 (s - 1) = (m : Int) ∧ (m : Int) = s - 1 := ⟨(s - 1).toNat, by omega, by rw [wU64 (by omega) (by omega)]; omega, by omega⟩
    obtain ⟨m, hm1, hm2, hm3⟩ := hm
    have hand := and_t x.1 hm1
    refine tot_b ?_
    rw [hm2]
    refine tot_b ?_
    repeat' (first | (with_reducible refine tv_gix ?_ ?_ ?_; omega; omega) | (with_reducible refine tv_get ?_ ?_ ?_; omega; omega) | (with_reducible refine tot_w ?_ ?_ ?_; omega; omega) | (with_reducible refine tv_swap ?_ ?_ ?_ ?_ (fun w hw => ?_); omega; omega; omega; omega) | (with_reducible refine tv_less (fun _ => ?_) (fun _ => ?_)) | (with_reducible refine tot_gt ?_) | (with_reducible refine tot_gf ?_) | (with_reducible refine tot_bt ?_) | (with_reducible refine tot_bf ?_) | (with_reducible refine tot_nt ?_) | (with_reducible refine tot_nf ?_) | (with_reducible refine tot_tt ?_) | (with_reducible refine tot_tf ?_) | (with_reducible refine tot_tn ?_) | (with_reducible refine tot_tnf ?_) | (with_reducible refine tot_f ?_) | (with_reducible refine tot_dec (fun _ => ?_) (fun _ => ?_)) | (with_reducible refine tot_q ?_ ?_ ?_ ?_; omega; omega; decide) | (with_reducible refine tot_s ?_; assumption))
    all_goals exact vbrk_J hv ha hb (by omega) (by omega) (by omega) (fun w hw1 hw2 => vbrk_L0 ha hb h8 hn hs f w _ _ hw1 (pr_trans hp hw2) (by omega) (by omega) (by omega))
theorem vbrk_t {a b : Int} {v : List Int} (hv : v.length = n) (ha : 0 ≤ a) (h8 : 8 ≤ b - a) (hb : b ≤ n) (hn : n ≤ 24) : Tot (slices_breakPatternsOrdered_int_h a b v) (Pr a b v) := by
  unfold slices_breakPatternsOrdered_int_h
  repeat' (first | (with_reducible refine tv_gix ?_ ?_ ?_; omega; omega) | (with_reducible refine tv_get ?_ ?_ ?_; omega; omega) | (with_reducible refine tot_w ?_ ?_ ?_; omega; omega) | (with_reducible refine tv_swap ?_ ?_ ?_ ?_ (fun w hw => ?_); omega; omega; omega; omega) | (with_reducible refine tv_less (fun _ => ?_) (fun _ => ?_)) | (with_reducible refine tot_gt ?_) | (with_reducible refine tot_gf ?_) | (with_reducible refine tot_bt ?_) | (with_reducible refine tot_bf ?_) | (with_reducible refine tot_nt ?_) | (with_reducible refine tot_nf ?_) | (with_reducible refine tot_tt ?_) | (with_reducible refine tot_tf ?_) | (with_reducible refine tot_tn ?_) | (with_reducible refine tot_tnf ?_) | (with_reducible refine tot_f ?_) | (with_reducible refine tot_dec (fun _ => ?_) (fun _ => ?_)) | (with_reducible refine tot_q ?_ ?_ ?_ ?_; omega; omega; decide) | (with_reducible refine tot_s ?_; assumption))
  · refine tot_b ?_
    refine tot_o (np_t (by omega) (by omega)) (fun s hs => ?_)
    repeat' (first | (with_reducible refine tv_gix ?_ ?_ ?_; omega; omega) | (with_reducible refine tv_get ?_ ?_ ?_; omega; omega) | (with_reducible refine tot_w ?_ ?_ ?_; omega; omega) | (with_reducible refine tv_swap ?_ ?_ ?_ ?_ (fun w hw => ?_); omega; omega; omega; omega) | (with_reducible refine tv_less (fun _ => ?_) (fun _ => ?_)) | (with_reducible refine tot_gt ?_) | (with_reducible refine tot_gf ?_) | (with_reducible refine tot_bt ?_) | (with_reducible refine tot_bf ?_) | (with_reducible refine tot_nt ?_) | (with_reducible refine tot_nf ?_) | (with_reducible refine tot_tt ?_) | (with_reducible refine tot_tf ?_) | (with_reducible refine tot_tn ?_) | (with_reducible refine tot_tnf ?_) | (with_reducible refine tot_f ?_) | (with_reducible refine tot_dec (fun _ => ?_) (fun _ => ?_)) | (with_reducible refine tot_q ?_ ?_ ?_ ?_; omega; omega; decide) | (with_reducible refine tot_s ?_; assumption))
    exact vbrk_L0 ha hb h8 hn hs fuel v _ _ hv pr_refl (by omega) (by omega) (fuel_gt (by omega))
  · exact tot_s pr_refl
theorem vpin_L1 {Q : Bool × List Int → Prop} {a b k : Int} {v : List Int} {kk : List Int → Int → Int → Option (Bool × List Int)} (hv : v.length = n) (hq : Q (false, v)) (hq2 : Sd a b v → Q (true, v)) (ha : 0 ≤ a) (hb : b ≤ n) (hs : b - a < 50) (hn : n ≤ 900) : ∀ (f : Nat) (i : Int), a + 1 ≤ i → i ≤ b → Sd a i v → (b - i).toNat < f → Tot (slices_partialInsertionSortOrdered_int_h_L1 a b v k kk f i) Q
  | 0, _, _, _, _, h => absurd h (by omega)
  | f + 1, i, h0, h1, hsd, hf => by
    have hqF : Tot (some (false, v)) Q := tot_s hq
    rw [slices_partialInsertionSortOrdered_int_h_L1]
    repeat' (first | (with_reducible refine tv_gix ?_ ?_ ?_; omega; omega) | (with_reducible refine tv_get ?_ ?_ ?_; omega; omega) | (with_reducible refine tot_w ?_ ?_ ?_; omega; omega) | (with_reducible refine tv_swap ?_ ?_ ?_ ?_ (fun w hw => ?_); omega; omega; omega; omega) | (with_reducible refine tv_less (fun _ => ?_) (fun _ => ?_)) | (with_reducible refine tot_gt ?_) | (with_reducible refine tot_gf ?_) | (with_reducible refine tot_bt ?_) | (with_reducible refine tot_bf ?_) | (with_reducible refine tot_nt ?_) | (with_reducible refine tot_nf ?_) | (with_reducible refine tot_tt ?_) | (with_reducible refine tot_tf ?_) | (with_reducible refine tot_tn ?_) | (with_reducible refine tot_tnf ?_) | (with_reducible refine tot_f ?_) | (with_reducible refine tot_dec (fun _ => ?_) (fun _ => ?_)) | (with_reducible refine tot_q ?_ ?_ ?_ ?_; omega; omega; decide) | (with_reducible refine tot_s ?_; assumption))
    any_goals first | omega | exact hqF
    · rename_i hlt
      refine vpin_L1 hv hq hq2 ha hb hs hn f _ (by omega) (by omega) (fun p q k1 k2 k3 => ?_) (by omega)
      by_cases e : q = i
      · rw [e]
        by_cases e2 : p = i - 1
        · rw [e2]; omega
        · have := hsd p (i - 1) k1 (by omega) (by omega); omega
      · exact hsd p q k1 k2 (by omega)
    · rename_i he
      exact tot_s (hq2 (by rw [← he]; exact hsd))
end
end Go.Fn
set_option linter.unusedSimpArgs false
set_option linter.unusedVariables false
open Go Go.IL
namespace Go.Fn
/-! Sorting sorts: partition, heap sort. -/
structure PaQ (a b : Int) (v0 : List Int) (r : Int × Bool × List Int) : Prop where
  lo : a ≤ r.1
  hi : r.1 < b
  pr : Pr a b v0 r.2.2
  le : ∀ k, a ≤ k → k < r.1 → gv r.2.2 k ≤ gv r.2.2 r.1
  ge : ∀ k, r.1 < k → k < b → gv r.2.2 r.1 ≤ gv r.2.2 k
section
variable {n : Nat} {a b : Int} {v0 : List Int}
theorem paq_of {v w : List Int} {i j : Int} {c : Bool} (ha : 0 ≤ a) (hp : Pr a b v0 v) (hai : a < i) (hji : j + 1 = i) (hjb : j < b) (g1 : ∀ k, a < k → k < i → gv v k < gv v a) (g2 : ∀ k, j < k → k < b → gv v a ≤ gv v k) (hw : Sw v j a w) : PaQ a b v0 (j, c, w) := by
  refine ⟨by show a ≤ j; omega, hjb, pr_trans hp (pr_sw hw ha (by omega) (by omega)), fun k k1 k2 => ?_, fun k k1 k2 => ?_⟩
  · have k2 : k < j := k2
    show gv w k ≤ gv w j
    rw [hw.at_i]
    by_cases e : k = a
    · have := g1 j (by omega) (by omega)
      rw [e, hw.at_j]; omega
    · have := g1 k (by omega) (by omega)
      rw [hw.at_o k (by omega) (by omega) e]; omega
  · have k1 : j < k := k1
    show gv w j ≤ gv w k
    rw [hw.at_i, hw.at_o k (by omega) (by omega) (by omega)]
    exact g2 k k1 k2
theorem inv_of {v w : List Int} {i j : Int} (ha : 0 ≤ a) (hai : a < i) (hij : i < j) (hjb : j < b) (g1 : ∀ k, a < k → k < i → gv v k < gv v a) (g2 : ∀ k, j < k → k < b → gv v a ≤ gv v k) (h1 : gv v a ≤ gv v i) (h2 : gv v j < gv v a) (hw : Sw v i j w) : (∀ k, a < k → k < i + 1 → gv w k < gv w a) ∧ ∀ k, j - 1 < k → k < b → gv w a ≤ gv w k := by
  have e0 : gv w a = gv v a := hw.at_o a ha (by omega) (by omega)
  rw [e0]
  constructor
  · intro k k1 k2
    by_cases e : k = i
    · rw [e, hw.at_i]; exact h2
    · rw [hw.at_o k (by omega) e (by omega)]; exact g1 k k1 (by omega)
  · intro k k1 k2
    by_cases e : k = j
    · rw [e, hw.at_j]; exact h1
    · rw [hw.at_o k (by omega) (by omega) e]; exact g2 k (by omega) k2
theorem vpar_L4 {v : List Int} {i m : Int} {kk : List Int → Int → Int → Option (Int × Bool × List Int)} (hv : v.length = n) (hn : n ≤ 900) (ha : 0 ≤ a) (hb : b ≤ n) (hp : Pr a b v0 v) (hai : a < i) (hm : m < b) (g1 : ∀ k, a < k → k < i → gv v k < gv v a) (hst : i ≤ m → gv v a ≤ gv v i) (hk : ∀ w j, w.length = n → Pr a b v0 w → i < j → j ≤ m → (∀ k, a < k → k < i + 1 → gv w k < gv w a) → (∀ k, j - 1 < k → k < b → gv w a ≤ gv w k) → Tot (kk w (i + 1) (j - 1)) (PaQ a b v0)) : ∀ (f : Nat) (j : Int), j ≤ m → i ≤ j + 1 → (∀ k, j < k → k < b → gv v a ≤ gv v k) → (j + 1).toNat < f → Tot (slices_partitionOrdered_int_h_L4 a v kk i f j) (PaQ a b v0)
  | 0, _, _, _, _, h => absurd h (by omega)
  | f + 1, j, h0, h1, g2, hf => by
    rw [slices_partitionOrdered_int_h_L4]
    repeat' (first | (with_reducible refine tv_gix ?_ ?_ ?_; omega; omega) | (with_reducible refine tv_get ?_ ?_ ?_; omega; omega) | (with_reducible refine tot_w ?_ ?_ ?_; omega; omega) | (with_reducible refine tv_swap ?_ ?_ ?_ ?_ (fun w hw => ?_); omega; omega; omega; omega) | (with_reducible refine tv_less (fun _ => ?_) (fun _ => ?_)) | (with_reducible refine tot_gt ?_) | (with_reducible refine tot_gf ?_) | (with_reducible refine tot_bt ?_) | (with_reducible refine tot_bf ?_) | (with_reducible refine tot_nt ?_) | (with_reducible refine tot_nf ?_) | (with_reducible refine tot_tt ?_) | (with_reducible refine tot_tf ?_) | (with_reducible refine tot_tn ?_) | (with_reducible refine tot_tnf ?_) | (with_reducible refine tot_f ?_) | (with_reducible refine tot_dec (fun _ => ?_) (fun _ => ?_)) | (with_reducible refine tot_q ?_ ?_ ?_ ?_; omega; omega; decide) | (with_reducible refine tot_s ?_; assumption))
    any_goals omega
    · rename_i hij hlt hji
      have hne : i ≠ j := fun e => by have := hst (by omega); rw [e] at this; omega
      have hiv := inv_of ha hai (by omega) (by omega) g1 g2 (hst (by omega)) hlt hw
      exact hk w j (by rw [hw.len, hv]) (pr_trans hp (pr_sw hw ha (by omega) (by omega))) (by omega) h0 hiv.1 hiv.2
    · rename_i hij hlt
      refine vpar_L4 hv hn ha hb hp hai hm g1 hst hk f (j - 1) (by omega) (by omega) (fun k k1 k2 => ?_) (by omega)
      by_cases e : k = j
      · rw [e]; omega
      · exact g2 k (by omega) k2
    · exact tot_s (paq_of ha hp hai (by omega) (by omega) g1 g2 hw)
theorem vpar_L3 {v : List Int} {j : Int} {kk : List Int → Int → Int → Option (Int × Bool × List Int)} (hv : v.length = n) (hn : n ≤ 900) (ha : 0 ≤ a) (hb : b ≤ n) (hp : Pr a b v0 v) (hj : a ≤ j ∧ j < b) (m : Int) (ham : a < m) (g2 : ∀ k, j < k → k < b → gv v a ≤ gv v k) (hk : ∀ w i j', w.length = n → Pr a b v0 w → m ≤ i → i < j' → j' ≤ j → (∀ k, a < k → k < i + 1 → gv w k < gv w a) → (∀ k, j' - 1 < k → k < b → gv w a ≤ gv w k) → Tot (kk w (i + 1) (j' - 1)) (PaQ a b v0)) : ∀ (f : Nat) (i : Int), m ≤ i → i ≤ j + 1 → (∀ k, a < k → k < i → gv v k < gv v a) → (j + 1 - i).toNat < f → Tot (slices_partitionOrdered_int_h_L3 a v j kk f i) (PaQ a b v0)
  | 0, _, _, _, _, h => absurd h (by omega)
  | f + 1, i, h0, h1, g1, hf => by
    rw [slices_partitionOrdered_int_h_L3]
    repeat' (first | (with_reducible refine tv_gix ?_ ?_ ?_; omega; omega) | (with_reducible refine tv_get ?_ ?_ ?_; omega; omega) | (with_reducible refine tot_w ?_ ?_ ?_; omega; omega) | (with_reducible refine tv_swap ?_ ?_ ?_ ?_ (fun w hw => ?_); omega; omega; omega; omega) | (with_reducible refine tv_less (fun _ => ?_) (fun _ => ?_)) | (with_reducible refine tot_gt ?_) | (with_reducible refine tot_gf ?_) | (with_reducible refine tot_bt ?_) | (with_reducible refine tot_bf ?_) | (with_reducible refine tot_nt ?_) | (with_reducible refine tot_nf ?_) | (with_reducible refine tot_tt ?_) | (with_reducible refine tot_tf ?_) | (with_reducible refine tot_tn ?_) | (with_reducible refine tot_tnf ?_) | (with_reducible refine tot_f ?_) | (with_reducible refine tot_dec (fun _ => ?_) (fun _ => ?_)) | (with_reducible refine tot_q ?_ ?_ ?_ ?_; omega; omega; decide) | (with_reducible refine tot_s ?_; assumption))
    · rename_i hij hlt
      refine vpar_L3 hv hn ha hb hp hj m ham g2 hk f (i + 1) (by omega) (by omega) (fun k k1 k2 => ?_) (by omega)
      by_cases e : k = i
      · rw [e]; exact hlt
      · exact g1 k k1 (by omega)
    · exact vpar_L4 hv hn ha hb hp (by omega) hj.2 g1 (fun _ => by omega) (fun w j' q1 q2 q3 q4 q5 q6 => hk w i j' q1 q2 h0 q3 q4 q5 q6) fuel j (by omega) h1 g2 (fuel_gt (by omega))
    · exact vpar_L4 hv hn ha hb hp (by omega) hj.2 g1 (fun _ => by omega) (fun w j' q1 q2 q3 q4 q5 q6 => hk w i j' q1 q2 h0 q3 q4 q5 q6) fuel j (by omega) h1 g2 (fuel_gt (by omega))
theorem vpar_L2 (hn : n ≤ 900) (ha : 0 ≤ a) (hb : b ≤ n) : ∀ (f : Nat) (v : List Int) (i j : Int), v.length = n → Pr a b v0 v → a < i → i ≤ j + 1 → j < b → (∀ k, a < k → k < i → gv v k < gv v a) → (∀ k, j < k → k < b → gv v a ≤ gv v k) → (j + 1 - i).toNat < f → Tot (slices_partitionOrdered_int_h_L2 a f v i j) (PaQ a b v0)
  | 0, _, _, _, _, _, _, _, _, _, _, h => absurd h (by omega)
  | f + 1, v, i, j, hv, hp, h0, h1, h2, g1, g2, hf => by
    rw [slices_partitionOrdered_int_h_L2]
    exact vpar_L3 hv hn ha hb hp (by omega) i h0 g2 (fun w i' j' q1 q2 q3 q4 q5 q6 q7 => vpar_L2 hn ha hb f w _ _ q1 q2 (by omega) (by omega) (by omega) q6 q7 (by omega)) fuel i (by omega) h1 g1 (fuel_gt (by omega))
theorem vpar_L1 {v : List Int} {i m : Int} (hv : v.length = n) (hn : n ≤ 900) (ha : 0 ≤ a) (hb : b ≤ n) (hp : Pr a b v0 v) (hai : a < i) (hm : m < b) (g1 : ∀ k, a < k → k < i → gv v k < gv v a) (hst : i ≤ m → gv v a ≤ gv v i) : ∀ (f : Nat) (j : Int), j ≤ m → i ≤ j + 1 → (∀ k, j < k → k < b → gv v a ≤ gv v k) → (j + 1).toNat < f → Tot (slices_partitionOrdered_int_h_L1 a v i f j) (PaQ a b v0)
  | 0, _, _, _, _, h => absurd h (by omega)
  | f + 1, j, h0, h1, g2, hf => by
    rw [slices_partitionOrdered_int_h_L1]
    repeat' (first | (with_reducible refine tv_gix ?_ ?_ ?_; omega; omega) | (with_reducible refine tv_get ?_ ?_ ?_; omega; omega) | (with_reducible refine tot_w ?_ ?_ ?_; omega; omega) | (with_reducible refine tv_swap ?_ ?_ ?_ ?_ (fun w hw => ?_); omega; omega; omega; omega) | (with_reducible refine tv_less (fun _ => ?_) (fun _ => ?_)) | (with_reducible refine tot_gt ?_) | (with_reducible refine tot_gf ?_) | (with_reducible refine tot_bt ?_) | (with_reducible refine tot_bf ?_) | (with_reducible refine tot_nt ?_) | (with_reducible refine tot_nf ?_) | (with_reducible refine tot_tt ?_) | (with_reducible refine tot_tf ?_) | (with_reducible refine tot_tn ?_) | (with_reducible refine tot_tnf ?_) | (with_reducible refine tot_f ?_) | (with_reducible refine tot_dec (fun _ => ?_) (fun _ => ?_)) | (with_reducible refine tot_q ?_ ?_ ?_ ?_; omega; omega; decide) | (with_reducible refine tot_s ?_; assumption))
    any_goals omega
    · rename_i hij hlt hji
      have hne : i ≠ j := fun e => by have := hst (by omega); rw [e] at this; omega
      have hiv := inv_of ha hai (by omega) (by omega) g1 g2 (hst (by omega)) hlt hw
      exact vpar_L2 hn ha hb fuel w _ _ (by rw [hw.len, hv]) (pr_trans hp (pr_sw hw ha (by omega) (by omega))) (by omega) (by omega) (by omega) hiv.1 hiv.2 (fuel_gt (by omega))
    · rename_i hij hlt
      refine vpar_L1 hv hn ha hb hp hai hm g1 hst f (j - 1) (by omega) (by omega) (fun k k1 k2 => ?_) (by omega)
      by_cases e : k = j
      · rw [e]; omega
      · exact g2 k (by omega) k2
    · exact tot_s (paq_of ha hp hai (by omega) (by omega) g1 g2 hw)
theorem vpar_L0 {v : List Int} {j : Int} (hv : v.length = n) (hn : n ≤ 900) (ha : 0 ≤ a) (hb : b ≤ n) (hp : Pr a b v0 v) (hj : a ≤ j ∧ j < b) (g2 : ∀ k, j < k → k < b → gv v a ≤ gv v k) : ∀ (f : Nat) (i : Int), a < i → i ≤ j + 1 → (∀ k, a < k → k < i → gv v k < gv v a) → (j + 1 - i).toNat < f → Tot (slices_partitionOrdered_int_h_L0 a v j f i) (PaQ a b v0)
  | 0, _, _, _, _, h => absurd h (by omega)
  | f + 1, i, h0, h1, g1, hf => by
    rw [slices_partitionOrdered_int_h_L0]
    repeat' (first | (with_reducible refine tv_gix ?_ ?_ ?_; omega; omega) | (with_reducible refine tv_get ?_ ?_ ?_; omega; omega) | (with_reducible refine tot_w ?_ ?_ ?_; omega; omega) | (with_reducible refine tv_swap ?_ ?_ ?_ ?_ (fun w hw => ?_); omega; omega; omega; omega) | (with_reducible refine tv_less (fun _ => ?_) (fun _ => ?_)) | (with_reducible refine tot_gt ?_) | (with_reducible refine tot_gf ?_) | (with_reducible refine tot_bt ?_) | (with_reducible refine tot_bf ?_) | (with_reducible refine tot_nt ?_) | (with_reducible refine tot_nf ?_) | (with_reducible refine tot_tt ?_) | (with_reducible refine tot_tf ?_) | (with_reducible refine tot_tn ?_) | (with_reducible refine tot_tnf ?_) | (with_reducible refine tot_f ?_) | (with_reducible refine tot_dec (fun _ => ?_) (fun _ => ?_)) | (with_reducible refine tot_q ?_ ?_ ?_ ?_; omega; omega; decide) | (with_reducible refine tot_s ?_; assumption))
    · rename_i hij hlt
      refine vpar_L0 hv hn ha hb hp hj g2 f (i + 1) (by omega) (by omega) (fun k k1 k2 => ?_) (by omega)
      by_cases e : k = i
      · rw [e]; exact hlt
      · exact g1 k k1 (by omega)
    · exact vpar_L1 hv hn ha hb hp (by omega) hj.2 g1 (fun _ => by omega) fuel j (by omega) h1 g2 (fuel_gt (by omega))
    · exact vpar_L1 hv hn ha hb hp (by omega) hj.2 g1 (fun _ => by omega) fuel j (by omega) h1 g2 (fuel_gt (by omega))
theorem vpar_t {p : Int} {v : List Int} (hv : v.length = n) (ha : 0 ≤ a) (hab : a < b) (hp : a ≤ p ∧ p < b) (hb : b ≤ n) (hn : n ≤ 900) : Tot (slices_partitionOrdered_int_h a b p v) (PaQ a b v) := by
  unfold slices_partitionOrdered_int_h
  repeat' (first | (with_reducible refine tv_gix ?_ ?_ ?_; omega; omega) | (with_reducible refine tv_get ?_ ?_ ?_; omega; omega) | (with_reducible refine tot_w ?_ ?_ ?_; omega; omega) | (with_reducible refine tv_swap ?_ ?_ ?_ ?_ (fun w hw => ?_); omega; omega; omega; omega) | (with_reducible refine tv_less (fun _ => ?_) (fun _ => ?_)) | (with_reducible refine tot_gt ?_) | (with_reducible refine tot_gf ?_) | (with_reducible refine tot_bt ?_) | (with_reducible refine tot_bf ?_) | (with_reducible refine tot_nt ?_) | (with_reducible refine tot_nf ?_) | (with_reducible refine tot_tt ?_) | (with_reducible refine tot_tf ?_) | (with_reducible refine tot_tn ?_) | (with_reducible refine tot_tnf ?_) | (with_reducible refine tot_f ?_) | (with_reducible refine tot_dec (fun _ => ?_) (fun _ => ?_)) | (with_reducible refine tot_q ?_ ?_ ?_ ?_; omega; omega; decide) | (with_reducible refine tot_s ?_; assumption))
  exact vpar_L0 (by rw [hw.len, hv]) hn ha hb (pr_sw hw ha (by omega) hp) (by omega) (fun k k1 k2 => by omega) fuel _ (by omega) (by omega) (fun k k1 k2 => by omega) (fuel_gt (by omega))
end
end Go.Fn
set_option linter.unusedSimpArgs false
set_option linter.unusedVariables false
open Go Go.IL
namespace Go.Fn
/-! Sorting sorts: heap sort. -/
def Ch (k c : Int) : Prop := c = 2 * k + 1 ∨ c = 2 * k + 2
/-- A heap from some place on. -/
def Hp (lo hi f : Int) (v : List Int) : Prop := ∀ k c, lo ≤ k → Ch k c → c < hi → gv v (f + c) ≤ gv v (f + k)
theorem heap_max {hi f : Int} {v : List Int} (h : Hp 0 hi f v) : ∀ (m : Nat) (k : Int), 0 ≤ k → k ≤ m → k < hi → gv v (f + k) ≤ gv v (f + 0)
  | 0, k, h0, h1, _ => by rw [show k = 0 by omega]; omega
  | m + 1, k, h0, h1, h2 => by
    by_cases hz : k = 0
    · rw [hz]; omega
    · have h3 := h ((k - 1) / 2) k (by omega) (by unfold Ch; omega) h2
      have h4 := heap_max h m ((k - 1) / 2) (by omega) (by omega) (by omega)
      omega
section
variable {n : Nat}
theorem vsift_J {Q : List Int → Prop} {lo hi a2 : Int} (h0 : 0 ≤ a2) (h1 : a2 + hi ≤ n) (hn : n ≤ 900) {v0 v : List Int} (hv : v.length = n) (hp : Pr a2 (a2 + hi) v0 v) {r c : Int} (hlo : 0 ≤ lo ∧ lo ≤ r) (hr : 0 ≤ r ∧ r < hi) (hc : Ch r c) (hch : c < hi) (hmax : ∀ d, Ch r d → d < hi → gv v (a2 + d) ≤ gv v (a2 + c)) (g1 : ∀ k d, lo ≤ k → k ≠ r → Ch k d → d < hi → gv v (a2 + d) ≤ gv v (a2 + k)) (g2 : ∀ k d, lo ≤ k → Ch k r → Ch r d → d < hi → gv v (a2 + d) ≤ gv v (a2 + k)) {kk : List Int → Int → Option (List Int)} (hs : Hp lo hi a2 v → Q v) (hk : ∀ w, w.length = n → Pr a2 (a2 + hi) v0 w → (∀ k d, lo ≤ k → k ≠ c → Ch k d → d < hi → gv w (a2 + d) ≤ gv w (a2 + k)) → (∀ k d, lo ≤ k → Ch k c → Ch c d → d < hi → gv w (a2 + d) ≤ gv w (a2 + k)) → Tot (kk w c) Q) : Tot (slices_siftDownOrdered_int_h_J1 a2 v r kk c) Q := by
  have hc2 := hc
  unfold Ch at hc2
  unfold slices_siftDownOrdered_int_h_J1
  repeat' (first | (with_reducible refine tv_gix ?_ ?_ ?_; omega; omega) | (with_reducible refine tv_get ?_ ?_ ?_; omega; omega) | (with_reducible refine tot_w ?_ ?_ ?_; omega; omega) | (with_reducible refine tv_swap ?_ ?_ ?_ ?_ (fun w hw => ?_); omega; omega; omega; omega) | (with_reducible refine tv_less (fun _ => ?_) (fun _ => ?_)) | (with_reducible refine tot_gt ?_) | (with_reducible refine tot_gf ?_) | (with_reducible refine tot_bt ?_) | (with_reducible refine tot_bf ?_) | (with_reducible refine tot_nt ?_) | (with_reducible refine tot_nf ?_) | (with_reducible refine tot_tt ?_) | (with_reducible refine tot_tf ?_) | (with_reducible refine tot_tn ?_) | (with_reducible refine tot_tnf ?_) | (with_reducible refine tot_f ?_) | (with_reducible refine tot_dec (fun _ => ?_) (fun _ => ?_)) | (with_reducible refine tot_q ?_ ?_ ?_ ?_; omega; omega; decide) | (with_reducible refine tot_s ?_; assumption))
  · rename_i hlt
    have ho : ∀ k, 0 ≤ k → k ≠ r → k ≠ c → gv w (a2 + k) = gv v (a2 + k) := fun k k0 k1 k2 => hw.at_o _ (by omega) (by omega) (by omega)
    refine hk w (by rw [hw.len, hv]) (pr_trans hp (pr_sw hw h0 (by omega) (by omega))) (fun k d k1 k2 k3 k4 => ?_) (fun k d k1 k2 k3 k4 => ?_)
    · have k3' := k3
      unfold Ch at k3'
      by_cases e : k = r
      · rw [e, hw.at_i]
        by_cases e2 : d = c
        · rw [e2, hw.at_j]; omega
        · rw [ho d (by omega) (by omega) e2]
          exact hmax d (by rw [← e]; exact k3) k4
      · by_cases e2 : d = r
        · rw [e2, hw.at_i, ho k (by omega) e k2]
          exact g2 k c k1 (by rw [← e2]; exact k3) hc hch
        · rw [ho d (by omega) e2 (by omega), ho k (by omega) e k2]
          exact g1 k d k1 e k3 k4
    · have k2' := k2
      have k3' := k3
      unfold Ch at k2' k3'
      have e : k = r := by omega
      rw [e, hw.at_i, ho d (by omega) (by omega) (by omega)]
      exact g1 c d (by omega) (by omega) k3 k4
  · rename_i hlt
    refine tot_s (hs (fun k d k1 k2 k3 => ?_))
    by_cases e : k = r
    · have := hmax d (by rw [← e]; exact k2) k3
      rw [e]; omega
    · exact g1 k d k1 e k2 k3
theorem vsift_L0 {lo hi a2 : Int} (h0 : 0 ≤ a2) (h1 : a2 + hi ≤ n) (hn : n ≤ 900) {v0 : List Int} (hlo : 0 ≤ lo) : ∀ (f : Nat) (v : List Int) (r : Int), v.length = n → Pr a2 (a2 + hi) v0 v → lo ≤ r → r ≤ 900 → (∀ k d, lo ≤ k → k ≠ r → Ch k d → d < hi → gv v (a2 + d) ≤ gv v (a2 + k)) → (∀ k d, lo ≤ k → Ch k r → Ch r d → d < hi → gv v (a2 + d) ≤ gv v (a2 + k)) → (hi - r).toNat < f → Tot (slices_siftDownOrdered_int_h_L0 hi a2 f v r) (fun w => Pr a2 (a2 + hi) v0 w ∧ Hp lo hi a2 w)
  | 0, _, _, _, _, _, _, _, _, h => absurd h (by omega)
  | f + 1, v, r, hv, hp, hr0, hr1, g1, g2, hf => by
    rw [slices_siftDownOrdered_int_h_L0]
    repeat' (first | (with_reducible refine tv_gix ?_ ?_ ?_; omega; omega) | (with_reducible refine tv_get ?_ ?_ ?_; omega; omega) | (with_reducible refine tot_w ?_ ?_ ?_; omega; omega) | (with_reducible refine tv_swap ?_ ?_ ?_ ?_ (fun w hw => ?_); omega; omega; omega; omega) | (with_reducible refine tv_less (fun _ => ?_) (fun _ => ?_)) | (with_reducible refine tot_gt ?_) | (with_reducible refine tot_gf ?_) | (with_reducible refine tot_bt ?_) | (with_reducible refine tot_bf ?_) | (with_reducible refine tot_nt ?_) | (with_reducible refine tot_nf ?_) | (with_reducible refine tot_tt ?_) | (with_reducible refine tot_tf ?_) | (with_reducible refine tot_tn ?_) | (with_reducible refine tot_tnf ?_) | (with_reducible refine tot_f ?_) | (with_reducible refine tot_dec (fun _ => ?_) (fun _ => ?_)) | (with_reducible refine tot_q ?_ ?_ ?_ ?_; omega; omega; decide) | (with_reducible refine tot_s ?_; assumption))
    · refine tot_s ⟨hp, fun k d k1 k2 k3 => ?_⟩
      by_cases e : k = r
      · rw [e] at k2; unfold Ch at k2; omega
      · exact g1 k d k1 e k2 k3
    · rename_i hh h2 hlt
      refine vsift_J (lo := lo) h0 h1 hn hv hp ⟨hlo, hr0⟩ (by omega) (by unfold Ch; omega) (by omega) (fun d d1 d2 => ?_) g1 g2 (fun q => ⟨hp, q⟩) (fun w w1 w2 w3 w4 => vsift_L0 h0 h1 hn hlo f w _ w1 w2 (by omega) (by omega) w3 w4 (by omega))
      unfold Ch at d1
      rcases d1 with e | e
      · rw [e, show a2 + (2 * r + 1 + 1) = a2 + (2 * r + 1) + 1 by omega]; omega
      · rw [e, show 2 * r + 2 = 2 * r + 1 + 1 by omega]; omega
    · rename_i hh h2 hlt
      refine vsift_J (lo := lo) h0 h1 hn hv hp ⟨hlo, hr0⟩ (by omega) (by unfold Ch; omega) (by omega) (fun d d1 d2 => ?_) g1 g2 (fun q => ⟨hp, q⟩) (fun w w1 w2 w3 w4 => vsift_L0 h0 h1 hn hlo f w _ w1 w2 (by omega) (by omega) w3 w4 (by omega))
      unfold Ch at d1
      rcases d1 with e | e
      · rw [e]; omega
      · rw [e, show a2 + (2 * r + 2) = a2 + (2 * r + 1) + 1 by omega]; omega
    · rename_i hh h2
      refine vsift_J (lo := lo) h0 h1 hn hv hp ⟨hlo, hr0⟩ (by omega) (by unfold Ch; omega) (by omega) (fun d d1 d2 => ?_) g1 g2 (fun q => ⟨hp, q⟩) (fun w w1 w2 w3 w4 => vsift_L0 h0 h1 hn hlo f w _ w1 w2 (by omega) (by omega) w3 w4 (by omega))
      unfold Ch at d1
      rcases d1 with e | e
      · rw [e]; omega
      · omega
theorem vsift_t {lo hi a2 : Int} {v : List Int} (hv : v.length = n) (hl : 0 ≤ lo ∧ lo ≤ 900) (h0 : 0 ≤ a2) (h1 : a2 + hi ≤ n) (hn : n ≤ 900) (hh : Hp (lo + 1) hi a2 v) : Tot (slices_siftDownOrdered_int_h lo hi a2 v) (fun w => Pr a2 (a2 + hi) v w ∧ Hp lo hi a2 w) := by
  unfold slices_siftDownOrdered_int_h
  refine vsift_L0 h0 h1 hn hl.1 fuel v lo hv pr_refl (by omega) (by omega) (fun k d k1 k2 k3 k4 => hh k d (by omega) k3 k4) (fun k d k1 k2 => ?_) (fuel_gt (by omega))
  unfold Ch at k2; omega
theorem vheap_L1 {a b : Int} (ha : 0 ≤ a) (hb : b ≤ n) (hn : n ≤ 900) {v0 : List Int} : ∀ (f : Nat) (v : List Int) (i : Int), v.length = n → Pr a b v0 v → -1 ≤ i → a + i < b → Hp 0 (i + 1) a v → (∀ p q, a ≤ p → p ≤ a + i → a + i < q → q < b → gv v p ≤ gv v q) → Sd (a + i + 1) b v → (i + 1).toNat < f → Tot (slices_heapSortOrdered_int_h_L1 a f v i) (fun w => Pr a b v0 w ∧ Sd a b w)
  | 0, _, _, _, _, _, _, _, _, _, h => absurd h (by omega)
  | f + 1, v, i, hv, hp, h0, h1, hh, hle, hsd, hf => by
    rw [slices_heapSortOrdered_int_h_L1]
    repeat' (first | (with_reducible refine tv_gix ?_ ?_ ?_; omega; omega) | (with_reducible refine tv_get ?_ ?_ ?_; omega; omega) | (with_reducible refine tot_w ?_ ?_ ?_; omega; omega) | (with_reducible refine tv_swap ?_ ?_ ?_ ?_ (fun w hw => ?_); omega; omega; omega; omega) | (with_reducible refine tv_less (fun _ => ?_) (fun _ => ?_)) | (with_reducible refine tot_gt ?_) | (with_reducible refine tot_gf ?_) | (with_reducible refine tot_bt ?_) | (with_reducible refine tot_bf ?_) | (with_reducible refine tot_nt ?_) | (with_reducible refine tot_nf ?_) | (with_reducible refine tot_tt ?_) | (with_reducible refine tot_tf ?_) | (with_reducible refine tot_tn ?_) | (with_reducible refine tot_tnf ?_) | (with_reducible refine tot_f ?_) | (with_reducible refine tot_dec (fun _ => ?_) (fun _ => ?_)) | (with_reducible refine tot_q ?_ ?_ ?_ ?_; omega; omega; decide) | (with_reducible refine tot_s ?_; assumption))
    · rename_i hi
      have hwl : w.length = n := by rw [hw.len, hv]
      have ho : ∀ k, 0 ≤ k → k ≠ 0 → k ≠ i → gv w (a + k) = gv v (a + k) := fun k k0 k1 k2 => hw.at_o _ (by omega) (by omega) (by omega)
      refine tot_o (vsift_t (lo := 0) (hi := i) hwl (by omega) ha (by omega) hn (fun k c k1 k2 k3 => ?_)) (fun x hx => ?_)
      · have k2' := k2
        unfold Ch at k2'
        rw [ho c (by omega) (by omega) (by omega), ho k (by omega) (by omega) (by omega)]
        exact hh k c (by omega) k2 (by omega)
      · obtain ⟨x1, x2⟩ := hx
        have hxl : x.length = n := by rw [x1.len, hwl]
        have hmax := heap_max hh
        refine tot_chk (by rw [hxl, hv]) ?_
        refine tot_w (by omega) (by omega) ?_
        have hpw := pr_sw hw ha (b := b) (by omega) (by omega)
        have hxi : gv x (a + i) = gv v (a + 0) := by
          rw [x1.out (a + i) (by omega) (by omega), hw.at_j, Int.add_zero]
        have hxo : ∀ q, a + i < q → q < b → gv x q = gv v q := fun q q1 q2 => by
          rw [x1.out q (by omega) (by omega), hw.at_o q (by omega) (by omega) (by omega)]
        have hxp : ∀ p, a ≤ p → p < a + i → ∃ k, 0 ≤ k ∧ k ≤ i ∧ gv x p = gv v (a + k) := fun p p1 p2 => by
          obtain ⟨j, j1, j2, e⟩ := x1.inn p p1 p2
          by_cases e2 : j = a
          · exact ⟨i, by omega, by omega, by rw [e, e2, hw.at_i]⟩
          · exact ⟨j - a, by omega, by omega, by rw [e, hw.at_o j (by omega) e2 (by omega)]; congr 1; omega⟩
        refine vheap_L1 ha hb hn f x (i - 1) hxl (pr_trans hp (pr_trans hpw (pr_mono x1 ha (by omega) (by omega)))) (by omega) (by omega) (by rw [show i - 1 + 1 = i by omega]; exact x2) (fun p q p1 p2 q1 q2 => ?_) (fun p q p1 p2 p3 => ?_) (by omega)
        · obtain ⟨k, k1, k2, e⟩ := hxp p p1 (by omega)
          rw [e]
          by_cases e2 : q = a + i
          · rw [e2, hxi]
            exact hmax (i + 1).toNat k k1 (by omega) (by omega)
          · rw [hxo q (by omega) q2]
            exact hle (a + k) q (by omega) (by omega) (by omega) q2
        · by_cases e2 : p = a + i
          · rw [e2, hxi, hxo q (by omega) p3]
            exact hle (a + 0) q (by omega) (by omega) (by omega) p3
          · rw [hxo p (by omega) (by omega), hxo q (by omega) p3]
            exact hsd p q (by omega) p2 p3
    · exact tot_s ⟨hp, fun p q k1 k2 k3 => hsd p q (by omega) k2 k3⟩
theorem vheap_L0 {a b : Int} (ha : 0 ≤ a) (hb : b ≤ n) (hab : a < b) (hn : n ≤ 900) {v0 : List Int} : ∀ (f : Nat) (v : List Int) (i : Int), v.length = n → Pr a b v0 v → -1 ≤ i → i ≤ 900 → Hp (i + 1) (b - a) a v → (i + 1).toNat < f → Tot (slices_heapSortOrdered_int_h_L0 a (b - a) f v i) (fun w => Pr a b v0 w ∧ Sd a b w)
  | 0, _, _, _, _, _, _, _, h => absurd h (by omega)
  | f + 1, v, i, hv, hp, h0, h1, hh, hf => by
    rw [slices_heapSortOrdered_int_h_L0]
    repeat' (first | (with_reducible refine tv_gix ?_ ?_ ?_; omega; omega) | (with_reducible refine tv_get ?_ ?_ ?_; omega; omega) | (with_reducible refine tot_w ?_ ?_ ?_; omega; omega) | (with_reducible refine tv_swap ?_ ?_ ?_ ?_ (fun w hw => ?_); omega; omega; omega; omega) | (with_reducible refine tv_less (fun _ => ?_) (fun _ => ?_)) | (with_reducible refine tot_gt ?_) | (with_reducible refine tot_gf ?_) | (with_reducible refine tot_bt ?_) | (with_reducible refine tot_bf ?_) | (with_reducible refine tot_nt ?_) | (with_reducible refine tot_nf ?_) | (with_reducible refine tot_tt ?_) | (with_reducible refine tot_tf ?_) | (with_reducible refine tot_tn ?_) | (with_reducible refine tot_tnf ?_) | (with_reducible refine tot_f ?_) | (with_reducible refine tot_dec (fun _ => ?_) (fun _ => ?_)) | (with_reducible refine tot_q ?_ ?_ ?_ ?_; omega; omega; decide) | (with_reducible refine tot_s ?_; assumption))
    · refine tot_o (vsift_t (lo := i) (hi := b - a) hv (by omega) ha (by omega) hn hh) (fun x hx => ?_)
      obtain ⟨x1, x2⟩ := hx
      have hxl : x.length = n := by rw [x1.len, hv]
      refine tot_chk (by rw [hxl, hv]) ?_
      refine tot_w (by omega) (by omega) ?_
      rw [show a + (b - a) = b by omega] at x1
      exact vheap_L0 ha hb hab hn f x (i - 1) hxl (pr_trans hp x1) (by omega) (by omega) (by rw [show i - 1 + 1 = i by omega]; exact x2) (by omega)
    · have e : i + 1 = 0 := by omega
      rw [e] at hh
      exact vheap_L1 ha hb hn fuel v _ hv hp (by omega) (by omega) (by rw [show b - a - 1 + 1 = b - a by omega]; exact hh) (fun p q p1 p2 q1 q2 => by omega) (fun p q p1 p2 p3 => by omega) (fuel_gt (by omega))
theorem vheap_t {a b : Int} {v : List Int} (hv : v.length = n) (ha : 0 ≤ a) (hab : a < b) (hb : b ≤ n) (hn : n ≤ 900) : Tot (slices_heapSortOrdered_int_h a b v) (fun w => Pr a b v w ∧ Sd a b w) := by
  unfold slices_heapSortOrdered_int_h
  repeat' (first | (with_reducible refine tv_gix ?_ ?_ ?_; omega; omega) | (with_reducible refine tv_get ?_ ?_ ?_; omega; omega) | (with_reducible refine tot_w ?_ ?_ ?_; omega; omega) | (with_reducible refine tv_swap ?_ ?_ ?_ ?_ (fun w hw => ?_); omega; omega; omega; omega) | (with_reducible refine tv_less (fun _ => ?_) (fun _ => ?_)) | (with_reducible refine tot_gt ?_) | (with_reducible refine tot_gf ?_) | (with_reducible refine tot_bt ?_) | (with_reducible refine tot_bf ?_) | (with_reducible refine tot_nt ?_) | (with_reducible refine tot_nf ?_) | (with_reducible refine tot_tt ?_) | (with_reducible refine tot_tf ?_) | (with_reducible refine tot_tn ?_) | (with_reducible refine tot_tnf ?_) | (with_reducible refine tot_f ?_) | (with_reducible refine tot_dec (fun _ => ?_) (fun _ => ?_)) | (with_reducible refine tot_q ?_ ?_ ?_ ?_; omega; omega; decide) | (with_reducible refine tot_s ?_; assumption))
  refine vheap_L0 ha hb hab hn fuel v _ hv pr_refl (by omega) (by omega) (fun k c k1 k2 k3 => ?_) (fuel_gt (by omega))
  unfold Ch at k2
  omega
end
end Go.Fn
set_option linter.unusedSimpArgs false
set_option linter.unusedVariables false
open Go Go.IL
namespace Go.Fn
/-! Sorting sorts: pdqsort of at most 24 numbers that are unlike. -/
theorem nd_gv {v : List Int} (h : v.Nodup) {i j : Int} (h0 : 0 ≤ i) (h1 : i < j) (h2 : j < v.length) : gv v i ≠ gv v j := by
  have e1 := gv_get (v := v) (i := i) (by omega)
  have e2 := gv_get (v := v) (i := j) (by omega)
  intro e
  have h3 : i.toNat < v.length := by omega
  have h4 : j.toNat < v.length := by omega
  rw [List.getElem?_eq_getElem h3] at e1
  rw [List.getElem?_eq_getElem h4] at e2
  have e3 : v[i.toNat] = v[j.toNat] := by rw [Option.some.inj e1, Option.some.inj e2, e]
  have := (List.getElem_inj h).1 e3
  omega
theorem pr_nd {a b : Int} {v w : List Int} (h : Pr a b v w) (hn : v.Nodup) : w.Nodup := (h.pm.nodup_iff).2 hn
section
variable {n : Nat}
theorem vpin_L0 {a b : Int} {v : List Int} (hv : v.length = n) (ha : 0 ≤ a) (hb : b ≤ n) (hs : b - a < 50) (hn : n ≤ 900) : ∀ (f : Nat) (i : Int), i = a + 1 → i ≤ b → 0 < f → Tot (slices_partialInsertionSortOrdered_int_h_L0 a b f v i 0) (fun r => r.2 = v ∧ (r.1 = true → Sd a b v))
  | 0, _, _, _, h => absurd h (by omega)
  | f + 1, i, h0, h1, _ => by
    rw [slices_partialInsertionSortOrdered_int_h_L0]
    repeat' (first | (with_reducible refine tv_gix ?_ ?_ ?_; omega; omega) | (with_reducible refine tv_get ?_ ?_ ?_; omega; omega) | (with_reducible refine tot_w ?_ ?_ ?_; omega; omega) | (with_reducible refine tv_swap ?_ ?_ ?_ ?_ (fun w hw => ?_); omega; omega; omega; omega) | (with_reducible refine tv_less (fun _ => ?_) (fun _ => ?_)) | (with_reducible refine tot_gt ?_) | (with_reducible refine tot_gf ?_) | (with_reducible refine tot_bt ?_) | (with_reducible refine tot_bf ?_) | (with_reducible refine tot_nt ?_) | (with_reducible refine tot_nf ?_) | (with_reducible refine tot_tt ?_) | (with_reducible refine tot_tf ?_) | (with_reducible refine tot_tn ?_) | (with_reducible refine tot_tnf ?_) | (with_reducible refine tot_f ?_) | (with_reducible refine tot_dec (fun _ => ?_) (fun _ => ?_)) | (with_reducible refine tot_q ?_ ?_ ?_ ?_; omega; omega; decide) | (with_reducible refine tot_s ?_; assumption))
    · exact vpin_L1 hv ⟨rfl, fun h => by cases h⟩ (fun h => ⟨rfl, fun _ => h⟩) ha hb hs hn fuel i (by omega) h1 (fun p q k1 k2 k3 => by omega) (fuel_gt (by omega))
    · rename_i h5
      exact absurd (by decide) h5
theorem vpin_t {a b : Int} {v : List Int} (hv : v.length = n) (ha : 0 ≤ a) (hab : a < b) (hb : b ≤ n) (hs : b - a < 50) (hn : n ≤ 900) : Tot (slices_partialInsertionSortOrdered_int_h a b v) (fun r => r.2 = v ∧ (r.1 = true → Sd a b v)) := by
  unfold slices_partialInsertionSortOrdered_int_h
  repeat' (first | (with_reducible refine tv_gix ?_ ?_ ?_; omega; omega) | (with_reducible refine tv_get ?_ ?_ ?_; omega; omega) | (with_reducible refine tot_w ?_ ?_ ?_; omega; omega) | (with_reducible refine tv_swap ?_ ?_ ?_ ?_ (fun w hw => ?_); omega; omega; omega; omega) | (with_reducible refine tv_less (fun _ => ?_) (fun _ => ?_)) | (with_reducible refine tot_gt ?_) | (with_reducible refine tot_gf ?_) | (with_reducible refine tot_bt ?_) | (with_reducible refine tot_bf ?_) | (with_reducible refine tot_nt ?_) | (with_reducible refine tot_nf ?_) | (with_reducible refine tot_tt ?_) | (with_reducible refine tot_tf ?_) | (with_reducible refine tot_tn ?_) | (with_reducible refine tot_tnf ?_) | (with_reducible refine tot_f ?_) | (with_reducible refine tot_dec (fun _ => ?_) (fun _ => ?_)) | (with_reducible refine tot_q ?_ ?_ ?_ ?_; omega; omega; decide) | (with_reducible refine tot_s ?_; assumption))
  exact vpin_L0 hv ha hb hs hn fuel _ rfl (by omega) (fuel_gt (by omega))
end
/-- What stands ahead is at most what is between two places. -/
def Bd (a b : Int) (v : List Int) : Prop := ∀ q, 0 < a → a ≤ q → q < b → gv v (a - 1) ≤ gv v q
theorem bd_pr {a b : Int} {v w : List Int} (h : Bd a b v) (hp : Pr a b v w) : Bd a b w := fun q h0 h1 h2 => by
  obtain ⟨j, j1, j2, e⟩ := hp.inn q h1 h2
  rw [hp.out (a - 1) (by omega) (by omega), e]
  exact h j h0 j1 j2
structure SS (n : Nat) (a b : Int) (v : List Int) : Prop where
  len : v.length = n
  nd : v.Nodup
  bd : Bd a b v
theorem ss_pr {n : Nat} {a b : Int} {v w : List Int} (h : SS n a b v) (hp : Pr a b v w) : SS n a b w := ⟨by rw [hp.len, h.len], pr_nd hp h.nd, bd_pr h.bd hp⟩
def Qs (a b : Int) (v w : List Int) : Prop := Pr a b v w ∧ Sd a b w
theorem qz_pr {a b : Int} {u v w : List Int} (h : Pr a b u v) (k : Qs a b v w) : Qs a b u w := ⟨pr_trans h k.1, k.2⟩
/-- Both sides of a place are sorted. -/
theorem qz_join {a b m : Int} {v u z : List Int} (ha : 0 ≤ a) (h1 : a ≤ m) (h2 : m < b) (hp : Pr a b v u) (hle : ∀ k, a ≤ k → k < m → gv u k ≤ gv u m) (hge : ∀ k, m < k → k < b → gv u m ≤ gv u k) (hz : Pr a b u z) (hm : gv z m = gv u m) (hl : ∀ p, a ≤ p → p < m → ∃ j, a ≤ j ∧ j < m ∧ gv z p = gv u j) (hr : ∀ p, m < p → p < b → ∃ j, m < j ∧ j < b ∧ gv z p = gv u j) (s1 : Sd a m z) (s2 : Sd (m + 1) b z) : Qs a b v z := by
  refine ⟨pr_trans hp hz, fun p q k1 k2 k3 => ?_⟩
  have hlo : ∀ p, a ≤ p → p < m → gv z p ≤ gv u m := fun p p1 p2 => by
    obtain ⟨j, j1, j2, e⟩ := hl p p1 p2
    rw [e]; exact hle j j1 j2
  have hhi : ∀ p, m < p → p < b → gv u m ≤ gv z p := fun p p1 p2 => by
    obtain ⟨j, j1, j2, e⟩ := hr p p1 p2
    rw [e]; exact hge j j1 j2
  by_cases c1 : q < m
  · exact s1 p q k1 k2 c1
  · by_cases c2 : m < p
    · exact s2 p q (by omega) k2 k3
    · by_cases c3 : p = m
      · rw [c3, hm]; exact hhi q (by omega) k3
      · by_cases c4 : q = m
        · rw [c4, hm]; exact hlo p k1 (by omega)
        · have := hlo p k1 (by omega)
          have := hhi q (by omega) k3
          omega
theorem qz_lo {a b m : Int} {v u w z : List Int} {c : Bool} (ha : 0 ≤ a) (h : PaQ a b v (m, c, u)) (h1 : Qs a m u w) (h2 : Qs (m + 1) b w z) : Qs a b v z := by
  have l1 : a ≤ m := h.lo
  have l2 : m < b := h.hi
  have hp : Pr a b v u := h.pr
  refine qz_join ha l1 l2 hp h.le h.ge (pr_trans (pr_mono h1.1 ha (by omega) (by omega)) (pr_mono h2.1 ha (by omega) (by omega))) ?_ (fun p p1 p2 => ?_) (fun p p1 p2 => ?_) (fun p q p1 p2 p3 => ?_) h2.2
  · rw [h2.1.out m (by omega) (by omega), h1.1.out m (by omega) (by omega)]
  · rw [h2.1.out p (by omega) (by omega)]; exact h1.1.inn p p1 p2
  · obtain ⟨j, j1, j2, e⟩ := h2.1.inn p (by omega) p2
    exact ⟨j, by omega, j2, by rw [e, h1.1.out j (by omega) (by omega)]⟩
  · rw [h2.1.out p (by omega) (by omega), h2.1.out q (by omega) (by omega)]
    exact h1.2 p q p1 p2 p3
theorem qz_hi {a b m : Int} {v u w z : List Int} {c : Bool} (ha : 0 ≤ a) (h : PaQ a b v (m, c, u)) (h1 : Qs (m + 1) b u w) (h2 : Qs a m w z) : Qs a b v z := by
  have l1 : a ≤ m := h.lo
  have l2 : m < b := h.hi
  have hp : Pr a b v u := h.pr
  refine qz_join ha l1 l2 hp h.le h.ge (pr_trans (pr_mono h1.1 ha (by omega) (by omega)) (pr_mono h2.1 ha (by omega) (by omega))) ?_ (fun p p1 p2 => ?_) (fun p p1 p2 => ?_) h2.2 (fun p q p1 p2 p3 => ?_)
  · rw [h2.1.out m (by omega) (by omega), h1.1.out m (by omega) (by omega)]
  · obtain ⟨j, j1, j2, e⟩ := h2.1.inn p (by omega) p2
    exact ⟨j, by omega, j2, by rw [e, h1.1.out j (by omega) (by omega)]⟩
  · rw [h2.1.out p (by omega) (by omega)]
    obtain ⟨j, j1, j2, e⟩ := h1.1.inn p (by omega) p2
    exact ⟨j, by omega, j2, e⟩
  · rw [h2.1.out p (by omega) (by omega), h2.1.out q (by omega) (by omega)]
    exact h1.2 p q p1 p2 p3
/-- A call of itself for less. -/
def Rec2 (n : Nat) (rec0 : Int → Int → Int → List Int → Option (List Int)) (k : Int) : Prop := ∀ (a b lim : Int) (v : List Int), SS n a b v → 0 ≤ a → a ≤ b → b ≤ n → b - a < k → 0 ≤ lim → lim ≤ 100 → Tot (rec0 a b lim v) (Qs a b v)
section
variable {n : Nat} {rec0 : Int → Int → Int → List Int → Option (List Int)} {kk : List Int → Int → Int → Int → Bool → Bool → Option (List Int)} {a b lim : Int} {c d : Bool}
theorem vpdq_J3 (hr : Rec2 n rec0 (b - a)) (ha : 0 ≤ a) (hab : a < b) (hb : b ≤ n) (hn : n ≤ 24) (hl : 0 ≤ lim ∧ lim ≤ 100) (hk : ∀ (v : List Int) (a' b' : Int) (c d : Bool), SS n a' b' v → 0 ≤ a' → a' ≤ b' → b' ≤ n → b' - a' < b - a → Tot (kk v a' b' lim c d) (Qs a' b' v)) {p : Int} (hp : a ≤ p ∧ p < b) {v : List Int} (hv : SS n a b v) : Tot (slices_pdqsortOrdered_int_h_J3 rec0 a b c d kk (b - a) lim p v) (Qs a b v) := by
  have hvl := hv.len
  have hpar : Tot (bno (slices_partitionOrdered_int_h a b p v) fun x208 =>
    chk (x208.2.2.length = v.length) <|
    bnd (IntKind.wrap .i64 (x208.1 - a)) fun x210 =>
    bnd (IntKind.wrap .i64 (b - x208.1)) fun x211 =>
    bno (quoI .i64 (b - a) 8) fun x212 =>
    bnd (decide (x210 < x211)) fun x213 =>
    bif x213 then (
      bnd (decide (x212 ≤ x210)) fun x215 =>
      bno (rec0 a x208.1 lim x208.2.2) fun x216 =>
      chk (x216.length = v.length) <|
      bnd (IntKind.wrap .i64 (x208.1 + 1)) fun x218 =>
      kk x216 x218 b lim x215 x208.2.1
    ) else (
      bnd (decide (x212 ≤ x211)) fun x219 =>
      bnd (IntKind.wrap .i64 (x208.1 + 1)) fun x220 =>
      bno (rec0 x220 b lim x208.2.2) fun x221 =>
      chk (x221.length = v.length) <|
      kk x221 a x208.1 lim x219 x208.2.1
    )) (Qs a b v) := by
    refine tot_o (vpar_t hv.len ha hab hp hb (by omega)) (fun x hx => ?_)
    obtain ⟨m, q, w⟩ := x
    have h1 : a ≤ m := hx.lo
    have h2 : m < b := hx.hi
    have hpw : Pr a b v w := hx.pr
    have hle : ∀ k, a ≤ k → k < m → gv w k ≤ gv w m := hx.le
    have hge : ∀ k, m < k → k < b → gv w m ≤ gv w k := hx.ge
    have hs : SS n a b w := ss_pr hv hpw
    simp only
    refine tot_chk hpw.len ?_
    repeat' (first | (with_reducible refine tv_gix ?_ ?_ ?_; omega; omega) | (with_reducible refine tv_get ?_ ?_ ?_; omega; omega) | (with_reducible refine tot_w ?_ ?_ ?_; omega; omega) | (with_reducible refine tv_swap ?_ ?_ ?_ ?_ (fun w hw => ?_); omega; omega; omega; omega) | (with_reducible refine tv_less (fun _ => ?_) (fun _ => ?_)) | (with_reducible refine tot_gt ?_) | (with_reducible refine tot_gf ?_) | (with_reducible refine tot_bt ?_) | (with_reducible refine tot_bf ?_) | (with_reducible refine tot_nt ?_) | (with_reducible refine tot_nf ?_) | (with_reducible refine tot_tt ?_) | (with_reducible refine tot_tf ?_) | (with_reducible refine tot_tn ?_) | (with_reducible refine tot_tnf ?_) | (with_reducible refine tot_f ?_) | (with_reducible refine tot_dec (fun _ => ?_) (fun _ => ?_)) | (with_reducible refine tot_q ?_ ?_ ?_ ?_; omega; omega; decide) | (with_reducible refine tot_s ?_; assumption))
    any_goals (
      refine tot_o (hr a m lim w ⟨hs.len, hs.nd, fun q q0 q1 q2 => hs.bd q q0 q1 (by omega)⟩ ha h1 (by omega) (by omega) hl.1 hl.2) (fun u hu => ?_)
      have hul := hu.1.len
      refine tot_chk (by rw [hul, hpw.len]) ?_
      repeat' (first | (with_reducible refine tv_gix ?_ ?_ ?_; omega; omega) | (with_reducible refine tv_get ?_ ?_ ?_; omega; omega) | (with_reducible refine tot_w ?_ ?_ ?_; omega; omega) | (with_reducible refine tv_swap ?_ ?_ ?_ ?_ (fun w hw => ?_); omega; omega; omega; omega) | (with_reducible refine tv_less (fun _ => ?_) (fun _ => ?_)) | (with_reducible refine tot_gt ?_) | (with_reducible refine tot_gf ?_) | (with_reducible refine tot_bt ?_) | (with_reducible refine tot_bf ?_) | (with_reducible refine tot_nt ?_) | (with_reducible refine tot_nf ?_) | (with_reducible refine tot_tt ?_) | (with_reducible refine tot_tf ?_) | (with_reducible refine tot_tn ?_) | (with_reducible refine tot_tnf ?_) | (with_reducible refine tot_f ?_) | (with_reducible refine tot_dec (fun _ => ?_) (fun _ => ?_)) | (with_reducible refine tot_q ?_ ?_ ?_ ?_; omega; omega; decide) | (with_reducible refine tot_s ?_; assumption))
      refine tot_mono (hk u _ _ _ _ ⟨by rw [hul, hs.len], pr_nd hu.1 hs.nd, fun q q0 q1 q2 => ?_⟩ (by omega) (by omega) hb (by omega)) (fun z hz => qz_lo ha hx hu hz)
      rw [Int.add_sub_cancel, hu.1.out m (by omega) (by omega), hu.1.out q (by omega) (by omega)]
      exact hge q (by omega) q2)
    any_goals (
      refine tot_o (hr (m + 1) b lim w ⟨hs.len, hs.nd, fun q q0 q1 q2 => ?_⟩ (by omega) (by omega) hb (by omega) hl.1 hl.2) (fun u hu => ?_)
      · rw [Int.add_sub_cancel]; exact hge q (by omega) q2
      have hul := hu.1.len
      refine tot_chk (by rw [hul, hpw.len]) ?_
      refine tot_mono (hk u _ _ _ _ ⟨by rw [hul, hs.len], pr_nd hu.1 hs.nd, fun q q0 q1 q2 => ?_⟩ (by omega) (by omega) (by omega) (by omega)) (fun z hz => qz_hi ha hx hu hz)
      rw [hu.1.out (a - 1) (by omega) (by omega), hu.1.out q (by omega) (by omega)]
      exact hs.bd q q0 q1 (by omega))
  unfold slices_pdqsortOrdered_int_h_J3
  repeat' (first | (with_reducible refine tv_gix ?_ ?_ ?_; omega; omega) | (with_reducible refine tv_get ?_ ?_ ?_; omega; omega) | (with_reducible refine tot_w ?_ ?_ ?_; omega; omega) | (with_reducible refine tv_swap ?_ ?_ ?_ ?_ (fun w hw => ?_); omega; omega; omega; omega) | (with_reducible refine tv_less (fun _ => ?_) (fun _ => ?_)) | (with_reducible refine tot_gt ?_) | (with_reducible refine tot_gf ?_) | (with_reducible refine tot_bt ?_) | (with_reducible refine tot_bf ?_) | (with_reducible refine tot_nt ?_) | (with_reducible refine tot_nf ?_) | (with_reducible refine tot_tt ?_) | (with_reducible refine tot_tf ?_) | (with_reducible refine tot_tn ?_) | (with_reducible refine tot_tnf ?_) | (with_reducible refine tot_f ?_) | (with_reducible refine tot_dec (fun _ => ?_) (fun _ => ?_)) | (with_reducible refine tot_q ?_ ?_ ?_ ?_; omega; omega; decide) | (with_reducible refine tot_s ?_; assumption))
  · exact hpar
  · rename_i h0 hnl
    have := hv.bd p (by omega) hp.1 hp.2
    exact absurd (Int.le_antisymm this (by omega)) (nd_gv hv.nd (by omega) (by omega) (by omega))
  · exact hpar
theorem vpdq_J2 (hr : Rec2 n rec0 (b - a)) (ha : 0 ≤ a) (hab : a < b) (hb : b ≤ n) (hn : n ≤ 24) (hl : 0 ≤ lim ∧ lim ≤ 100) (hk : ∀ (v : List Int) (a' b' : Int) (c d : Bool), SS n a' b' v → 0 ≤ a' → a' ≤ b' → b' ≤ n → b' - a' < b - a → Tot (kk v a' b' lim c d) (Qs a' b' v)) {p h : Int} (hp : a ≤ p ∧ p < b) {v : List Int} (hv : SS n a b v) : Tot (slices_pdqsortOrdered_int_h_J2 rec0 a b c d kk (b - a) lim v p h) (Qs a b v) := by
  unfold slices_pdqsortOrdered_int_h_J2
  refine tot_b (tot_b (tot_b ?_))
  cases (c && d && decide (h = 1))
  · rw [bif_ff]; exact vpdq_J3 hr ha hab hb hn hl hk hp hv
  · rw [bif_tt]
    refine tot_o (vpin_t hv.len ha hab hb (by omega) (by omega)) (fun x hx => ?_)
    obtain ⟨x1, x2⟩ := x
    obtain ⟨e, hx⟩ := hx
    have e : x2 = v := e
    subst e
    refine tot_chk rfl ?_
    cases x1
    · show Tot (bif false then _ else _) _
      rw [bif_ff]; exact vpdq_J3 hr ha hab hb hn hl hk hp hv
    · show Tot (bif true then _ else _) _
      rw [bif_tt]; exact tot_s ⟨pr_refl, hx rfl⟩
theorem vpdq_J1 (hr : Rec2 n rec0 (b - a)) (ha : 0 ≤ a) (hab : a < b) (hb : b ≤ n) (hn : n ≤ 24) (hl : 0 ≤ lim ∧ lim ≤ 100) (hk : ∀ (v : List Int) (a' b' : Int) (c d : Bool), SS n a' b' v → 0 ≤ a' → a' ≤ b' → b' ≤ n → b' - a' < b - a → Tot (kk v a' b' lim c d) (Qs a' b' v)) {v : List Int} (hv : SS n a b v) : Tot (slices_pdqsortOrdered_int_h_J1 rec0 a b c d kk (b - a) v lim) (Qs a b v) := by
  unfold slices_pdqsortOrdered_int_h_J1
  have hvl := hv.len
  refine tot_o (piv_t (M := v) ⟨hv.len, fun _ h => h⟩ ha hab hb (by omega) (by omega)) (fun x hx => ?_)
  repeat' (first | (with_reducible refine tv_gix ?_ ?_ ?_; omega; omega) | (with_reducible refine tv_get ?_ ?_ ?_; omega; omega) | (with_reducible refine tot_w ?_ ?_ ?_; omega; omega) | (with_reducible refine tv_swap ?_ ?_ ?_ ?_ (fun w hw => ?_); omega; omega; omega; omega) | (with_reducible refine tv_less (fun _ => ?_) (fun _ => ?_)) | (with_reducible refine tot_gt ?_) | (with_reducible refine tot_gf ?_) | (with_reducible refine tot_bt ?_) | (with_reducible refine tot_bf ?_) | (with_reducible refine tot_nt ?_) | (with_reducible refine tot_nf ?_) | (with_reducible refine tot_tt ?_) | (with_reducible refine tot_tf ?_) | (with_reducible refine tot_tn ?_) | (with_reducible refine tot_tnf ?_) | (with_reducible refine tot_f ?_) | (with_reducible refine tot_dec (fun _ => ?_) (fun _ => ?_)) | (with_reducible refine tot_q ?_ ?_ ?_ ?_; omega; omega; decide) | (with_reducible refine tot_s ?_; assumption))
  · refine tot_o (vrev_t hv.len ha (by omega) hb (by omega)) (fun u hu => ?_)
    refine tot_chk hu.len ?_
    repeat' (first | (with_reducible refine tv_gix ?_ ?_ ?_; omega; omega) | (with_reducible refine tv_get ?_ ?_ ?_; omega; omega) | (with_reducible refine tot_w ?_ ?_ ?_; omega; omega) | (with_reducible refine tv_swap ?_ ?_ ?_ ?_ (fun w hw => ?_); omega; omega; omega; omega) | (with_reducible refine tv_less (fun _ => ?_) (fun _ => ?_)) | (with_reducible refine tot_gt ?_) | (with_reducible refine tot_gf ?_) | (with_reducible refine tot_bt ?_) | (with_reducible refine tot_bf ?_) | (with_reducible refine tot_nt ?_) | (with_reducible refine tot_nf ?_) | (with_reducible refine tot_tt ?_) | (with_reducible refine tot_tf ?_) | (with_reducible refine tot_tn ?_) | (with_reducible refine tot_tnf ?_) | (with_reducible refine tot_f ?_) | (with_reducible refine tot_dec (fun _ => ?_) (fun _ => ?_)) | (with_reducible refine tot_q ?_ ?_ ?_ ?_; omega; omega; decide) | (with_reducible refine tot_s ?_; assumption))
    exact tot_mono (vpdq_J2 hr ha hab hb hn hl hk (by omega) (ss_pr hv hu)) (fun z hz => qz_pr hu hz)
  · exact vpdq_J2 hr ha hab hb hn hl hk hx hv
end
section
variable {n : Nat} {rec0 : Int → Int → Int → List Int → Option (List Int)}
theorem vpdq_L0 (hn : n ≤ 24) : ∀ (f : Nat) (v : List Int) (a b lim : Int) (c d : Bool), Rec2 n rec0 (b - a) → SS n a b v → 0 ≤ a → a ≤ b → b ≤ n → 0 ≤ lim → lim ≤ 100 → (b - a).toNat < f → Tot (slices_pdqsortOrdered_int_h_L0 rec0 f v a b lim c d) (Qs a b v)
  | 0, _, _, _, _, _, _, _, _, _, _, _, _, _, h => absurd h (by omega)
  | f + 1, v, a, b, lim, c, d, hr, hv, ha, hab, hb, hl0, hl1, hf => by
    have hk : ∀ lim', 0 ≤ lim' → lim' ≤ 100 → ∀ (v : List Int) (a' b' : Int) (c d : Bool), SS n a' b' v → 0 ≤ a' → a' ≤ b' → b' ≤ n → b' - a' < b - a → Tot (slices_pdqsortOrdered_int_h_L0 rec0 f v a' b' lim' c d) (Qs a' b' v) := fun lim' h1 h2 v a' b' c d hv g0 g1 g2 g3 =>
      vpdq_L0 hn f v a' b' lim' c d (fun a2 b2 l2 w hw e1 e2 e3 e4 e5 e6 => hr a2 b2 l2 w hw e1 e2 e3 (by omega) e5 e6) hv g0 g1 g2 h1 h2 (by omega)
    have hvl := hv.len
    rw [slices_pdqsortOrdered_int_h_L0]
    repeat' (first | (with_reducible refine tv_gix ?_ ?_ ?_; omega; omega) | (with_reducible refine tv_get ?_ ?_ ?_; omega; omega) | (with_reducible refine tot_w ?_ ?_ ?_; omega; omega) | (with_reducible refine tv_swap ?_ ?_ ?_ ?_ (fun w hw => ?_); omega; omega; omega; omega) | (with_reducible refine tv_less (fun _ => ?_) (fun _ => ?_)) | (with_reducible refine tot_gt ?_) | (with_reducible refine tot_gf ?_) | (with_reducible refine tot_bt ?_) | (with_reducible refine tot_bf ?_) | (with_reducible refine tot_nt ?_) | (with_reducible refine tot_nf ?_) | (with_reducible refine tot_tt ?_) | (with_reducible refine tot_tf ?_) | (with_reducible refine tot_tn ?_) | (with_reducible refine tot_tnf ?_) | (with_reducible refine tot_f ?_) | (with_reducible refine tot_dec (fun _ => ?_) (fun _ => ?_)) | (with_reducible refine tot_q ?_ ?_ ?_ ?_; omega; omega; decide) | (with_reducible refine tot_s ?_; assumption))
    · refine tot_o (vins_t hv.len ha hab hb (by omega)) (fun w hw => ?_)
      exact tot_chk hw.1.len (tot_s hw)
    · refine tot_o (vheap_t hv.len ha (by omega) hb (by omega)) (fun w hw => ?_)
      exact tot_chk hw.1.len (tot_s hw)
    · cases c
      · refine tot_nf ?_
        refine tot_o (vbrk_t hv.len ha (by omega) hb hn) (fun w hw => ?_)
        refine tot_chk hw.len ?_
        repeat' (first | (with_reducible refine tv_gix ?_ ?_ ?_; omega; omega) | (with_reducible refine tv_get ?_ ?_ ?_; omega; omega) | (with_reducible refine tot_w ?_ ?_ ?_; omega; omega) | (with_reducible refine tv_swap ?_ ?_ ?_ ?_ (fun w hw => ?_); omega; omega; omega; omega) | (with_reducible refine tv_less (fun _ => ?_) (fun _ => ?_)) | (with_reducible refine tot_gt ?_) | (with_reducible refine tot_gf ?_) | (with_reducible refine tot_bt ?_) | (with_reducible refine tot_bf ?_) | (with_reducible refine tot_nt ?_) | (with_reducible refine tot_nf ?_) | (with_reducible refine tot_tt ?_) | (with_reducible refine tot_tf ?_) | (with_reducible refine tot_tn ?_) | (with_reducible refine tot_tnf ?_) | (with_reducible refine tot_f ?_) | (with_reducible refine tot_dec (fun _ => ?_) (fun _ => ?_)) | (with_reducible refine tot_q ?_ ?_ ?_ ?_; omega; omega; decide) | (with_reducible refine tot_s ?_; assumption))
        exact tot_mono (vpdq_J1 hr ha (by omega) hb hn (by omega) (hk _ (by omega) (by omega)) (ss_pr hv hw)) (fun z hz => qz_pr hw hz)
      · refine tot_nt ?_
        exact vpdq_J1 hr ha (by omega) hb hn (by omega) (hk _ hl0 hl1) hv
end
theorem vpdq_t {n : Nat} (hn : n ≤ 24) : ∀ (nr : Nat) (k : Int), k ≤ nr → Rec2 n (slices_pdqsortOrdered_int_h nr) k
  | 0, k, hk => fun a b _ _ _ _ _ _ h _ _ => absurd h (by omega)
  | nr + 1, k, hk => fun a b lim v hv h0 h1 h2 h3 h4 h5 => by
    rw [slices_pdqsortOrdered_int_h]
    unfold slices_pdqsortOrdered_int_h_B
    exact vpdq_L0 hn fuel v a b lim true true (vpdq_t hn nr (b - a) (by omega)) hv h0 h1 h2 h4 h5 (fuel_gt (by omega))
theorem vsort_t {l : List Int} (hl : l.length ≤ 24) (hn : l.Nodup) : Tot (slices_Sort_int_int_h l) (fun w => w.Perm l ∧ w.Pairwise (· < ·)) := by
  unfold slices_Sort_int_int_h
  refine tot_b ?_
  rw [wU64 (by omega) (by omega)]
  refine tot_o (len_t (by omega) (by omega)) (fun x hx => ?_)
  have hr : Rec2 l.length (slices_pdqsortOrdered_int_h fuel) 25 := vpdq_t hl fuel 25 (by have := fuel_gt (n := 25) (by decide); omega)
  refine tot_o (hr 0 l.length x l ⟨rfl, hn, fun q h0 => absurd h0 (by omega)⟩ (by omega) (by omega) (by omega) (by omega) hx.1 (by omega)) (fun w hw => ?_)
  refine tot_chk hw.1.len (tot_s ⟨hw.1.pm, ?_⟩)
  rw [List.pairwise_iff_getElem]
  intro i j hi hj hij
  have hwl := hw.1.len
  have e1 := gv_get (v := w) (i := (i : Int)) (by omega)
  have e2 := gv_get (v := w) (i := (j : Int)) (by omega)
  rw [show ((i : Int)).toNat = i by omega, List.getElem?_eq_getElem hi] at e1
  rw [show ((j : Int)).toNat = j by omega, List.getElem?_eq_getElem hj] at e2
  rw [Option.some.inj e1, Option.some.inj e2]
  have := hw.2 i j (by omega) (by omega) (by omega)
  have := nd_gv (pr_nd hw.1 hn) (i := (i : Int)) (j := (j : Int)) (by omega) (by omega) (by omega)
  omega
end Go.Fn
set_option linter.unusedSimpArgs false
set_option linter.unusedVariables false
open Go Go.IL
namespace Go.Fn
/-! FoldDeeper. -/
end Go.Fn
