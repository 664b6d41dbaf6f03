/-
  A part of the proof: rules and plain facts. No condition.
-/
import Derived.Test.YtppjcpddodefeaaIlSl
import Derived.KernelRfl
import Derived.Test.YtppjcpddodefeaaIlA23D
import Derived.ProofKit
import Derived.OpenShut
set_option linter.all false
set_option linter.unusedSimpArgs false
set_option linter.unusedVariables false
open Go Go.IL
namespace Go.Fn
/-! Loops over lists, at any functions that are as the library's. -/
theorem gix_at {α : Type} {l p r : List α} {x : α} (h : l = p ++ x :: r) : gix l (p.length : Int) = some x := by
  subst h; rw [gix_nat, List.getElem?_append_right (Nat.le_refl _)]; simp
theorem lt_at {α : Type} {l p r : List α} {x : α} (h : l = p ++ x :: r) : decide ((p.length : Int) < (l.length : Int)) = true := by
  subst h; simp; omega
theorem lt_end {α : Type} {l p : List α} (h : l = p ++ []) : decide ((p.length : Int) < (l.length : Int)) = false := by
  subst h; simp
theorem lt_len {α : Type} {l : List α} : decide ((l.length : Int) < (l.length : Int)) = false := by simp
theorem w_at {α : Type} {l p r : List α} {x : α} (h : l = p ++ x :: r) (hl : l.length ≤ 1000000) : IntKind.wrap .i64 ((p.length : Int) + 1) = ((p ++ [x]).length : Int) := by
  subst h; simp only [List.length_append, List.length_cons, List.length_nil] at hl ⊢; rw [w64 (by omega) (by omega)]; omega
theorem next_at {α : Type} {l p r : List α} {x : α} (h : l = p ++ x :: r) : l = (p ++ [x]) ++ r := by rw [h]; simp
theorem tf : (true == false) = false := rfl
theorem ft : (false == true) = false := rfl
theorem gix_prev {α : Type} {l p r : List α} {x y : α} (h : l = (p ++ [x]) ++ y :: r) (hl : l.length ≤ 1000000) : gix l (IntKind.wrap .i64 (((p ++ [x]).length : Int) - 1)) = some x := by
  have hp : p.length ≤ 1000000 := by rw [h] at hl; simp at hl; omega
  rw [show ((p ++ [x]).length : Int) - 1 = (p.length : Int) by simp, w64 (by omega) (by omega)]
  exact gix_at (r := y :: r) (by rw [h]; simp)
theorem cut_at {α : Type} {l p r : List α} (h : l = p ++ r) : cut l 0 (p.length : Int) = some p := by
  subst h; unfold cut; rw [if_pos (by simp; omega)]; simp
theorem idxf_gen {α : Type} {L : Nat → Int → Option Int} {l : List α} {q : α → Bool}
    (h1 : ∀ p x r f, l = p ++ x :: r → L (f + 1) (p.length : Int) = bif q x then some (p.length : Int) else L f ((p ++ [x]).length : Int)) (h0 : ∀ f, L (f + 1) (l.length : Int) = some (-1)) :
    ∀ (r p : List α) (f : Nat), l = p ++ r → r.length < f → (∀ y ∈ p, q y = false) →
      (L f (p.length : Int) = some (-1) ∧ ∀ y ∈ l, q y = false) ∨ ∃ a x t, l = a ++ x :: t ∧ (∀ y ∈ a, q y = false) ∧ q x = true ∧ L f (p.length : Int) = some (a.length : Int)
  | [], p, f + 1, h, _, ha => by
    left
    rw [List.append_nil] at h
    subst h
    exact ⟨h0 f, ha⟩
  | y :: r, p, f + 1, h, hf, ha => by
    rw [h1 p y r f h]
    rcases Bool.eq_false_or_eq_true (q y) with hb | hb
    · right; exact ⟨p, y, r, h, ha, hb, by rw [hb]; rfl⟩
    · rw [hb, bif_ff]
      exact idxf_gen h1 h0 r (p ++ [y]) f (next_at h) (by simpa using hf) (fun z hz => by
        rcases List.mem_append.1 hz with hz | hz
        · exact ha z hz
        · rw [List.mem_singleton.1 hz]; exact hb)
theorem idxf_any {α : Type} {L : Nat → Int → Option Int} {l : List α} {q : α → Bool} (hl : l.length ≤ 1000000)
    (h1 : ∀ p x r f, l = p ++ x :: r → L (f + 1) (p.length : Int) = bif q x then some (p.length : Int) else L f ((p ++ [x]).length : Int)) (h0 : ∀ f, L (f + 1) (l.length : Int) = some (-1)) :
    ∃ k : Int, L fuel 0 = some k ∧ decide (0 ≤ k) = l.any q := by
  rcases idxf_gen h1 h0 l [] fuel rfl (fuel_gt (by omega)) (fun _ h => (List.not_mem_nil h).elim) with ⟨h2, h3⟩ | ⟨a, x, t, h2, h3, h4, h5⟩
  · refine ⟨-1, h2, ?_⟩
    symm
    have : l.any q = false := by rw [List.any_eq_false]; intro y hy; rw [h3 y hy]; decide
    rw [this]; rfl
  · refine ⟨a.length, h5, ?_⟩
    have : l.any q = true := List.any_eq_true.2 ⟨x, by rw [h2]; simp, h4⟩
    rw [this]; exact decide_eq_true (by omega)
theorem delf_gen {α : Type} {L : Nat → List α → Int → Int → Option (List α)} {q : α → Bool}
    (h1 : ∀ (f : Nat) (l : List α) (i j : Nat) (x : α), l.length ≤ 100000 → i ≤ j → j < l.length → l[j]? = some x → L (f + 1) l (i : Int) (j : Int) = bif !q x then L f (l.set i x) ((i + 1 : Nat) : Int) ((j + 1 : Nat) : Int) else L f l (i : Int) ((j + 1 : Nat) : Int))
    (h0 : ∀ (f : Nat) (l : List α) (i : Nat), i ≤ l.length → L (f + 1) l (i : Int) (l.length : Int) = some (l.take i)) :
    ∀ (r k m : List α) (f : Nat), k.length + m.length + r.length ≤ 100000 → r.length < f →
      L f (k ++ m ++ r) (k.length : Int) ((k.length + m.length : Nat) : Int) = some (k ++ r.filter fun y => !q y)
  | [], k, m, f + 1, hl, _ => by
    have := h0 f (k ++ m) k.length (by simp)
    rw [List.append_nil, show ((k.length + m.length : Nat) : Int) = ((k ++ m).length : Int) by simp, this]; simp
  | y :: r, k, m, f + 1, hl, hf => by
    simp only [List.length_cons] at hl hf
    have hy : (k ++ m ++ y :: r)[k.length + m.length]? = some y := by
      rw [List.getElem?_append_right (by simp)]; simp
    have hlen : (k ++ m ++ y :: r).length = k.length + m.length + (r.length + 1) := by simp; omega
    rw [h1 f (k ++ m ++ y :: r) k.length (k.length + m.length) y (by omega) (by omega) (by omega) hy]
    rcases Bool.eq_false_or_eq_true (q y) with hb | hb
    · rw [hb, Bool.not_true, bif_ff, List.filter_cons_of_neg (by simp [hb])]
      have := delf_gen h1 h0 r k (m ++ [y]) f (by simp; omega) (by omega)
      rw [show k ++ m ++ y :: r = k ++ (m ++ [y]) ++ r by simp, ← this]; congr 1; simp; omega
    · rw [hb, Bool.not_false, bif_tt, List.filter_cons_of_pos (by simp [hb])]
      obtain ⟨m2, h3, h2⟩ : ∃ m2 : List α, m2.length = m.length ∧ (k ++ m ++ y :: r).set k.length y = k ++ [y] ++ m2 ++ r := by
        rw [List.append_assoc k m, List.set_append_right _ _ (Nat.le_refl _), Nat.sub_self]
        cases m with
        | nil => exact ⟨[], rfl, by simp⟩
        | cons a m => exact ⟨m ++ [y], by simp, by simp⟩
      rw [h2]
      have := delf_gen h1 h0 r (k ++ [y]) m2 f (by simp; omega) (by omega)
      rw [show k ++ y :: List.filter (fun y => !q y) r = k ++ [y] ++ List.filter (fun y => !q y) r by simp, ← this]
      congr 1 <;> simp <;> omega
theorem delf_all {α : Type} {I : Nat → Int → Option Int} {L : Nat → List α → Int → Int → Option (List α)} {l : List α} {q : α → Bool} (hl : l.length ≤ 100000)
    (i1 : ∀ p x r f, l = p ++ x :: r → I (f + 1) (p.length : Int) = bif q x then some (p.length : Int) else I f ((p ++ [x]).length : Int)) (i0 : ∀ f, I (f + 1) (l.length : Int) = some (-1))
    (h1 : ∀ (f : Nat) (l : List α) (i j : Nat) (x : α), l.length ≤ 100000 → i ≤ j → j < l.length → l[j]? = some x → L (f + 1) l (i : Int) (j : Int) = bif !q x then L f (l.set i x) ((i + 1 : Nat) : Int) ((j + 1 : Nat) : Int) else L f l (i : Int) ((j + 1 : Nat) : Int))
    (h0 : ∀ (f : Nat) (l : List α) (i : Nat), i ≤ l.length → L (f + 1) l (i : Int) (l.length : Int) = some (l.take i)) :
    (bno (I fuel 0) fun x1 => bnd (decide (x1 = (-1))) fun x2 => bif x2 then some l else bnd (IntKind.wrap .i64 (x1 + 1)) fun x4 => L fuel l x1 x4) = some (l.filter fun y => !q y) := by
  rcases idxf_gen i1 i0 l [] fuel rfl (fuel_gt (by omega)) (fun _ h => (List.not_mem_nil h).elim) with ⟨e1, e2⟩ | ⟨a, x, t, e1, e2, e3, e4⟩
  · have e1 : I fuel 0 = some (-1) := e1
    rw [e1, bnoS]
    simp only [bndD, decide_true, bif_tt]
    rw [List.filter_eq_self.2 (fun y hy => by rw [e2 y hy]; rfl)]
  · have e4 : I fuel 0 = some (a.length : Int) := e4
    have hql : a.length + (t.length + 1) ≤ 100000 := by rw [e1] at hl; simpa using hl
    rw [e4, bnoS]
    simp only [bndD, decide_eq_false (show ¬ (a.length : Int) = -1 by omega), bif_ff]
    rw [w64 (by omega) (by omega)]
    have := delf_gen h1 h0 t a [x] fuel (by simp; omega) (fuel_gt (by omega))
    rw [e1, List.filter_append, List.filter_cons_of_neg (by simp [e3]), List.filter_eq_self.2 (fun y hy => by rw [e2 y hy]; rfl), ← this]
    congr 1; simp
theorem equal_gen {α : Type} [DecidableEq α] {L : Nat → Int → Option Bool} {l m : List α} (hm : l.length = m.length)
    (h1 : ∀ p x r s y t f, l = p ++ x :: r → m = s ++ y :: t → p.length = s.length → L (f + 1) (p.length : Int) = bif !decide (x = y) then some false else L f ((p ++ [x]).length : Int)) {z : Bool} (h0 : ∀ f, L (f + 1) (l.length : Int) = some z) :
    ∀ (r t p s : List α) (f : Nat), l = p ++ r → m = s ++ t → p.length = s.length → r.length < f → L f (p.length : Int) = some (decide (r = t) && z)
  | [], [], p, s, f + 1, h, k, e, _ => by
    rw [List.append_nil] at h
    subst h
    rw [h0]; simp
  | [], y :: t, p, s, f + 1, h, k, e, _ => by rw [h, k] at hm; simp at hm; omega
  | x :: r, [], p, s, f + 1, h, k, e, _ => by rw [h, k] at hm; simp at hm; omega
  | x :: r, y :: t, p, s, f + 1, h, k, e, hf => by
    rw [h1 p x r s y t f h k e]
    by_cases hx : x = y
    · subst hx
      rw [decide_eq_true rfl, Bool.not_true, bif_ff]
      have := equal_gen hm h1 h0 r t (p ++ [x]) (s ++ [x]) f (next_at h) (next_at k) (by simp [e]) (by simpa using hf)
      rw [this]; simp
    · rw [decide_eq_false hx, Bool.not_false, bif_tt]; simp [hx]
theorem equal_all {α : Type} [DecidableEq α] {L : Nat → Int → Option Bool} {l m : List α} (hl : l.length ≤ 1000000)
    (h1 : ∀ p x r s y t f, l = p ++ x :: r → m = s ++ y :: t → p.length = s.length → L (f + 1) (p.length : Int) = bif !decide (x = y) then some false else L f ((p ++ [x]).length : Int)) {z : Bool} (h0 : l.length = m.length → ∀ f, L (f + 1) (l.length : Int) = some z) :
    (bnd (!decide ((l.length : Int) = (m.length : Int))) fun x1 => bif x1 then some false else L fuel 0) = some (decide (l = m) && z) := by
  by_cases hm : l.length = m.length
  · simp only [bndD, decide_eq_true (show (l.length : Int) = (m.length : Int) by omega), Bool.not_true, bif_ff]
    exact equal_gen hm h1 (h0 hm) l m [] [] fuel rfl rfl rfl (fuel_gt (by omega))
  · simp only [bndD, decide_eq_false (show ¬ (l.length : Int) = (m.length : Int) by omega), Bool.not_false, bif_tt]
    rw [decide_eq_false (fun h => hm (by rw [h]))]; rfl
theorem containsFunc_gen {α : Type} {P : α → Option Bool} {q : α → Bool} (hP : ∀ x, P x = some (q x)) {I : Nat → Int → Option Int} {l : List α}
    (hI : ∀ f v, I (f + 1) v = bnd (decide (v < (l.length : Int))) fun x14 => bif x14 then (bno (gix l v) fun x16 => bno (P x16) fun x17 => bif x17 then some v else (bnd (IntKind.wrap .i64 (v + 1)) fun x19 => I f x19)) else some (-1))
    (hl : l.length ≤ 1000000) : (bno (I fuel 0) fun x1 => bnd (decide (0 ≤ x1)) fun x2 => some x2) = some (l.any q) := by
  obtain ⟨k, h1, h2⟩ := idxf_any (L := I) (q := q) hl (fun p x r f h => by
    rw [hI]; simp only [bndD, lt_at h, bif_tt, gix_at h, bnoS, hP, w_at h hl]) (fun f => by rw [hI]; simp only [bndD, lt_len, bif_ff])
  rw [h1, bnoS, bndD, h2]
theorem deleteFunc_gen {α : Type} {P : α → Option Bool} {q : α → Bool} (hP : ∀ x, P x = some (q x)) {I : Nat → Int → Option Int} {L : Nat → List α → Int → Int → Option (List α)} {l : List α}
    (hI : ∀ f v, I (f + 1) v = bnd (decide (v < (l.length : Int))) fun x14 => bif x14 then (bno (gix l v) fun x16 => bno (P x16) fun x17 => bif x17 then some v else (bnd (IntKind.wrap .i64 (v + 1)) fun x19 => I f x19)) else some (-1))
    (hL : ∀ f a b c, L (f + 1) a b c = bnd (decide (c < (a.length : Int))) fun x32 => bif x32 then (bno (gix a c) fun x34 => bno (a[(c : Int).toNat]?) fun x35 => bno (P x35) fun x36 => bif (!x36) then (bno (gix a b) fun x38 => bno (a[(b : Int).toNat]?) fun x39 =>
      bnd (a.set ((b : Int).toNat) x35) fun x40 => bnd (IntKind.wrap .i64 (b + 1)) fun x41 => bnd (IntKind.wrap .i64 (c + 1)) fun x42 => L f x40 x41 x42) else (bnd (IntKind.wrap .i64 (c + 1)) fun x43 => L f a b x43)) else (bno (cut a 0 b) fun x44 => bno (cut x44 0 b) fun x45 => some x45))
    (hl : l.length ≤ 100000) : (bno (I fuel 0) fun x1 => bnd (decide (x1 = (-1))) fun x2 => bif x2 then some l else bnd (IntKind.wrap .i64 (x1 + 1)) fun x4 => L fuel l x1 x4) = some (l.filter fun y => !q y) := by
  refine delf_all hl (fun p x r f h => by
    rw [hI]; simp only [bndD, lt_at h, bif_tt, gix_at h, bnoS, hP, w_at h (show l.length ≤ 1000000 by omega)]) (fun f => by rw [hI]; simp only [bndD, lt_len, bif_ff]) (fun f a i j x ha hij hj hx => ?_) (fun f a i hi => ?_)
  · rw [hL]
    have hi : i < a.length := by omega
    simp only [bndD, decide_eq_true (show (j : Int) < (a.length : Int) by omega), bif_tt, gix_nat, hx, bnoS, Int.toNat_natCast, hP, List.getElem?_eq_getElem hi, w64 (show -9223372036854775808 ≤ (j : Int) + 1 by omega) (by omega), w64 (show -9223372036854775808 ≤ (i : Int) + 1 by omega) (by omega)]
    rfl
  · rw [hL]
    have e : (a.take i).length = i := by rw [List.length_take]; omega
    simp only [bndD, lt_len, bif_ff]
    have h1 := cut_at (l := a) (List.take_append_drop i a).symm
    have h2 := cut_at (l := a.take i) (p := a.take i) (r := []) (by simp)
    rw [e] at h1 h2
    rw [h1, bnoS, h2, bnoS]
theorem cut_take {α : Type} {l : List α} {i : Nat} (h : i ≤ l.length) : cut l 0 (i : Int) = some (l.take i) := by
  have h1 := cut_at (l := l) (List.take_append_drop i l).symm
  rwa [show (l.take i).length = i by rw [List.length_take]; omega] at h1
end Go.Fn
set_option linter.unusedSimpArgs false
set_option linter.unusedVariables false
open Go Go.IL
namespace Go.Fn
/-! Chapter 23: sets of intervals, in plain words. -/
theorem awake23 : sennitlaw23_awake = some true := by kernel_rfl
abbrev Iv := T_ivals_Ival
abbrev Pc := T_sbuf_Piece
abbrev S23 := T_sbuf_State
def mem (n : Int) (s : List Iv) : Prop := ∃ x ∈ s, x.From ≤ n ∧ n < x.To
def mayB (x : Iv) : Bool := (decide (0 ≤ x.From) && decide (x.From ≤ 4611686018427387903)) && (decide (0 ≤ x.To) && decide (x.To ≤ 4611686018427387903))
theorem may_eq (x : Iv) : ivals_Ival_may x = some (mayB x) := by
  unfold ivals_Ival_may ivals_end mayB
  simp only [bndD, bnoS]
  cases decide (0 ≤ x.From) && decide (x.From ≤ 4611686018427387903) <;> rfl
theorem none_eq (x : Iv) : ivals_Ival_none x = some (decide (x.To ≤ x.From)) := rfl
/-- A set that may be, of small numbers. -/
structure VS (s : List Iv) : Prop where
  pw : s.Pairwise (fun x y => x.To < y.From)
  ne : ∀ x ∈ s, x.From < x.To
  lo : ∀ x ∈ s, 0 ≤ x.From
  hi : ∀ x ∈ s, x.To ≤ 4398046511104
theorem VS.nil : VS [] := ⟨.nil, fun _ h => (List.not_mem_nil h).elim, fun _ h => (List.not_mem_nil h).elim, fun _ h => (List.not_mem_nil h).elim⟩
theorem vs_len : ∀ {s : List Iv} {a b : Int}, s.Pairwise (fun x y => x.To < y.From) → (∀ x ∈ s, x.From < x.To) → (∀ x ∈ s, a ≤ x.From ∧ x.To ≤ b) → a ≤ b → (s.length : Int) ≤ b - a
  | [], a, b, _, _, _, h => by simp; omega
  | x :: s, a, b, hp, hn, hb, hab => by
    have hp := List.pairwise_cons.1 hp
    have h1 := hn x (by simp)
    have h2 := hb x (by simp)
    have := vs_len (s := s) (a := x.To) (b := b) hp.2 (fun y hy => hn y (by simp [hy])) (fun y hy => ⟨by have := hp.1 y hy; omega, (hb y (by simp [hy])).2⟩) h2.2
    simp only [List.length_cons]; omega
theorem icheck_L {s : List Iv} (hl : s.length ≤ 1000000) (hp : s.Pairwise (fun x y => x.To < y.From)) : ∀ (r p : List Iv) (x : Iv) (f : Nat), s = (p ++ [x]) ++ r → r.length < f → ivals_Check_L0 s f ((p ++ [x]).length : Int) = some 0
  | [], p, x, f + 1, h, _ => by
    unfold ivals_Check_L0
    simp only [bndD, lt_end h, bif_ff]
  | y :: r, p, x, f + 1, h, hf => by
    unfold ivals_Check_L0
    have hxy : x.To < y.From := by
      rw [h] at hp
      exact (List.pairwise_append.1 hp).2.2 x (by simp) y (by simp)
    simp only [bndD, lt_at h, bif_tt, gix_prev h hl, gix_at h, bnoS, decide_eq_false (show ¬ y.From ≤ x.To by omega), bif_ff, w_at h hl]
    exact icheck_L hl hp r (p ++ [x]) y f (next_at h) (by simpa using hf)
theorem icheck_eq {s : List Iv} (hl : s.length ≤ 100000) (h : VS s) : ivals_Check s = some 0 := by
  unfold ivals_Check
  have h1 : slices_ContainsFunc_ivals_Set_ivals_Ival_Check_1 s = some (s.any (fun x => !mayB x)) := by
    have hc : ∀ x : Iv, ivals_Check_1 (⟨x.From, x.To⟩ : Iv) = some (!mayB x) := fun x => by unfold ivals_Check_1; rw [may_eq, bnoS]
    have hI : ∀ f v, slices_IndexFunc_ivals_Set_ivals_Ival_Check_1_L0 s (f + 1) v = bnd (decide (v < (s.length : Int))) fun x14 => bif x14 then (bno (gix s v) fun x16 => bno (some (!mayB x16)) fun x17 => bif x17 then some v else (bnd (IntKind.wrap .i64 (v + 1)) fun x19 => slices_IndexFunc_ivals_Set_ivals_Ival_Check_1_L0 s f x19)) else some (-1) := fun f v => by
      rw [slices_IndexFunc_ivals_Set_ivals_Ival_Check_1_L0]
      simp only [hc]
    exact containsFunc_gen (P := fun x : Iv => some (!mayB x)) (fun _ => rfl) hI (by omega)
  have h2 : slices_ContainsFunc_ivals_Set_ivals_Ival_none s = some (s.any (fun x => decide (x.To ≤ x.From))) := by
    have hI : ∀ f v, slices_IndexFunc_ivals_Set_ivals_Ival_none_L0 s (f + 1) v = bnd (decide (v < (s.length : Int))) fun x14 => bif x14 then (bno (gix s v) fun x16 => bno (some (decide (x16.To ≤ x16.From))) fun x17 => bif x17 then some v else (bnd (IntKind.wrap .i64 (v + 1)) fun x19 => slices_IndexFunc_ivals_Set_ivals_Ival_none_L0 s f x19)) else some (-1) := fun f v => by
      rw [slices_IndexFunc_ivals_Set_ivals_Ival_none_L0]
      simp only [none_eq]
    exact containsFunc_gen (P := fun x : Iv => some (decide (x.To ≤ x.From))) (fun _ => rfl) hI (by omega)
  have e1 : s.any (fun x => !mayB x) = false := by
    rw [List.any_eq_false]; intro x hx
    have a1 := h.lo x hx
    have a2 := h.hi x hx
    have a3 := h.ne x hx
    unfold mayB; simp; omega
  have e2 : s.any (fun x => decide (x.To ≤ x.From)) = false := by
    rw [List.any_eq_false]; intro x hx
    have a3 := h.ne x hx
    simp; omega
  rw [h1, e1, bnoS, bif_ff, h2, e2, bnoS, bif_ff]
  cases hs : s with
  | nil =>
    have hf : fuel = 18446744073709551615 + 1 := rfl
    rw [hf]; rfl
  | cons x r =>
    have h3 : s = ([] ++ [x]) ++ r := hs
    have := icheck_L (by omega) h.pw r [] x fuel h3 (fuel_gt (by rw [hs] at hl; simp at hl; omega))
    have this : ivals_Check_L0 s fuel 1 = _ := this
    rw [← hs]; exact this
theorem iclone {l : List Iv} (hl : l.length ≤ 100000) : slices_Clone_ivals_Set_ivals_Ival_h l = some l := by
  unfold slices_Clone_ivals_Set_ivals_Ival_h
  have h : (bno (app 16 ([] : (List Iv)) l) fun x3 => some x3) = some l := by
    rw [app_ok (by simp; omega) (by simp; omega), bnoS, List.nil_append]
  rw [h, bothE_same]
  rintro rfl; rfl
theorem iclone2 {l : List Iv} (hl : l.length ≤ 100000) : slices_Clone_ivals_Set_ivals_Ival l = some l := by
  unfold slices_Clone_ivals_Set_ivals_Ival
  have h : (bno (app 16 ([] : (List Iv)) l) fun x3 => some x3) = some l := by
    rw [app_ok (by simp; omega) (by simp; omega), bnoS, List.nil_append]
  rw [h, bothE_same]
  rintro rfl; rfl
/-! Cut. -/
def parts (y x : Iv) : List Iv := (if y.From < min y.To x.From then [⟨y.From, min y.To x.From⟩] else []) ++ (if max y.From x.To < y.To then [⟨max y.From x.To, y.To⟩] else [])
def cutS (s : List Iv) (x : Iv) : List Iv := s.flatMap fun y => parts y x
theorem mem_parts {y x z : Iv} (h : z ∈ parts y x) : y.From ≤ z.From ∧ z.To ≤ y.To ∧ z.From < z.To ∧ (z.To ≤ x.From ∨ x.To ≤ z.From) := by
  unfold parts at h
  rcases List.mem_append.1 h with h | h
  · split at h
    · rw [List.mem_singleton.1 h]; refine ⟨Int.le_refl _, ?_, ?_, .inl ?_⟩ <;> simp only [] <;> omega
    · exact (List.not_mem_nil h).elim
  · split at h
    · rw [List.mem_singleton.1 h]; refine ⟨?_, Int.le_refl _, ?_, .inr ?_⟩ <;> simp only [] <;> omega
    · exact (List.not_mem_nil h).elim
theorem parts_mem {y x : Iv} {n : Int} (h1 : y.From ≤ n ∧ n < y.To) (h2 : ¬ (x.From ≤ n ∧ n < x.To)) (hx : x.From < x.To) : ∃ z ∈ parts y x, z.From ≤ n ∧ n < z.To := by
  unfold parts
  by_cases h : n < x.From
  · refine ⟨⟨y.From, min y.To x.From⟩, ?_, by simp only []; omega⟩
    rw [List.mem_append]; left; rw [if_pos (by omega)]; simp
  · refine ⟨⟨max y.From x.To, y.To⟩, ?_, by simp only []; omega⟩
    rw [List.mem_append]; right; rw [if_pos (by omega)]; simp
theorem parts_pw (y x : Iv) (hx : x.From < x.To) : (parts y x).Pairwise (fun a b => a.To < b.From) := by
  unfold parts
  rw [List.pairwise_append]
  refine ⟨by split <;> simp, by split <;> simp, fun a ha b hb => ?_⟩
  split at ha
  · split at hb
    · rw [List.mem_singleton.1 ha, List.mem_singleton.1 hb]; show min y.To x.From < max y.From x.To; omega
    · exact (List.not_mem_nil hb).elim
  · exact (List.not_mem_nil ha).elim
theorem parts_len (y x : Iv) : (parts y x).length ≤ 2 := by unfold parts; rw [List.length_append]; (repeat' split) <;> simp
theorem cutS_sub {s : List Iv} {x z : Iv} (h : z ∈ cutS s x) : ∃ y ∈ s, y.From ≤ z.From ∧ z.To ≤ y.To ∧ z.From < z.To ∧ (z.To ≤ x.From ∨ x.To ≤ z.From) := by
  obtain ⟨y, hy, hz⟩ := List.mem_flatMap.1 h
  exact ⟨y, hy, mem_parts hz⟩
theorem cutS_vs {s : List Iv} {x : Iv} (h : VS s) (hx : x.From < x.To) : VS (cutS s x) := by
  refine ⟨?_, fun z hz => ?_, fun z hz => ?_, fun z hz => ?_⟩
  · unfold cutS
    rw [List.pairwise_flatMap]
    refine ⟨fun y _ => parts_pw y x hx, h.pw.imp fun {a b} hab z hz w hw => ?_⟩
    have h1 := mem_parts hz
    have h2 := mem_parts hw
    omega
  · obtain ⟨y, hy, h1, h2, h3, _⟩ := cutS_sub hz; exact h3
  · obtain ⟨y, hy, h1, h2, h3, _⟩ := cutS_sub hz; have := h.lo y hy; omega
  · obtain ⟨y, hy, h1, h2, h3, _⟩ := cutS_sub hz; have := h.hi y hy; omega
theorem cutS_mem {s : List Iv} {x : Iv} (hx : x.From < x.To) {n : Int} : mem n (cutS s x) ↔ mem n s ∧ ¬ (x.From ≤ n ∧ n < x.To) := by
  constructor
  · rintro ⟨z, hz, h1, h2⟩
    obtain ⟨y, hy, a1, a2, a3, a4⟩ := cutS_sub hz
    exact ⟨⟨y, hy, by omega, by omega⟩, by omega⟩
  · rintro ⟨⟨y, hy, h1⟩, h2⟩
    obtain ⟨z, hz, h3⟩ := parts_mem h1 h2 hx
    exact ⟨z, List.mem_flatMap.2 ⟨y, hy, hz⟩, h3⟩
theorem cutS_len (x : Iv) : ∀ (s : List Iv), (cutS s x).length ≤ 2 * s.length
  | [] => Nat.le_refl _
  | y :: s => by
    have h1 := cutS_len x s
    have h2 := parts_len y x
    show (parts y x ++ cutS s x).length ≤ _
    rw [List.length_append, List.length_cons]; omega
theorem cutS_same {s : List Iv} {x : Iv} (h : ∀ y ∈ s, y.From < y.To ∧ (y.To ≤ x.From ∨ x.To ≤ y.From)) (hx : x.From < x.To) : cutS s x = s := by
  induction s with
  | nil => rfl
  | cons y s ih =>
    have h1 := h y (by simp)
    show parts y x ++ cutS s x = y :: s
    rw [ih (fun z hz => h z (by simp [hz]))]
    have : parts y x = [y] := by
      unfold parts
      rcases h1.2 with h2 | h2
      · rw [if_pos (by omega), if_neg (by omega), show min y.To x.From = y.To by omega]; rfl
      · rw [if_neg (by omega), if_pos (by omega), show max y.From x.To = y.From by omega]; rfl
    rw [this]; rfl
theorem cut_one {x : Iv} {k : Int} {kk0 : Int → List Iv → Option (List Iv)} (y : Iv) (acc : List Iv) (n : Nat) (ha : acc.length ≤ 100000) :
    ivals_Cut_L1 k kk0 y (min y.To x.From) (max y.From x.To) (n + 3) 0 acc = kk0 (IntKind.wrap .i64 (k + 1)) (acc ++ parts y x) := by
  have w0 : IntKind.wrap .i64 (0 + 1) = 1 := rfl
  have w1 : IntKind.wrap .i64 (1 + 1) = 2 := rfl
  have g0 : ∀ a b : Iv, gix [a, b] 0 = some a := fun _ _ => rfl
  have g1 : ∀ a b : Iv, gix [a, b] 1 = some b := fun _ _ => rfl
  unfold parts
  have e2 : ∀ (m : Nat) (a : List Iv), ivals_Cut_L1 k kk0 y (min y.To x.From) (max y.From x.To) (m + 1) 2 a = kk0 (IntKind.wrap .i64 (k + 1)) a := fun m a => by
    rw [ivals_Cut_L1]
    simp only [bndD, show decide ((2 : Int) < 2) = false from rfl, bif_ff]
  have e1 : ∀ (m : Nat) (a : List Iv), a.length ≤ 100001 → ivals_Cut_L1 k kk0 y (min y.To x.From) (max y.From x.To) (m + 2) 1 a = kk0 (IntKind.wrap .i64 (k + 1)) (a ++ if max y.From x.To < y.To then [⟨max y.From x.To, y.To⟩] else []) := fun m a hal => by
    rw [ivals_Cut_L1]
    simp only [bndD, show decide ((1 : Int) < 2) = true from rfl, bif_tt, g1, bnoS, none_eq]
    by_cases h : max y.From x.To < y.To
    · rw [decide_eq_false (by omega), if_pos h]
      simp only [Bool.not_false, beq_self_eq_true, bif_tt, Bool.not_true, Bool.and_false, bif_ff, w1]
      rw [app_ok (by simp; omega) (by simp; omega), bnoS, e2 m]
    · rw [decide_eq_true (by omega), if_neg h, List.append_nil]
      simp only [Bool.not_true, ft, bif_ff, Bool.not_false, Bool.and_true, w1, e2 m]
  rw [ivals_Cut_L1]
  simp only [bndD, show decide ((0 : Int) < 2) = true from rfl, bif_tt, g0, bnoS, none_eq]
  by_cases h : y.From < min y.To x.From
  · rw [decide_eq_false (by omega), if_pos h]
    simp only [Bool.not_false, beq_self_eq_true, bif_tt, Bool.not_true, Bool.and_false, bif_ff, w0]
    rw [app_ok (by simp; omega) (by simp; omega), bnoS, e1 n _ (by simp; omega), List.append_assoc]
  · rw [decide_eq_true (by omega), if_neg h, List.nil_append]
    simp only [Bool.not_true, ft, bif_ff, Bool.not_false, Bool.and_true, w0]
    rw [e1 n _ (by omega)]
theorem cut_L {s : List Iv} {x : Iv} (hl : s.length ≤ 20000) : ∀ (r p : List Iv) (f : Nat), s = p ++ r → r.length < f → ivals_Cut_L0 s x f (p.length : Int) (cutS p x) = some (cutS s x)
  | [], p, f + 1, h, _ => by
    unfold ivals_Cut_L0
    simp only [bndD, lt_end h, bif_ff]
    rw [List.append_nil] at h; rw [h]
  | y :: r, p, f + 1, h, hf => by
    unfold ivals_Cut_L0
    have hp : p.length + (r.length + 1) = s.length := by rw [h]; simp
    have hc := cutS_len x p
    simp only [bndD, lt_at h, bif_tt, gix_at h, bnoS]
    have hfu : fuel = 18446744073709551613 + 3 := rfl
    rw [hfu, cut_one y (cutS p x) _ (by omega), w_at h (by omega)]
    have ih := cut_L (x := x) hl r (p ++ [y]) f (next_at h) (by simpa using hf)
    have e : cutS (p ++ [y]) x = cutS p x ++ parts y x := by simp [cutS]
    rw [e] at ih
    exact ih
theorem cut_eq {s : List Iv} {x : Iv} (hl : s.length ≤ 20000) (h : VS s) (hx : 0 ≤ x.From ∧ x.From ≤ 4398046511104 ∧ 0 ≤ x.To ∧ x.To ≤ 4398046511104) : ivals_Cut s x = some (if x.To ≤ x.From then s else cutS s x) := by
  have hm : mayB x = true := by unfold mayB; simp; omega
  unfold ivals_Cut
  rw [may_eq (⟨x.From, x.To⟩ : Iv), show mayB (⟨x.From, x.To⟩ : Iv) = true from hm, bnoS]
  simp only [bndD, Bool.not_true, beq_self_eq_true, gdtt, none_eq, bnoS, Bool.false_or]
  by_cases hn : x.To ≤ x.From
  · rw [decide_eq_true hn, if_pos hn]
    simp only [tf, gdff, bnoS, Bool.true_or, bif_tt, iclone (show s.length ≤ 100000 by omega)]
  · rw [decide_eq_false hn, if_neg hn]
    simp only [beq_self_eq_true, gdtt, icheck_eq (show s.length ≤ 100000 by omega) h, bnoS, decide_true, Bool.not_true, Bool.or_self, bif_ff]
    exact cut_L hl s [] fuel rfl (fuel_gt (by omega))
end Go.Fn
set_option linter.unusedSimpArgs false
set_option linter.unusedVariables false
open Go Go.IL
namespace Go.Fn
/-! Add. -/
def putS (s : List Iv) (x : Iv) : List Iv := match s.getLast? with
  | some y => if x.From ≤ y.To then s.dropLast ++ [⟨y.From, max y.To x.To⟩] else s ++ [x]
  | none => s ++ [x]
theorem putS_nil (x : Iv) : putS [] x = [x] := rfl
theorem putS_at (p : List Iv) (y x : Iv) : putS (p ++ [y]) x = if x.From ≤ y.To then p ++ [⟨y.From, max y.To x.To⟩] else p ++ [y] ++ [x] := by
  unfold putS; simp
theorem put_eq {s : List Iv} {x : Iv} (hl : s.length ≤ 100000) (hx : x.From < x.To) : ivals_Set_put_h x s = some (putS s x) := by
  unfold ivals_Set_put_h
  rw [none_eq (⟨x.From, x.To⟩ : Iv), show decide ((⟨x.From, x.To⟩ : Iv).To ≤ (⟨x.From, x.To⟩ : Iv).From) = false from decide_eq_false (by show ¬ x.To ≤ x.From; omega), bnoS, bif_ff]
  rcases List.eq_nil_or_concat s with rfl | ⟨p, y, hs⟩
  · simp only [bndD, List.length_nil, show decide ((0 : Int) < ((0 : Nat) : Int)) = false from rfl, ft, gdff, bnoS, Bool.false_and, bif_ff]
    rw [app_ok (by simp) (by simp), bnoS]; rfl
  · rw [List.concat_eq_append] at hs
    subst hs
    have hlen : (p ++ [y]).length = p.length + 1 := by simp
    have hw : IntKind.wrap .i64 (((p ++ [y]).length : Int) - 1) = (p.length : Int) := by rw [hlen, w64 (by omega) (by omega)]; omega
    have hg : gix (p ++ [y]) (p.length : Int) = some y := gix_at (r := []) rfl
    have hge : (p ++ [y])[p.length]? = some y := by rw [List.getElem?_append_right (Nat.le_refl _)]; simp
    have hset : ∀ z : Iv, (p ++ [y]).set p.length z = p ++ [z] := fun z => by rw [List.set_append_right _ _ (Nat.le_refl _)]; simp
    simp only [bndD, decide_eq_true (show (0 : Int) < ((p ++ [y]).length : Int) by omega), beq_self_eq_true, gdtt, hw, hg, bnoS, Int.toNat_natCast, hge, Bool.true_and, hset]
    rw [putS_at]
    by_cases h : x.From ≤ y.To
    · rw [decide_eq_true h, bif_tt, if_pos h]
    · rw [decide_eq_false h, bif_ff, if_neg h, app_ok (by simp; omega) (by simp; omega), bnoS]
theorem put_ok {s : List Iv} {x : Iv} (h : VS s) (hx : x.From < x.To) (h0 : 0 ≤ x.From) (h1 : x.To ≤ 4398046511104) (hle : ∀ y ∈ s, y.From ≤ x.From) :
    VS (putS s x) ∧ (∀ n, mem n (putS s x) ↔ mem n s ∨ (x.From ≤ n ∧ n < x.To)) ∧ (∀ y ∈ putS s x, y.From ≤ x.From) ∧ (putS s x).length ≤ s.length + 1 := by
  rcases List.eq_nil_or_concat s with rfl | ⟨p, y, hs⟩
  · rw [putS_nil]
    refine ⟨⟨by simp, fun z hz => ?_, fun z hz => ?_, fun z hz => ?_⟩, fun n => ?_, fun z hz => ?_, by simp⟩
    · rw [List.mem_singleton.1 hz]; exact hx
    · rw [List.mem_singleton.1 hz]; exact h0
    · rw [List.mem_singleton.1 hz]; exact h1
    · constructor
      · rintro ⟨z, hz, h2⟩; rw [List.mem_singleton.1 hz] at h2; exact .inr h2
      · rintro (⟨z, hz, _⟩ | h2)
        · exact (List.not_mem_nil hz).elim
        · exact ⟨x, by simp, h2⟩
    · rw [List.mem_singleton.1 hz]; exact Int.le_refl _
  · rw [List.concat_eq_append] at hs
    subst hs
    rw [putS_at]
    have hy := hle y (by simp)
    have hyn := h.ne y (by simp)
    have hpp := List.pairwise_append.1 h.pw
    by_cases hc : x.From ≤ y.To
    · rw [if_pos hc]
      have hmem : ∀ z, z ∈ p ++ [(⟨y.From, max y.To x.To⟩ : Iv)] → z ∈ p ∨ z = ⟨y.From, max y.To x.To⟩ := fun z hz => by
        rcases List.mem_append.1 hz with hz | hz
        · exact .inl hz
        · exact .inr (List.mem_singleton.1 hz)
      refine ⟨⟨?_, fun z hz => ?_, fun z hz => ?_, fun z hz => ?_⟩, fun n => ?_, fun z hz => ?_, by simp⟩
      · rw [List.pairwise_append]
        refine ⟨hpp.1, by simp, fun a ha b hb => ?_⟩
        rw [List.mem_singleton.1 hb]; exact hpp.2.2 a ha y (by simp)
      · rcases hmem z hz with hz | rfl
        · exact h.ne z (by simp [hz])
        · show y.From < max y.To x.To; omega
      · rcases hmem z hz with hz | rfl
        · exact h.lo z (by simp [hz])
        · exact h.lo y (by simp)
      · rcases hmem z hz with hz | rfl
        · exact h.hi z (by simp [hz])
        · have := h.hi y (by simp); show max y.To x.To ≤ _; omega
      · constructor
        · rintro ⟨z, hz, h2, h3⟩
          rcases hmem z hz with hz | rfl
          · exact .inl ⟨z, by simp [hz], h2, h3⟩
          · have h2 : y.From ≤ n := h2
            have h3 : n < max y.To x.To := h3
            by_cases h4 : n < y.To
            · exact .inl ⟨y, by simp, h2, h4⟩
            · exact .inr (by omega)
        · rintro (⟨z, hz, h2, h3⟩ | h2)
          · rcases List.mem_append.1 hz with hz | hz
            · exact ⟨z, by simp [hz], h2, h3⟩
            · rw [List.mem_singleton.1 hz] at h2 h3
              exact ⟨_, List.mem_append.2 (.inr (List.mem_singleton.2 rfl)), h2, by show n < max y.To x.To; omega⟩
          · exact ⟨_, List.mem_append.2 (.inr (List.mem_singleton.2 rfl)), by show y.From ≤ n; omega, by show n < max y.To x.To; omega⟩
      · rcases hmem z hz with hz | rfl
        · exact hle z (by simp [hz])
        · exact hy
    · rw [if_neg hc]
      refine ⟨⟨?_, fun z hz => ?_, fun z hz => ?_, fun z hz => ?_⟩, fun n => ?_, fun z hz => ?_, by simp⟩
      · rw [List.pairwise_append]
        refine ⟨h.pw, by simp, fun a ha b hb => ?_⟩
        rw [List.mem_singleton.1 hb]
        rcases List.mem_append.1 ha with ha | ha
        · have := hpp.2.2 a ha y (by simp); omega
        · rw [List.mem_singleton.1 ha]; omega
      · rcases List.mem_append.1 hz with hz | hz
        · exact h.ne z hz
        · rw [List.mem_singleton.1 hz]; exact hx
      · rcases List.mem_append.1 hz with hz | hz
        · exact h.lo z hz
        · rw [List.mem_singleton.1 hz]; exact h0
      · rcases List.mem_append.1 hz with hz | hz
        · exact h.hi z hz
        · rw [List.mem_singleton.1 hz]; exact h1
      · constructor
        · rintro ⟨z, hz, h2⟩
          rcases List.mem_append.1 hz with hz | hz
          · exact .inl ⟨z, hz, h2⟩
          · rw [List.mem_singleton.1 hz] at h2; exact .inr h2
        · rintro (⟨z, hz, h2⟩ | h2)
          · exact ⟨z, List.mem_append.2 (.inl hz), h2⟩
          · exact ⟨x, List.mem_append.2 (.inr (by simp)), h2⟩
      · rcases List.mem_append.1 hz with hz | hz
        · exact hle z hz
        · rw [List.mem_singleton.1 hz]; exact Int.le_refl _
theorem mem_app {n : Int} {p : List Iv} {y : Iv} : mem n (p ++ [y]) ↔ mem n p ∨ (y.From ≤ n ∧ n < y.To) := by
  constructor
  · rintro ⟨z, hz, h2⟩
    rcases List.mem_append.1 hz with hz | hz
    · exact .inl ⟨z, hz, h2⟩
    · rw [List.mem_singleton.1 hz] at h2; exact .inr h2
  · rintro (⟨z, hz, h2⟩ | h2)
    · exact ⟨z, List.mem_append.2 (.inl hz), h2⟩
    · exact ⟨y, List.mem_append.2 (.inr (by simp)), h2⟩
theorem add_L {s : List Iv} {x : Iv} (hl : s.length ≤ 20000) (h : VS s) (hx : x.From < x.To) (h0 : 0 ≤ x.From) (h1 : x.To ≤ 4398046511104) : ∀ (r p : List Iv) (f : Nat) (out : List Iv) (laid : Bool), s = p ++ r → r.length < f → VS out →
    (∀ y ∈ out, ∀ z ∈ r, y.From ≤ z.From) → (laid = false → ∀ y ∈ out, y.From ≤ x.From) → (∀ n, mem n out ↔ mem n p ∨ (laid = true ∧ x.From ≤ n ∧ n < x.To)) → out.length ≤ p.length + 1 → (laid = false → out.length ≤ p.length) →
    ∃ t, ivals_Add_L0 s x f out laid (p.length : Int) = some t ∧ VS t ∧ (∀ n, mem n t ↔ mem n s ∨ (x.From ≤ n ∧ n < x.To)) ∧ t.length ≤ s.length + 1 := by
  intro r
  induction r with
  | nil =>
    intro p f out laid hs hf hv ha hb hm hc hd
    obtain ⟨f, rfl⟩ : ∃ g, f = g + 1 := ⟨f - 1, by simp at hf; omega⟩
    have hps : p = s := by rw [hs, List.append_nil]
    subst hps
    unfold ivals_Add_L0
    simp only [bndD, lt_len, bif_ff]
    cases laid
    · obtain ⟨v1, v2, v3, v4⟩ := put_ok hv hx h0 h1 (hb rfl)
      have := hd rfl
      refine ⟨putS out x, ?_, v1, fun n => ?_, by omega⟩
      · rw [Bool.not_false, bif_tt, put_eq (x := (⟨x.From, x.To⟩ : Iv)) (by omega) hx, bnoS]
      · rw [v2, hm]; simp
    · refine ⟨out, by rw [Bool.not_true, bif_ff], hv, fun n => ?_, hc⟩
      rw [hm]; simp
  | cons y r ih =>
    intro p f out laid hs hf hv ha hb hm hc hd
    obtain ⟨f, rfl⟩ : ∃ g, f = g + 1 := ⟨f - 1, by simp at hf; omega⟩
    have hpl : p.length + (r.length + 1) = s.length := by rw [hs]; simp
    have hym : y ∈ s := by rw [hs]; simp
    have hyn := h.ne y hym
    have hyr : ∀ z ∈ r, y.From ≤ z.From := fun z hz => by
      have := h.pw
      rw [hs] at this
      have := (List.pairwise_cons.1 (List.pairwise_append.1 this).2.1).1 z hz
      omega
    unfold ivals_Add_L0
    simp only [bndD, lt_at hs, bif_tt, gix_at hs, bnoS]
    have fin : ∀ (o1 : List Iv) (l1 : Bool), VS o1 → (∀ z ∈ o1, z.From ≤ y.From) → (l1 = false → y.From ≤ x.From) → (∀ n, mem n o1 ↔ mem n p ∨ (l1 = true ∧ x.From ≤ n ∧ n < x.To)) → o1.length ≤ p.length + 1 → (l1 = false → o1.length ≤ p.length) →
        ∃ t, ivals_Add_J1 (p.length : Int) (ivals_Add_L0 s x f) y o1 l1 = some t ∧ VS t ∧ (∀ n, mem n t ↔ mem n s ∨ (x.From ≤ n ∧ n < x.To)) ∧ t.length ≤ s.length + 1 := fun o1 l1 b1 b2 b3 b4 b5 b6 => by
      obtain ⟨v1, v2, v3, v4⟩ := put_ok b1 hyn (h.lo y hym) (h.hi y hym) b2
      unfold ivals_Add_J1
      rw [put_eq (x := (⟨y.From, y.To⟩ : Iv)) (by omega) hyn, bnoS, bndD, w_at hs (by omega)]
      refine ih (p ++ [y]) f (putS o1 y) l1 (next_at hs) (by simpa using hf) v1 (fun z hz w hw => ?_) (fun hl1 z hz => ?_) (fun n => ?_) ?_ (fun hl1 => ?_)
      · have := v3 z hz; have := hyr w hw; omega
      · have := v3 z hz; have := b3 hl1; omega
      · rw [v2, b4, mem_app]
        constructor
        · rintro ((h5 | h5) | h5)
          · exact .inl (.inl h5)
          · exact .inr h5
          · exact .inl (.inr h5)
        · rintro ((h5 | h5) | h5)
          · exact .inl (.inl h5)
          · exact .inr h5
          · exact .inl (.inr h5)
      · rw [List.length_append, List.length_singleton]; omega
      · have := b6 hl1; rw [List.length_append, List.length_singleton]; omega
    by_cases hcond : laid = false ∧ x.From ≤ y.From
    · rw [hcond.1, decide_eq_true hcond.2]
      obtain ⟨v1, v2, v3, v4⟩ := put_ok hv hx h0 h1 (hb hcond.1)
      have := hd hcond.1
      simp only [Bool.not_false, Bool.and_self, bif_tt]
      rw [put_eq (x := (⟨x.From, x.To⟩ : Iv)) (by omega) hx, bnoS]
      refine fin (putS out x) true v1 (fun z hz => by have := v3 z hz; omega) (fun h => by cases h) (fun n => ?_) (by omega) (fun h => by cases h)
      rw [v2, hm, hcond.1]; simp
    · rw [show (!laid && decide (x.From ≤ y.From)) = false by
        cases laid
        · simp only [true_and] at hcond; rw [decide_eq_false hcond]; rfl
        · rfl, bif_ff]
      refine fin out laid hv (fun z hz => ha z hz y (by simp)) (fun hl1 => ?_) hm hc hd
      simp only [hl1, true_and] at hcond; omega
theorem add_eq {s : List Iv} {x : Iv} (hl : s.length ≤ 20000) (h : VS s) (h0 : 0 ≤ x.From) (h1 : x.To ≤ 4398046511104) (hx : x.From ≤ x.To) :
    ∃ t, ivals_Add s x = some t ∧ VS t ∧ (∀ n, mem n t ↔ mem n s ∨ (x.From ≤ n ∧ n < x.To)) ∧ (x.From = x.To → t = s) ∧ t.length ≤ s.length + 1 := by
  have hm : mayB x = true := by unfold mayB; simp; omega
  unfold ivals_Add
  rw [may_eq (⟨x.From, x.To⟩ : Iv), show mayB (⟨x.From, x.To⟩ : Iv) = true from hm, bnoS]
  simp only [bndD, Bool.not_true, beq_self_eq_true, gdtt, none_eq, bnoS, Bool.false_or]
  by_cases hn : x.To ≤ x.From
  · rw [decide_eq_true hn]
    refine ⟨s, ?_, h, fun n => ⟨.inl, fun h => by rcases h with h | h; exact h; omega⟩, fun _ => rfl, by omega⟩
    simp only [tf, gdff, bnoS, Bool.true_or, bif_tt, iclone (show s.length ≤ 100000 by omega)]
  · rw [decide_eq_false hn]
    obtain ⟨t, e1, e2, e3, e4⟩ := add_L hl h (by omega) h0 h1 s [] fuel [] false rfl (fuel_gt (by omega)) VS.nil (fun _ h => (List.not_mem_nil h).elim) (fun _ _ h => (List.not_mem_nil h).elim) (fun n => by simp) (by simp) (fun _ => by simp)
    refine ⟨t, ?_, e2, e3, fun h => by omega, e4⟩
    simp only [beq_self_eq_true, gdtt, icheck_eq (show s.length ≤ 100000 by omega) h, bnoS, decide_true, Bool.not_true, Bool.or_self, bif_ff]
    exact e1
/-! Gaps, Same. -/
theorem gaps_L {s : List Iv} {x : Iv} (hl : s.length ≤ 20000) (h : VS s) (hx : x.From < x.To) (h0 : 0 ≤ x.From) (h1 : x.To ≤ 4398046511104) (hd : ∀ y ∈ s, y.To ≤ x.From ∨ x.To ≤ y.From) : ∀ (r p : List Iv) (f : Nat), s = p ++ r → r.length < f → ivals_Gaps_L0 s f [x] (p.length : Int) = some [x]
  | [], p, f + 1, hs, _ => by
    unfold ivals_Gaps_L0
    simp only [bndD, lt_end hs, bif_ff]
  | y :: r, p, f + 1, hs, hf => by
    have hym : y ∈ s := by rw [hs]; simp
    have hyn := h.ne y hym
    have a1 := h.lo y hym
    have a2 := h.hi y hym
    have hdy := hd y hym
    have hv : VS [x] := ⟨by simp, fun z hz => by rw [List.mem_singleton.1 hz]; exact hx, fun z hz => by rw [List.mem_singleton.1 hz]; exact h0, fun z hz => by rw [List.mem_singleton.1 hz]; exact h1⟩
    unfold ivals_Gaps_L0
    simp only [bndD, lt_at hs, bif_tt, gix_at hs, bnoS]
    rw [cut_eq (x := (⟨y.From, y.To⟩ : Iv)) (by simp) hv ⟨a1, by show y.From ≤ _; omega, by show 0 ≤ y.To; omega, a2⟩, if_neg (by show ¬ y.To ≤ y.From; omega), cutS_same (x := (⟨y.From, y.To⟩ : Iv)) (fun z hz => by rw [List.mem_singleton.1 hz]; exact ⟨hx, by show x.To ≤ y.From ∨ y.To ≤ x.From; omega⟩) hyn, bnoS, w_at hs (by omega)]
    exact gaps_L hl h hx h0 h1 hd r (p ++ [y]) f (next_at hs) (by simpa using hf)
theorem gaps_eq {s : List Iv} {x : Iv} (hl : s.length ≤ 20000) (h : VS s) (hx : x.From < x.To) (h0 : 0 ≤ x.From) (h1 : x.To ≤ 4398046511104) (hd : ∀ n, x.From ≤ n → n < x.To → ¬ mem n s) : ivals_Gaps s x = some [x] := by
  have hm : mayB x = true := by unfold mayB; simp; omega
  have hd2 : ∀ y ∈ s, y.To ≤ x.From ∨ x.To ≤ y.From := fun y hy => by
    have hyn := h.ne y hy
    by_cases hc : y.To ≤ x.From ∨ x.To ≤ y.From
    · exact hc
    · exact absurd ⟨y, hy, by omega, by omega⟩ (hd (max x.From y.From) (by omega) (by omega))
  unfold ivals_Gaps
  rw [may_eq (⟨x.From, x.To⟩ : Iv), show mayB (⟨x.From, x.To⟩ : Iv) = true from hm, bnoS]
  simp only [bndD, Bool.not_true, beq_self_eq_true, gdtt, icheck_eq (show s.length ≤ 100000 by omega) h, bnoS, decide_true, Bool.or_self, none_eq, decide_eq_false (show ¬ x.To ≤ x.From by omega), bif_ff]
  exact gaps_L hl h hx h0 h1 hd2 s [] fuel rfl (fuel_gt (by omega))
theorem isame {l m : List Iv} (hl : l.length ≤ 1000000) : ivals_Same l m = some (decide (l = m)) := by
  have heq : ∀ x y : Iv, (decide (x.From = y.From) && (decide (x.To = y.To) && true)) = decide (x = y) := fun x y => by
    obtain ⟨a, b⟩ := x; obtain ⟨c, d⟩ := y; rw [Bool.eq_iff_iff]; simp
  have := equal_all (L := slices_Equal_ivals_Set_ivals_Ival_L0 l m) (m := m) (z := true) hl (fun p x r s y t f h k e => by
    rw [slices_Equal_ivals_Set_ivals_Ival_L0]
    simp only [bndD, lt_at h, bif_tt, gix_at h, show gix m (p.length : Int) = some y by rw [e]; exact gix_at k, bnoS, heq, w_at h hl]) (fun _ f => by
    rw [slices_Equal_ivals_Set_ivals_Ival_L0]
    simp only [bndD, lt_len, bif_ff])
  rw [Bool.and_true] at this
  have this : slices_Equal_ivals_Set_ivals_Ival l m = _ := this
  unfold ivals_Same
  rw [this, bnoS]
end Go.Fn
set_option linter.unusedSimpArgs false
set_option linter.unusedVariables false
open Go Go.IL
namespace Go.Fn
/-! A state that may be. -/
def endS (s : S23) : Int := s.Base + (s.Data.length : Int)
def fins (l : List Pc) : Nat := (l.filter (·.Fin)).length
structure G (s : S23) : Prop where
  b0 : 0 ≤ s.Base
  bn : s.Base ≤ s.Next
  nd : s.Next ≤ endS s
  en : endS s ≤ 1099511623680
  dl : s.Data.length ≤ 4096
  lv : VS s.Lost
  lb : ∀ x ∈ s.Lost, s.Base ≤ x.From ∧ x.To ≤ s.Next
  pw : s.Pieces.Pairwise (fun p q => p.To ≤ q.From)
  pb : ∀ p ∈ s.Pieces, (s.Base ≤ p.From ∧ p.From ≤ p.To ∧ p.To ≤ s.Next) ∧ 0 ≤ p.Path ∧ p.Path < 4
  pf : ∀ p ∈ s.Pieces, p.From = p.To → p.Fin = true
  pd : ∀ p ∈ s.Pieces, ∀ n, p.From ≤ n → n < p.To → ¬ mem n s.Lost
  fe : ∀ p ∈ s.Pieces, p.Fin = true → p.To = endS s
  fc : fins s.Pieces = if s.Sent = true ∧ s.Again = false ∧ s.Done = false then 1 else 0
  se : s.Sent = true → s.Closed = true ∧ s.Next = endS s ∧ ¬ (s.Again = true ∧ s.Done = true)
  ns : s.Sent = false → s.Again = false ∧ s.Done = false
  cov : ∀ n, s.Base ≤ n → n < s.Next → mem n s.Lost ∨ ∃ p ∈ s.Pieces, p.From ≤ n ∧ n < p.To
theorem pc_len : ∀ {l : List Pc} {a b : Int}, l.Pairwise (fun p q => p.To ≤ q.From) → (∀ p ∈ l, a ≤ p.From ∧ p.From ≤ p.To ∧ p.To ≤ b) → (∀ p ∈ l, p.From = p.To → p.Fin = true) → a ≤ b → (l.length : Int) ≤ b - a + fins l
  | [], a, b, _, _, _, h => by simp [fins]; omega
  | x :: l, a, b, hp, hb, hf, hab => by
    have hp := List.pairwise_cons.1 hp
    have h1 := hb x (by simp)
    have := pc_len (l := l) (a := x.To) (b := b) hp.2 (fun y hy => ⟨hp.1 y hy, (hb y (by simp [hy])).2⟩) (fun y hy => hf y (by simp [hy])) h1.2.2
    have hf1 : fins (x :: l) = fins l + if x.Fin = true then 1 else 0 := by unfold fins; rw [List.filter_cons]; split <;> simp
    rw [hf1]
    by_cases he : x.From = x.To
    · rw [if_pos (hf x (by simp) he)]
      simp only [List.length_cons]; omega
    · simp only [List.length_cons]; split <;> omega
theorem G.ll {s : S23} (h : G s) : s.Lost.length ≤ 4096 := by
  have h1 := vs_len h.lv.pw h.lv.ne h.lb h.bn
  have h2 := h.nd
  have h3 := h.dl
  unfold endS at h2; omega
theorem G.pl {s : S23} (h : G s) : s.Pieces.length ≤ 4097 := by
  have h1 := pc_len h.pw (fun p hp => (h.pb p hp).1) h.pf h.bn
  have h2 := h.nd
  have h3 := h.dl
  have h4 : fins s.Pieces ≤ 1 := by rw [h.fc]; split <;> omega
  unfold endS at h2; omega
theorem G.num {s : S23} (h : G s) : 0 ≤ s.Base ∧ s.Base ≤ s.Next ∧ s.Next ≤ endS s ∧ endS s ≤ 1099511623680 := ⟨h.b0, h.bn, h.nd, h.en⟩
theorem end_eq23 {s : S23} (h : G s) : sbuf_State_end s = some (endS s) := by
  obtain ⟨h1, h2, h3, h4⟩ := h.num
  unfold sbuf_State_end
  rw [bndD]; unfold endS at *; rw [w64 (by omega) (by omega)]
theorem own23 {s : S23} (hp : s.Pieces.length ≤ 100000) (hl : s.Lost.length ≤ 100000) : sbuf_State_own_h s = some (s.Base, s.Data, s.Next, s.Pieces, s.Lost, s.Closed, s.Sent, s.Again, s.Done) := by
  unfold sbuf_State_own_h
  have e : cpy (List.replicate s.Pieces.length (⟨0, 0, 0, false⟩ : Pc)) s.Pieces = s.Pieces := by
    unfold cpy
    rw [List.length_replicate, List.take_length, List.drop_of_length_le (by rw [List.length_replicate]; exact Nat.le_refl _), List.append_nil]
  rw [made_ok (by omega) (by omega) (by omega), bnoS, Int.toNat_natCast, bndD, e, iclone2 hl, bnoS]
theorem lost23 {s : S23} (h : G s) : sbuf_State_lost s = some true := by
  have hl := h.ll
  unfold sbuf_State_lost
  rw [icheck_eq (by omega) h.lv, bnoS]
  simp only [bndD, decide_true, Bool.not_true, bif_ff]
  cases hs : s.Lost with
  | nil => rfl
  | cons x r =>
    obtain ⟨p, y, hy⟩ : ∃ p y, x :: r = p ++ [y] := by
      rcases List.eq_nil_or_concat (x :: r) with h | ⟨p, y, h⟩
      · cases h
      · exact ⟨p, y, by rw [h, List.concat_eq_append]⟩
    have hlen : ((x :: r).length : Int) = (p.length : Int) + 1 := by rw [hy]; simp
    have hpl : p.length ≤ 5000 := by rw [hs, hy] at hl; simp at hl; omega
    have hw : IntKind.wrap .i64 (((x :: r).length : Int) - 1) = (p.length : Int) := by rw [hlen, w64 (by omega) (by omega)]; omega
    have hg : gix (x :: r) (p.length : Int) = some y := gix_at (r := []) hy
    have h0 : gix (x :: r) 0 = some x := rfl
    have hx := h.lb x (by rw [hs]; simp)
    have hyb := h.lb y (by rw [hs, hy]; simp)
    simp only [decide_eq_false (show ¬ ((x :: r).length : Int) = 0 by omega), beq_self_eq_true, gdtt, h0, bnoS, decide_eq_true hx.1, Bool.and_self, hw, hg, decide_eq_true hyb.2, Bool.or_true]
theorem fits23 {s : S23} (h : G s) {p : Pc} (hp : p ∈ s.Pieces) {at_ : Int} (ha : at_ ≤ p.From) : sbuf_State_fits s p at_ = some true := by
  obtain ⟨⟨a1, a2, a3⟩, a4, a5⟩ := h.pb p hp
  obtain ⟨n1, n2, n3, n4⟩ := h.num
  have hl := h.ll
  unfold sbuf_State_fits sbuf_path sbuf_Piece_ival
  simp only [bndD, decide_eq_false (show ¬ p.From < at_ by omega), decide_eq_false (show ¬ p.To < p.From by omega), decide_eq_false (show ¬ s.Next < p.To by omega), Bool.or_self, beq_self_eq_true, gdtt, decide_eq_true a4, decide_eq_true a5, Bool.and_self, bnoS, Bool.not_true, bif_ff]
  by_cases he : p.From = p.To
  · rw [decide_eq_true he, bif_tt, h.pf p hp he]
  · rw [decide_eq_false he, bif_ff, gaps_eq (x := (⟨p.From, p.To⟩ : Iv)) (by omega) h.lv (by show p.From < p.To; omega) (by show 0 ≤ p.From; omega) (by show p.To ≤ _; omega) (h.pd p hp), bnoS, isame (by simp), bnoS, decide_eq_true rfl]
theorem fins_app (l m : List Pc) : fins (l ++ m) = fins l + fins m := by unfold fins; rw [List.filter_append, List.length_append]
theorem ends_L {s : S23} (h : G s) : ∀ (r p : List Pc) (f : Nat), s.Pieces = p ++ r → r.length < f → sbuf_State_ends_L0 s f (fins p : Int) (p.length : Int) = some true
  | [], p, f + 1, hs, _ => by
    unfold sbuf_State_ends_L0
    rw [List.append_nil] at hs
    have hc := h.fc
    rw [hs] at hc
    simp only [bndD, show decide ((p.length : Int) < (s.Pieces.length : Int)) = false by rw [hs]; exact lt_len, bif_ff]
    cases hS : s.Sent
    · obtain ⟨h1, h2⟩ := h.ns hS
      rw [hS] at hc
      simp at hc
      simp [hc, h1, h2]
    · obtain ⟨h1, h2, h3⟩ := h.se hS
      rw [hS] at hc
      simp only [h1, Bool.not_true, bif_ff, beq_self_eq_true, gdtt, end_eq23 h, bnoS, decide_eq_true h2, Bool.or_self, Bool.false_or]
      cases hA : s.Again <;> cases hD : s.Done <;> rw [hA, hD] at hc h3 <;> simp at hc h3 <;> simp [hc]
  | x :: r, p, f + 1, hs, hf => by
    have hx : x ∈ s.Pieces := by rw [hs]; simp
    have hpl := h.pl
    have hpp : p.length + (r.length + 1) = s.Pieces.length := by rw [hs]; simp
    have hfl : fins p ≤ p.length := List.length_filter_le _ _
    have ih := ends_L h r (p ++ [x]) f (next_at hs) (by simpa using hf)
    rw [fins_app] at ih
    unfold sbuf_State_ends_L0
    simp only [bndD, lt_at hs, bif_tt, gix_at hs, bnoS, end_eq23 h, w_at hs (show s.Pieces.length ≤ 1000000 by omega)]
    cases hF : x.Fin
    · rw [bif_ff]
      have : fins [x] = 0 := by simp [fins, hF]
      rw [this] at ih; exact ih
    · have : fins [x] = 1 := by simp [fins, hF]
      rw [this] at ih
      rw [bif_tt, decide_eq_true (h.fe x hx hF), Bool.not_true, bif_ff, w64 (by omega) (by omega)]
      exact ih
theorem check_L1 {s : S23} (h : G s) : ∀ (r p : List Pc) (f : Nat) (at_ : Int), s.Pieces = p ++ r → r.length < f → (∀ q ∈ r, at_ ≤ q.From) → sbuf_Check_L1 s f at_ (p.length : Int) = some 0
  | [], p, f + 1, at_, hs, _, _ => by
    unfold sbuf_Check_L1
    have he := ends_L h s.Pieces [] fuel rfl (fuel_gt (by have := h.pl; omega))
    have he : sbuf_State_ends s = some true := he
    simp only [bndD, lt_end hs, bif_ff, he, bnoS, Bool.not_true]
  | x :: r, p, f + 1, at_, hs, hf, ha => by
    have hx : x ∈ s.Pieces := by rw [hs]; simp
    have hpl := h.pl
    unfold sbuf_Check_L1
    simp only [bndD, lt_at hs, bif_tt, gix_at hs, bnoS, fits23 h hx (ha x (by simp)), Bool.not_true, bif_ff, w_at hs (show s.Pieces.length ≤ 1000000 by omega)]
    refine check_L1 h r (p ++ [x]) f x.To (next_at hs) (by simpa using hf) (fun q hq => ?_)
    have := h.pw
    rw [hs] at this
    exact (List.pairwise_cons.1 (List.pairwise_append.1 this).2.1).1 q hq
theorem check23 {s : S23} (h : G s) : sbuf_Check s = some 0 := by
  obtain ⟨n1, n2, n3, n4⟩ := h.num
  have hd := h.dl
  have e : endS s = s.Base + (s.Data.length : Int) := rfl
  unfold sbuf_Check sbuf_Check_J0
  simp only [bndD, decide_eq_false (show ¬ s.Base < 0 by omega), decide_eq_false (show ¬ 1099511623680 < s.Base by omega), decide_eq_false (show ¬ s.Next < s.Base by omega), w64 (show -9223372036854775808 ≤ s.Next - s.Base by omega) (by omega), decide_eq_false (show ¬ (s.Data.length : Int) < s.Next - s.Base by omega), decide_eq_false (show ¬ (4096 : Int) < (s.Data.length : Int) by omega), bif_ff, lost23 h, bnoS, Bool.not_true]
  exact check_L1 h s.Pieces [] fuel s.Base rfl (fuel_gt (by have := h.pl; omega)) (fun q hq => (h.pb q hq).1.1)
def new23 : S23 := ⟨0, [], 0, [], [], false, false, false, false⟩
theorem g_new : G new23 := ⟨by decide, by decide, by decide, by decide, by decide, VS.nil, fun _ h => (List.not_mem_nil h).elim, .nil, fun _ h => (List.not_mem_nil h).elim, fun _ h => (List.not_mem_nil h).elim, fun _ h => (List.not_mem_nil h).elim, fun _ h => (List.not_mem_nil h).elim, rfl, fun h => (by cases h), fun _ => ⟨rfl, rfl⟩, fun n h1 h2 => by have h1 : (0 : Int) ≤ n := h1; have h2 : n < 0 := h2; omega⟩
/-! Write, Close. -/
def roomS (s : S23) : Int := if s.Closed = true then 0 else 4096 - (s.Data.length : Int)
theorem room23 {s : S23} (h : G s) : sbuf_Room s = some (roomS s) := by
  have hd := h.dl
  unfold sbuf_Room roomS
  cases s.Closed
  · rw [bif_ff, bndD, w64 (by omega) (by omega)]; rfl
  · rfl
def writeN (s : S23) (str : List UInt8) : Nat := if endS s ≤ 1099511623680 - min (roomS s) (str.length : Int) then (min (roomS s) (str.length : Int)).toNat else 0
def writeS (s : S23) (str : List UInt8) : S23 := ⟨s.Base, s.Data ++ str.take (writeN s str), s.Next, s.Pieces, s.Lost, s.Closed, s.Sent, s.Again, s.Done⟩
theorem room_range {s : S23} (h : G s) : 0 ≤ roomS s ∧ roomS s ≤ 4096 - (s.Data.length : Int) := by
  have hd := h.dl
  unfold roomS; split <;> omega
theorem writeN_le {s : S23} (h : G s) (str : List UInt8) : (writeN s str : Int) ≤ roomS s ∧ writeN s str ≤ str.length := by
  have := room_range h
  unfold writeN; split <;> omega
theorem write23 {s : S23} (h : G s) (str : List UInt8) (hs : str.length ≤ 100000) : sbuf_Write s str = some (writeS s str, (writeN s str : Int)) := by
  have hp := h.pl
  have hl := h.ll
  have hr := room_range h
  have hd := h.dl
  obtain ⟨n1, n2, n3, n4⟩ := h.num
  unfold sbuf_Write
  rw [own23 (by omega) (by omega), bnoS, check23 h, bnoS]
  simp only [bndD, decide_true, Bool.not_true, bif_ff, room23 h, bnoS, end_eq23 h, w64 (show -9223372036854775808 ≤ 1099511623680 - min (roomS s) (str.length : Int) by omega) (by omega)]
  unfold writeS writeN
  by_cases hc : endS s ≤ 1099511623680 - min (roomS s) (str.length : Int)
  · rw [decide_eq_false (by omega), bif_ff, if_pos hc]
    obtain ⟨k, hk⟩ : ∃ k : Nat, min (roomS s) (str.length : Int) = (k : Int) := ⟨(min (roomS s) (str.length : Int)).toNat, by omega⟩
    have hkl : k ≤ str.length := by omega
    have hcat : cat s.Data (str.take k) = some (s.Data ++ str.take k) := by unfold cat; rw [if_pos (by rw [List.length_take]; omega)]
    rw [hk, cut_take hkl, bnoS, hcat, bnoS, Int.toNat_natCast]
  · rw [decide_eq_true (by omega), bif_tt, if_neg hc]
    simp
theorem g_write {s : S23} (h : G s) (str : List UInt8) : G (writeS s str) := by
  obtain ⟨k1, k2⟩ := writeN_le h str
  have hr := room_range h
  obtain ⟨n1, n2, n3, n4⟩ := h.num
  have hd := h.dl
  have hdl : (writeS s str).Data.length = s.Data.length + writeN s str := by show (s.Data ++ str.take _).length = _; rw [List.length_append, List.length_take]; omega
  have he : endS (writeS s str) = endS s + writeN s str := by unfold endS; rw [hdl]; show s.Base + _ = _; omega
  have hen : endS s + writeN s str ≤ 1099511623680 := by unfold writeN; split <;> omega
  have hcl : s.Closed = true → writeN s str = 0 := fun hc => by have : roomS s = 0 := by unfold roomS; rw [if_pos hc]
                                                                omega
  refine ⟨h.b0, h.bn, by rw [he]; show s.Next ≤ _; omega, by rw [he]; exact hen, by rw [hdl]; omega, h.lv, h.lb, h.pw, h.pb, h.pf, h.pd, fun p hp hF => ?_, h.fc, fun hS => ?_, h.ns, h.cov⟩
  · rw [he, h.fe p hp hF]
    have : s.Sent = true := by
      cases hS : s.Sent
      · have hc := h.fc
        rw [hS] at hc; simp at hc
        have : p ∈ s.Pieces.filter (·.Fin) := List.mem_filter.2 ⟨hp, hF⟩
        rw [List.length_eq_zero_iff.1 hc] at this
        exact (List.not_mem_nil this).elim
      · rfl
    rw [hcl (h.se this).1]; omega
  · obtain ⟨a1, a2, a3⟩ := h.se hS
    refine ⟨a1, ?_, a3⟩
    rw [he, hcl a1]; show s.Next = _; omega
def closeS (s : S23) : S23 := ⟨s.Base, s.Data, s.Next, s.Pieces, s.Lost, true, s.Sent, s.Again, s.Done⟩
theorem close23 {s : S23} (h : G s) : sbuf_Close s = some (closeS s) := by
  have hp := h.pl
  have hl := h.ll
  unfold sbuf_Close closeS
  rw [own23 (by omega) (by omega), bnoS]
  simp only [bndD, check23 h]
  cases s.Closed
  · simp only [beq_self_eq_true, gdtt, bnoS, decide_true, Bool.or_true]
  · simp only [tf, gdff, bnoS, Bool.true_or]
theorem g_close {s : S23} (h : G s) : G (closeS s) := ⟨h.b0, h.bn, h.nd, h.en, h.dl, h.lv, h.lb, h.pw, h.pb, h.pf, h.pd, h.fe, h.fc, fun hS => ⟨rfl, (h.se hS).2⟩, h.ns, h.cov⟩
end Go.Fn
set_option linter.unusedSimpArgs false
set_option linter.unusedVariables false
open Go Go.IL
namespace Go.Fn
/-! Pick. -/
def dueS (s : S23) : Bool := if (!s.Closed || s.Done) = true then false else s.Again || !s.Sent
theorem due23 (s : S23) : sbuf_State_due s = some (dueS s) := by
  unfold sbuf_State_due dueS
  simp only [bndD]
  cases !s.Closed || s.Done <;> rfl
theorem due_of {s : S23} (h : dueS s = true) : s.Closed = true ∧ s.Done = false ∧ (s.Again = true ∨ s.Sent = false) := by
  unfold dueS at h
  cases hC : s.Closed <;> cases hD : s.Done <;> rw [hC, hD] at h <;> simp at h
  exact ⟨rfl, rfl, by simpa using h⟩
def nextS (s : S23) (most limit : Int) : Pc × Bool := match s.Lost with
  | x :: _ => (⟨x.From, x.From + min most (x.To - x.From), 0, false⟩, true)
  | [] => if 0 < endS s - s.Next then (⟨s.Next, s.Next + min (min (endS s - s.Next) most) (max limit s.Next - s.Next), 0, false⟩, decide (0 < min (min (endS s - s.Next) most) (max limit s.Next - s.Next))) else (⟨s.Next, s.Next, 0, false⟩, dueS s)
theorem next23 {s : S23} (h : G s) {most limit : Int} (hm : 1 ≤ most ∧ most ≤ 1000000) (hl : 0 ≤ limit ∧ limit ≤ 4398046511104) : sbuf_State_next s most limit = some (nextS s most limit) := by
  obtain ⟨n1, n2, n3, n4⟩ := h.num
  unfold sbuf_State_next nextS
  cases hs : s.Lost with
  | cons x r =>
    have hx : x ∈ s.Lost := by rw [hs]; simp
    have a1 := h.lv.ne x hx
    have a2 := h.lb x hx
    have h0 : gix (x :: r) 0 = some x := rfl
    simp only [bndD, decide_eq_true (show (0 : Int) < ((x :: r).length : Int) by simp only [List.length_cons]; omega), bif_tt, h0, bnoS, w64 (show -9223372036854775808 ≤ x.To - x.From by omega) (by omega), w64 (show -9223372036854775808 ≤ x.From + min most (x.To - x.From) by omega) (by omega)]
  | nil =>
    simp only [bndD, List.length_nil, show decide ((0 : Int) < ((0 : Nat) : Int)) = false from rfl, bif_ff, end_eq23 h, bnoS, w64 (show -9223372036854775808 ≤ endS s - s.Next by omega) (by omega)]
    by_cases hc : 0 < endS s - s.Next
    · rw [decide_eq_true hc, bif_tt, if_pos hc, w64 (show -9223372036854775808 ≤ max limit s.Next - s.Next by omega) (by omega), w64 (show -9223372036854775808 ≤ s.Next + min (min (endS s - s.Next) most) (max limit s.Next - s.Next) by omega) (by omega)]
    · rw [decide_eq_false hc, bif_ff, if_neg hc, due23, bnoS]
def before (p q : Pc) : Bool := decide (p.From < q.From) || (decide (q.From = p.From) && decide (p.To ≤ q.To))
theorem place23 {s : S23} (h : G s) (p : Pc) (hp : p.From ≤ endS s) (hp2 : p.From = endS s → p.To ≤ endS s) : ∃ A B : List Pc, s.Pieces = A ++ B ∧ (∀ a ∈ A, before p a = false) ∧ (∀ b B', B = b :: B' → before p b = true) ∧ sbuf_State_place s p = some (A.length : Int) := by
  obtain ⟨n1, n2, n3, n4⟩ := h.num
  have hpl := h.pl
  have hsent : before p (⟨endS s, endS s + 1, 0, false⟩ : Pc) = true := by
    unfold before
    by_cases he : p.From = endS s
    · have := hp2 he
      simp [he]; omega
    · simp; left; omega
  rcases idxf_gen (L := slices_IndexFunc_sbuf_Piece_sbuf_Piece_place_1_L0 (s.Pieces ++ [(⟨endS s, endS s + 1, 0, false⟩ : Pc)]) p) (q := before p) (l := s.Pieces ++ [(⟨endS s, endS s + 1, 0, false⟩ : Pc)]) (fun p' x r f hh => by
      rw [slices_IndexFunc_sbuf_Piece_sbuf_Piece_place_1_L0]
      have hx : sbuf_State_place_1 x p = some (before p x) := rfl
      simp only [bndD, lt_at hh, bif_tt, gix_at hh, bnoS, hx, w_at hh (by simp; omega)]) (fun f => by
      rw [slices_IndexFunc_sbuf_Piece_sbuf_Piece_place_1_L0]
      simp only [bndD, lt_len, bif_ff]) (s.Pieces ++ [(⟨endS s, endS s + 1, 0, false⟩ : Pc)]) [] fuel rfl (fuel_gt (by simp; omega)) (fun _ h => (List.not_mem_nil h).elim) with ⟨_, e2⟩ | ⟨a, x, t, e1, e2, e3, e4⟩
  · have := e2 _ (List.mem_append.2 (.inr (List.mem_singleton.2 rfl)))
    rw [hsent] at this; cases this
  · have hal : a.length ≤ s.Pieces.length := by have := congrArg List.length e1; simp at this; omega
    have hA : a = s.Pieces.take a.length := by
      have := congrArg (List.take a.length) e1
      rw [List.take_append_of_le_length hal, List.take_append_of_le_length (Nat.le_refl _), List.take_length] at this
      exact this.symm
    refine ⟨a, s.Pieces.drop a.length, by conv => lhs; rw [← List.take_append_drop a.length s.Pieces, ← hA], e2, fun b B' hb => ?_, ?_⟩
    · have h5 : (s.Pieces ++ [(⟨endS s, endS s + 1, 0, false⟩ : Pc)])[a.length]? = some x := by rw [e1, List.getElem?_append_right (Nat.le_refl _)]; simp
      have hlt : a.length < s.Pieces.length := by
        have := congrArg List.length hb
        rw [List.length_drop, List.length_cons] at this; omega
      rw [List.getElem?_append_left hlt] at h5
      have h6 : (s.Pieces.drop a.length)[0]? = some x := by rw [List.getElem?_drop]; simpa using h5
      rw [hb] at h6
      have : b = x := by simpa using h6
      rw [this]; exact e3
    · unfold sbuf_State_place slices_IndexFunc_sbuf_Piece_sbuf_Piece_place_1
      have hc := cut_take (l := s.Pieces) (Nat.le_refl _)
      rw [List.take_length] at hc
      simp only [bndD, hc, bnoS, end_eq23 h, w64 (show -9223372036854775808 ≤ endS s + 1 by omega) (by omega)]
      rw [app_ok (by simp; omega) (by simp; omega), bnoS]
      have e4 : slices_IndexFunc_sbuf_Piece_sbuf_Piece_place_1_L0 (s.Pieces ++ [(⟨endS s, endS s + 1, 0, false⟩ : Pc)]) p fuel 0 = _ := e4
      rw [e4, bnoS]
/-- What is picked. -/
structure Pk (s : S23) (p : Pc) (lost : List Iv) : Prop where
  lo : s.Base ≤ p.From
  le : p.From ≤ p.To
  nx : p.From ≤ s.Next
  hi : p.To ≤ endS s
  pa : 0 ≤ p.Path ∧ p.Path < 4
  em : p.From = p.To → p.From = s.Next ∧ p.Fin = true
  dj : ∀ q ∈ s.Pieces, ∀ n, p.From ≤ n → n < p.To → ¬ (q.From ≤ n ∧ n < q.To)
  fi : p.Fin = (decide (p.To = endS s) && dueS s)
  lv : VS lost
  lb : ∀ x ∈ lost, s.Base ≤ x.From ∧ x.To ≤ s.Next
  lm : ∀ n, mem n lost ↔ mem n s.Lost ∧ ¬ (p.From ≤ n ∧ n < p.To)
def pickSt (s : S23) (p : Pc) (lost : List Iv) (A B : List Pc) : S23 := ⟨s.Base, s.Data, max s.Next p.To, A ++ [p] ++ B, lost, s.Closed, if p.Fin = true then true else s.Sent, if p.Fin = true then false else s.Again, s.Done⟩
theorem g_pick {s : S23} (h : G s) {p : Pc} {lost : List Iv} {A B : List Pc} (k : Pk s p lost) (hs : s.Pieces = A ++ B) (hA : ∀ a ∈ A, before p a = false) (hB : ∀ b B', B = b :: B' → before p b = true) : G (pickSt s p lost A B) := by
  obtain ⟨n1, n2, n3, n4⟩ := h.num
  have he : endS (pickSt s p lost A B) = endS s := rfl
  have hmem : ∀ q, q ∈ A ++ [p] ++ B ↔ q = p ∨ q ∈ s.Pieces := fun q => by
    rw [hs]; simp only [List.mem_append, List.mem_singleton]
    constructor
    · rintro ((h1 | h1) | h1)
      · exact .inr (.inl h1)
      · exact .inl h1
      · exact .inr (.inr h1)
    · rintro (h1 | h1 | h1)
      · exact .inl (.inr h1)
      · exact .inl (.inl h1)
      · exact .inr h1
  have k1 := k.lo; have k2 := k.le; have k3 := k.nx; have k4 := k.hi
  have hap : ∀ a ∈ A, a.To ≤ p.From := fun a ha => by
    have hb := hA a ha
    have ham : a ∈ s.Pieces := by rw [hs]; simp [ha]
    have hpb := (h.pb a ham).1
    unfold before at hb
    simp only [Bool.or_eq_false_iff, Bool.and_eq_false_iff, decide_eq_false_iff_not] at hb
    obtain ⟨b1, b2⟩ := hb
    by_cases hpe : p.From = p.To
    · have := (k.em hpe).1; omega
    · by_cases hae : a.From = a.To
      · omega
      · have := k.dj a ham (max p.From a.From) (by omega)
        by_cases hc : a.To ≤ p.From
        · exact hc
        · exfalso; exact this (by omega) ⟨by omega, by omega⟩
  have hpb : ∀ b ∈ B, p.To ≤ b.From := fun b hb => by
    cases hBB : B with
    | nil => rw [hBB] at hb; exact (List.not_mem_nil hb).elim
    | cons b0 B' =>
      have hb0 := hB b0 B' hBB
      have hbm : b0 ∈ s.Pieces := by rw [hs, hBB]; simp
      have hbb := (h.pb b0 hbm).1
      have key : p.To ≤ b0.From := by
        unfold before at hb0
        simp only [Bool.or_eq_true, Bool.and_eq_true, decide_eq_true_iff] at hb0
        by_cases hpe : p.From = p.To
        · omega
        · by_cases hbe : b0.From = b0.To
          · have := h.fe b0 hbm (h.pf b0 hbm hbe); omega
          · have := k.dj b0 hbm (max p.From b0.From) (by omega)
            by_cases hc : p.To ≤ b0.From
            · exact hc
            · exfalso; exact this (by omega) ⟨by omega, by omega⟩
      rw [hBB] at hb
      rcases List.mem_cons.1 hb with rfl | hb
      · exact key
      · have := h.pw
        rw [hs, hBB] at this
        have := (List.pairwise_cons.1 (List.pairwise_append.1 this).2.1).1 b hb
        omega
  have hpw := List.pairwise_append.1 (hs ▸ h.pw)
  refine ⟨h.b0, by show s.Base ≤ max s.Next p.To; omega, by rw [he]; show max s.Next p.To ≤ _; omega, h.en, h.dl, k.lv, fun x hx => ⟨(k.lb x hx).1, by have := (k.lb x hx).2; show x.To ≤ max s.Next p.To; omega⟩, ?_, fun q hq => ?_, fun q hq hqe => ?_, fun q hq n h1 h2 => ?_, fun q hq hF => ?_, ?_, fun hS => ?_, fun hS => ?_, fun n h1 h2 => ?_⟩
  · show (A ++ [p] ++ B).Pairwise _
    rw [List.pairwise_append, List.pairwise_append]
    refine ⟨⟨hpw.1, by simp, fun a ha b hb => ?_⟩, hpw.2.1, fun a ha b hb => ?_⟩
    · rw [List.mem_singleton.1 hb]; exact hap a ha
    · rcases List.mem_append.1 ha with ha | ha
      · exact hpw.2.2 a ha b hb
      · rw [List.mem_singleton.1 ha]; exact hpb b hb
  · rcases (hmem q).1 hq with rfl | hq
    · exact ⟨⟨k1, k2, by show q.To ≤ max s.Next q.To; omega⟩, k.pa⟩
    · obtain ⟨⟨a1, a2, a3⟩, a4⟩ := h.pb q hq
      exact ⟨⟨a1, a2, by show q.To ≤ max s.Next p.To; omega⟩, a4⟩
  · rcases (hmem q).1 hq with rfl | hq
    · exact (k.em hqe).2
    · exact h.pf q hq hqe
  · rcases (hmem q).1 hq with rfl | hq
    · intro hm; exact ((k.lm n).1 hm).2 ⟨h1, h2⟩
    · intro hm; exact h.pd q hq n h1 h2 ((k.lm n).1 hm).1
  · rcases (hmem q).1 hq with rfl | hq
    · rw [k.fi, Bool.and_eq_true, decide_eq_true_iff] at hF; exact hF.1
    · exact h.fe q hq hF
  · show fins (A ++ [p] ++ B) = _
    have hf : fins (A ++ [p] ++ B) = fins s.Pieces + if p.Fin = true then 1 else 0 := by
      rw [hs, fins_app, fins_app, fins_app]
      have : fins [p] = if p.Fin = true then 1 else 0 := by unfold fins; rw [List.filter_cons]; split <;> rfl
      rw [this]; omega
    rw [hf, h.fc]
    unfold pickSt
    cases hF : p.Fin
    · simp
    · have hd := k.fi
      rw [hF] at hd
      have hd2 := due_of (Bool.and_eq_true _ _ |>.mp hd.symm).2
      simp only [if_true]
      rw [if_neg (by rintro ⟨x1, x2, x3⟩; rcases hd2.2.2 with x4 | x4 <;> simp_all), if_pos (by simp [hd2.2.1])]
  · rw [he]
    cases hF : p.Fin
    · have hS : s.Sent = true := by have : (if p.Fin = true then true else s.Sent) = true := hS; rwa [hF] at this
      obtain ⟨a1, a2, a3⟩ := h.se hS
      refine ⟨a1, by show max s.Next p.To = _; omega, ?_⟩
      show ¬ ((if p.Fin = true then false else s.Again) = true ∧ s.Done = true)
      rw [hF]; exact a3
    · have hd := k.fi
      rw [hF] at hd
      have hd1 := Bool.and_eq_true _ _ |>.mp hd.symm
      have hd2 := due_of hd1.2
      refine ⟨hd2.1, by have := of_decide_eq_true hd1.1; show max s.Next p.To = _; omega, ?_⟩
      show ¬ ((if p.Fin = true then false else s.Again) = true ∧ s.Done = true)
      rw [hF]; simp
  · have hS : (if p.Fin = true then true else s.Sent) = false := hS
    cases hF : p.Fin
    · rw [hF] at hS
      have := h.ns (by simpa using hS)
      refine ⟨?_, this.2⟩
      show (if p.Fin = true then false else s.Again) = false
      rw [hF]; exact this.1
    · rw [hF] at hS; cases hS
  · have h2 : n < max s.Next p.To := h2
    by_cases hp : p.From ≤ n ∧ n < p.To
    · exact .inr ⟨p, (hmem p).2 (.inl rfl), hp⟩
    · rcases h.cov n h1 (by omega) with hm | ⟨q, hq, hqn⟩
      · exact .inl ((k.lm n).2 ⟨hm, hp⟩)
      · exact .inr ⟨q, (hmem q).2 (.inr hq), hqn⟩
def pieceS (s : S23) (by_ most limit : Int) : Pc := ⟨(nextS s most limit).1.From, (nextS s most limit).1.To, by_, decide ((nextS s most limit).1.To = endS s) && dueS s⟩
def lostS (s : S23) (p : Pc) : List Iv := if p.To ≤ p.From then s.Lost else cutS s.Lost ⟨p.From, p.To⟩
theorem pk_of {s : S23} (h : G s) {by_ most limit : Int} (hb : 0 ≤ by_ ∧ by_ < 4) (hm : 1 ≤ most ∧ most ≤ 1000000) (hl : 0 ≤ limit ∧ limit ≤ 4398046511104) (his : (nextS s most limit).2 = true) : Pk s (pieceS s by_ most limit) (lostS s (pieceS s by_ most limit)) := by
  obtain ⟨n1, n2, n3, n4⟩ := h.num
  have hlost : ∀ p : Pc, p.From ≤ p.To → VS (lostS s p) ∧ (∀ x ∈ lostS s p, s.Base ≤ x.From ∧ x.To ≤ s.Next) ∧ ∀ n, mem n (lostS s p) ↔ mem n s.Lost ∧ ¬ (p.From ≤ n ∧ n < p.To) := fun p hp => by
    unfold lostS
    by_cases hc : p.To ≤ p.From
    · rw [if_pos hc]
      exact ⟨h.lv, h.lb, fun n => ⟨fun hm => ⟨hm, by omega⟩, fun hm => hm.1⟩⟩
    · rw [if_neg hc]
      have hx : (⟨p.From, p.To⟩ : Iv).From < (⟨p.From, p.To⟩ : Iv).To := by show p.From < p.To; omega
      refine ⟨cutS_vs h.lv hx, fun x hxm => ?_, fun n => cutS_mem hx⟩
      obtain ⟨y, hy, a1, a2, a3, _⟩ := cutS_sub hxm
      have := h.lb y hy
      omega
  unfold pieceS
  unfold nextS at his ⊢
  cases hs : s.Lost with
  | cons x r =>
    simp only []
    have hx : x ∈ s.Lost := by rw [hs]; simp
    have a1 := h.lv.ne x hx
    have a2 := h.lb x hx
    have hle : x.From ≤ x.From + min most (x.To - x.From) := by omega
    obtain ⟨b1, b2, b3⟩ := hlost ⟨x.From, x.From + min most (x.To - x.From), by_, decide (x.From + min most (x.To - x.From) = endS s) && dueS s⟩ hle
    refine ⟨a2.1, hle, by show x.From ≤ s.Next; omega, by show x.From + min most (x.To - x.From) ≤ _; omega, hb, fun he => ?_, fun q hq n h1 h2 hqn => ?_, rfl, b1, b2, b3⟩
    · have he : x.From = x.From + min most (x.To - x.From) := he
      omega
    · have h1 : x.From ≤ n := h1
      have h2 : n < x.From + min most (x.To - x.From) := h2
      exact h.pd q hq n hqn.1 hqn.2 ⟨x, hx, h1, by omega⟩
  | nil =>
    rw [hs] at his
    simp only [] at his ⊢
    by_cases hc : 0 < endS s - s.Next
    · rw [if_pos hc] at his
      simp only [if_pos hc]
      have hn := of_decide_eq_true his
      have hle : s.Next ≤ s.Next + min (min (endS s - s.Next) most) (max limit s.Next - s.Next) := by omega
      obtain ⟨b1, b2, b3⟩ := hlost ⟨s.Next, s.Next + min (min (endS s - s.Next) most) (max limit s.Next - s.Next), by_, decide (s.Next + min (min (endS s - s.Next) most) (max limit s.Next - s.Next) = endS s) && dueS s⟩ hle
      refine ⟨n2, hle, Int.le_refl _, by show s.Next + min (min (endS s - s.Next) most) (max limit s.Next - s.Next) ≤ _; omega, hb, fun he => ?_, fun q hq n h1 h2 hqn => ?_, rfl, b1, b2, b3⟩
      · have he : s.Next = s.Next + min (min (endS s - s.Next) most) (max limit s.Next - s.Next) := he
        omega
      · have h1 : s.Next ≤ n := h1
        have := (h.pb q hq).1; omega
    · rw [if_neg hc] at his
      simp only [if_neg hc]
      have hd : dueS s = true := his
      have hne : s.Next = endS s := by omega
      obtain ⟨b1, b2, b3⟩ := hlost ⟨s.Next, s.Next, by_, decide (s.Next = endS s) && dueS s⟩ (Int.le_refl _)
      refine ⟨n2, Int.le_refl _, Int.le_refl _, by show s.Next ≤ _; omega, hb, fun he => ⟨rfl, by show (decide (s.Next = endS s) && dueS s) = true; rw [hd, decide_eq_true hne]; rfl⟩, fun q hq n h1 h2 hqn => ?_, rfl, b1, b2, b3⟩
      have h1 : s.Next ≤ n := h1
      have h2 : n < s.Next := h2
      omega
theorem pick_no {s : S23} (h : G s) {by_ most limit : Int} (hb : 0 ≤ by_ ∧ by_ < 4) (hm : most ≤ 1000000) (hl : 0 ≤ limit ∧ limit ≤ 4398046511104) (his : most < 1 ∨ (nextS s most limit).2 = false) : sbuf_Pick s by_ most limit = some (s, ⟨0, 0, 0, false⟩, [], false) := by
  have hp := h.pl
  have hll := h.ll
  unfold sbuf_Pick sbuf_path
  rw [own23 (by omega) (by omega), bnoS]
  simp only [bndD, decide_eq_true hb.1, decide_eq_true hb.2, Bool.and_self, bnoS, Bool.not_true, Bool.false_or]
  by_cases h1 : most < 1
  · rw [decide_eq_true h1]
    simp only [tf, gdff, bnoS, Bool.true_or, bif_tt]
  · rw [decide_eq_false h1]
    have h2 : (nextS s most limit).2 = false := by rcases his with h2 | h2; exact absurd h2 h1; exact h2
    simp only [beq_self_eq_true, gdtt, check23 h, bnoS, decide_true, Bool.not_true, Bool.or_self, bif_ff, next23 h ⟨by omega, hm⟩ hl, h2, Bool.not_false, bif_tt]
theorem pick_yes {s : S23} (h : G s) {by_ most limit : Int} (hb : 0 ≤ by_ ∧ by_ < 4) (hm : 1 ≤ most ∧ most ≤ 1000000) (hl : 0 ≤ limit ∧ limit ≤ 4398046511104) (his : (nextS s most limit).2 = true) :
    ∃ A B : List Pc, s.Pieces = A ++ B ∧ G (pickSt s (pieceS s by_ most limit) (lostS s (pieceS s by_ most limit)) A B) ∧
      sbuf_Pick s by_ most limit = some (pickSt s (pieceS s by_ most limit) (lostS s (pieceS s by_ most limit)) A B, pieceS s by_ most limit, (s.Data.take ((pieceS s by_ most limit).To - s.Base).toNat).drop ((pieceS s by_ most limit).From - s.Base).toNat, true) := by
  obtain ⟨n1, n2, n3, n4⟩ := h.num
  have hp := h.pl
  have hll := h.ll
  have k := pk_of h hb hm hl his
  have k1 := k.lo; have k2 := k.le; have k3 := k.nx; have k4 := k.hi
  obtain ⟨A, B, e1, e2, e3, e4⟩ := place23 h (pieceS s by_ most limit) (by omega) (fun _ => k4)
  have hg := g_pick h k e1 e2 e3
  refine ⟨A, B, e1, hg, ?_⟩
  have hAl : A.length ≤ s.Pieces.length := by rw [e1]; simp
  have hcut : cut s.Data ((pieceS s by_ most limit).From - s.Base) ((pieceS s by_ most limit).To - s.Base) = some ((s.Data.take ((pieceS s by_ most limit).To - s.Base).toNat).drop ((pieceS s by_ most limit).From - s.Base).toNat) := by
    unfold cut; rw [if_pos (by unfold endS at k4; omega)]
  have hJ1 : ∀ (p : Pc) (S1 A1 : Bool) (L : List Iv), p = pieceS s by_ most limit → sbuf_Pick_J1 s by_ (s.Base, s.Data, s.Next, s.Pieces, s.Lost, s.Closed, s.Sent, s.Again, s.Done) (nextS s most limit) (max s.Next (nextS s most limit).1.To) L S1 A1 p.Fin =
      some (⟨s.Base, s.Data, max s.Next p.To, A ++ [p] ++ B, L, s.Closed, S1, A1, s.Done⟩, p, (s.Data.take (p.To - s.Base).toNat).drop (p.From - s.Base).toNat, true) := fun p S1 A1 L hp' => by
    have hpe : (⟨(nextS s most limit).1.From, (nextS s most limit).1.To, by_, p.Fin⟩ : Pc) = p := by rw [hp']; rfl
    have hto : (nextS s most limit).1.To = p.To := by rw [hp']; rfl
    have hpe2 : (⟨p.From, p.To, by_, p.Fin⟩ : Pc) = p := by rw [hp']; rfl
    have hfr : (nextS s most limit).1.From = p.From := by rw [hp']; rfl
    rw [← hp'] at e4 hcut k1 k2 k3 k4
    unfold sbuf_Pick_J1
    simp only [hpe, hto, hfr, hpe2, e4, bnoS, slices_Insert_sbuf_Piece_sbuf_Piece_h]
    rw [insS_ok (by omega) (by omega) (by simp; omega) (by simp; omega), bnoS]
    simp only [bndD, w64 (show -9223372036854775808 ≤ p.From - s.Base by omega) (by omega), w64 (show -9223372036854775808 ≤ p.To - s.Base by omega) (by omega), hcut, bnoS, Int.toNat_natCast]
    rw [show s.Pieces.take A.length = A by rw [e1]; simp, show s.Pieces.drop A.length = B by rw [e1]; simp]
  have hJ0 : ∀ L : List Iv, sbuf_Pick_J0 s by_ (s.Base, s.Data, s.Next, s.Pieces, s.Lost, s.Closed, s.Sent, s.Again, s.Done) (nextS s most limit) (max s.Next (nextS s most limit).1.To) L =
      some (⟨s.Base, s.Data, max s.Next (pieceS s by_ most limit).To, A ++ [pieceS s by_ most limit] ++ B, L, s.Closed, if (pieceS s by_ most limit).Fin = true then true else s.Sent, if (pieceS s by_ most limit).Fin = true then false else s.Again, s.Done⟩, pieceS s by_ most limit, (s.Data.take ((pieceS s by_ most limit).To - s.Base).toNat).drop ((pieceS s by_ most limit).From - s.Base).toNat, true) := fun L => by
    have hfin : ∀ {β : Type} (g : Bool → Option β), (bno (gd (decide ((nextS s most limit).1.To = endS s) == true) (some (dueS s)) default) fun x32 => g (decide ((nextS s most limit).1.To = endS s) && x32)) = g (pieceS s by_ most limit).Fin := fun g => by
      show _ = g (decide ((nextS s most limit).1.To = endS s) && dueS s)
      cases decide ((nextS s most limit).1.To = endS s) <;> rfl
    unfold sbuf_Pick_J0
    simp only [end_eq23 h, bnoS, bndD, due23]
    rw [hfin (fun z => bif z then sbuf_Pick_J1 s by_ (s.Base, s.Data, s.Next, s.Pieces, s.Lost, s.Closed, s.Sent, s.Again, s.Done) (nextS s most limit) (max s.Next (nextS s most limit).1.To) L true false z else sbuf_Pick_J1 s by_ (s.Base, s.Data, s.Next, s.Pieces, s.Lost, s.Closed, s.Sent, s.Again, s.Done) (nextS s most limit) (max s.Next (nextS s most limit).1.To) L s.Sent s.Again z)]
    have a1 := hJ1 _ true false L rfl
    have a2 := hJ1 _ s.Sent s.Again L rfl
    cases hF : (pieceS s by_ most limit).Fin
    · rw [hF] at a2; rw [bif_ff, a2]; rfl
    · rw [hF] at a1; rw [bif_tt, a1]; rfl
  unfold sbuf_Pick sbuf_path
  rw [own23 (by omega) (by omega), bnoS]
  simp only [bndD, decide_eq_true hb.1, decide_eq_true hb.2, Bool.and_self, bnoS, Bool.not_true, Bool.false_or, decide_eq_false (show ¬ most < 1 by omega), beq_self_eq_true, gdtt, check23 h, decide_true, Bool.or_self, bif_ff, next23 h hm hl, his]
  unfold sbuf_Piece_ival
  have hpf : (pieceS s by_ most limit).From = (nextS s most limit).1.From := rfl
  have hpt : (pieceS s by_ most limit).To = (nextS s most limit).1.To := rfl
  by_cases hc : (nextS s most limit).1.From < (nextS s most limit).1.To
  · rw [decide_eq_true hc, bif_tt, bnoS]
    simp only []
    rw [cut_eq (x := (⟨(nextS s most limit).1.From, (nextS s most limit).1.To⟩ : Iv)) (by omega) h.lv ⟨by show 0 ≤ (nextS s most limit).1.From; omega, by show (nextS s most limit).1.From ≤ _; omega, by show 0 ≤ (nextS s most limit).1.To; omega, by show (nextS s most limit).1.To ≤ _; omega⟩, bnoS]
    exact hJ0 _
  · rw [decide_eq_false hc, bif_ff]
    have hL : lostS s (pieceS s by_ most limit) = s.Lost := by unfold lostS; rw [if_pos (by omega)]
    have := hJ0 s.Lost
    rw [hL]
    exact this
end Go.Fn
set_option linter.unusedSimpArgs false
set_option linter.unusedVariables false
open Go Go.IL
namespace Go.Fn
/-! Came. -/
def cmap (b : Int) (fin : Bool) (p : Pc) : Pc := ⟨max p.From b, max p.To b, p.Path, p.Fin && !fin⟩
def goneP (p : Pc) : Bool := decide (p.From = p.To) && !p.Fin
def lostC (l : List Iv) (b : Int) : List Iv := if b ≤ 0 then l else cutS l ⟨0, b⟩
def cameS (s : S23) (n : Int) (fin : Bool) : S23 := ⟨max n s.Base, s.Data.drop (max n s.Base - s.Base).toNat, s.Next, (s.Pieces.map (cmap (max n s.Base) fin)).filter (fun p => !goneP p), lostC s.Lost (max n s.Base), s.Closed, s.Sent, if fin = true then false else s.Again, if fin = true then true else s.Done⟩
def cameOk (s : S23) (n : Int) (fin : Bool) : Prop := 0 ≤ n ∧ n ≤ s.Next ∧ (fin = true → n = endS s ∧ s.Sent = true)
instance (s : S23) (n : Int) (fin : Bool) : Decidable (cameOk s n fin) := by unfold cameOk; infer_instance
theorem delC {l : List Pc} (hl : l.length ≤ 100000) : slices_DeleteFunc_sbuf_Piece_sbuf_Piece_h_Came_1 l = some (l.filter fun y => !goneP y) :=
  deleteFunc_gen (P := fun x => sbuf_Came_1 x) (q := goneP) (I := slices_IndexFunc_sbuf_Piece_sbuf_Piece_Came_1_L0 l) (L := slices_DeleteFunc_sbuf_Piece_sbuf_Piece_h_Came_1_L0) (fun _ => rfl) (fun _ _ => rfl) (fun _ _ _ _ => rfl) hl
theorem delD {l : List Pc} {k : Int} (hl : l.length ≤ 100000) : slices_DeleteFunc_sbuf_Piece_sbuf_Piece_h_Dead_1 l k = some (l.filter fun y => !decide (y.Path = k)) :=
  deleteFunc_gen (P := fun x => sbuf_Dead_1 x k) (q := fun y => decide (y.Path = k)) (I := slices_IndexFunc_sbuf_Piece_sbuf_Piece_Dead_1_L0 l k) (L := slices_DeleteFunc_sbuf_Piece_sbuf_Piece_h_Dead_1_L0 k) (fun _ => rfl) (fun _ _ => rfl) (fun _ _ _ _ => rfl) hl
theorem set_at {α : Type} {p r : List α} {x y : α} : (p ++ x :: r).set p.length y = p ++ y :: r := by rw [List.set_append_right _ _ (Nat.le_refl _)]; simp
theorem get_at {α : Type} {p r : List α} {x : α} : (p ++ x :: r)[p.length]? = some x := by rw [List.getElem?_append_right (Nat.le_refl _)]; simp
def tup (s : S23) : (Int × (List UInt8) × Int × (List T_sbuf_Piece) × (List T_ivals_Ival) × Bool × Bool × Bool × Bool) := (s.Base, s.Data, s.Next, s.Pieces, s.Lost, s.Closed, s.Sent, s.Again, s.Done)
theorem came_L {s : S23} (h : G s) {n : Int} {fin : Bool} (hn : cameOk s n fin) : ∀ (r p : List Pc) (f : Nat), s.Pieces = p ++ r → r.length < f → sbuf_Came_L0 s fin (tup s) (max n s.Base) f (p.length : Int) (p.map (cmap (max n s.Base) fin) ++ r) = some (cameS s n fin)
  | [], p, f + 1, hs, _ => by
    obtain ⟨n1, n2, n3, n4⟩ := h.num
    obtain ⟨c1, c2, c3⟩ := hn
    have hpl := h.pl
    have hll := h.ll
    have hlen : p.length = s.Pieces.length := by rw [hs]; simp
    rw [List.append_nil] at hs
    unfold sbuf_Came_L0
    have hcut : cut s.Data (max n s.Base - s.Base) (s.Data.length : Int) = some (s.Data.drop (max n s.Base - s.Base).toNat) := by
      unfold cut
      unfold endS at n3
      rw [if_pos (by omega), Int.toNat_natCast, List.take_length]
    rw [List.append_nil, ← hs]
    have hlt : decide ((s.Pieces.length : Int) < ((tup s).2.2.2.1.length : Int)) = false := lt_len
    have hL : (tup s).2.2.2.2.1 = s.Lost := rfl
    simp only [bndD, hlt, bif_ff]
    rw [delC (by rw [List.length_map]; omega), bnoS, w64 (by omega) (by omega), hcut, bnoS, hL, cut_eq (x := (⟨0, max n s.Base⟩ : Iv)) (by omega) h.lv ⟨Int.le_refl _, by show (0 : Int) ≤ _; decide, by show 0 ≤ max n s.Base; omega, by show max n s.Base ≤ _; omega⟩, bnoS]
    unfold cameS lostC
    cases fin <;> rfl
  | x :: r, p, f + 1, hs, hf => by
    have hpl := h.pl
    have hpp : p.length + (r.length + 1) = s.Pieces.length := by rw [hs]; simp
    have ih := came_L h hn r (p ++ [x]) f (next_at hs) (by simpa using hf)
    unfold sbuf_Came_L0
    have hlt : decide ((p.length : Int) < ((tup s).2.2.2.1.length : Int)) = true := lt_at hs
    have hm : (p.map (cmap (max n s.Base) fin)).length = p.length := List.length_map _
    have hg : ∀ y : Pc, (p.map (cmap (max n s.Base) fin) ++ y :: r)[((p.length : Int)).toNat]? = some y := fun y => by rw [Int.toNat_natCast, ← hm]; exact get_at
    have hst : ∀ y z : Pc, (p.map (cmap (max n s.Base) fin) ++ y :: r).set ((p.length : Int)).toNat z = p.map (cmap (max n s.Base) fin) ++ z :: r := fun y z => by rw [Int.toNat_natCast, ← hm]; exact set_at
    have hgx : gix (p.map (cmap (max n s.Base) fin) ++ x :: r) (p.length : Int) = some x := by rw [← hm]; exact gix_at rfl
    simp only [bndD, hlt, bif_tt, hgx, hg, hst, bnoS, w_at hs (show s.Pieces.length ≤ 1000000 by omega)]
    rw [List.map_append, List.append_assoc] at ih
    exact ih
theorem came23 {s : S23} (h : G s) (n : Int) (fin : Bool) : sbuf_Came s n fin = some (if cameOk s n fin then cameS s n fin else s) := by
  have hp := h.pl
  have hl := h.ll
  unfold sbuf_Came
  rw [own23 (by omega) (by omega), bnoS, check23 h, bnoS]
  simp only [bndD, decide_true, Bool.not_true, Bool.false_or]
  by_cases hc : cameOk s n fin
  · obtain ⟨c1, c2, c3⟩ := hc
    rw [if_pos ⟨c1, c2, c3⟩, decide_eq_false (show ¬ n < 0 by omega), decide_eq_false (show ¬ s.Next < n by omega)]
    have := came_L h ⟨c1, c2, c3⟩ s.Pieces [] fuel rfl (fuel_gt (by omega))
    cases fin
    · simp only [Bool.or_self, beq_self_eq_true, ft, Bool.and_false, gdff, bnoS, Bool.false_and, bif_ff]
      exact this
    · obtain ⟨c4, c5⟩ := c3 rfl
      have hx : (!decide (n = endS s) || !s.Sent) = false := by rw [decide_eq_true c4, c5]; rfl
      simp only [Bool.or_self, beq_self_eq_true, Bool.and_self, gdtt, end_eq23 h, bnoS, hx, Bool.and_false, bif_ff]
      exact this
  · rw [if_neg hc]
    by_cases c1 : n < 0
    · rw [decide_eq_true c1]
      simp only [Bool.true_or, tf, Bool.false_and, gdff, bnoS, bif_tt]
    · by_cases c2 : s.Next < n
      · rw [decide_eq_true c2]
        simp only [Bool.or_true, Bool.true_or, tf, Bool.false_and, gdff, bnoS, bif_tt]
      · cases fin
        · exact absurd ⟨by omega, by omega, fun h => (by cases h)⟩ hc
        · have : (!decide (n = endS s) || !s.Sent) = true := by
            cases hS : s.Sent
            · simp
            · by_cases c3 : n = endS s
              · exact absurd ⟨by omega, by omega, fun _ => ⟨c3, hS⟩⟩ hc
              · rw [decide_eq_false c3]; rfl
          rw [decide_eq_false c1, decide_eq_false c2]
          simp only [Bool.or_self, beq_self_eq_true, Bool.and_self, gdtt, end_eq23 h, bnoS, this, Bool.and_true, Bool.or_true, bif_tt]
theorem lostC_mem {l : List Iv} {b : Int} (hl : ∀ x ∈ l, 0 ≤ x.From) {n : Int} : mem n (lostC l b) ↔ mem n l ∧ b ≤ n := by
  unfold lostC
  split
  · refine ⟨fun hm => ⟨hm, ?_⟩, fun hm => hm.1⟩
    obtain ⟨x, hx, h1, h2⟩ := hm
    have := hl x hx; omega
  · rw [cutS_mem (by show 0 < b; omega)]
    refine ⟨fun hm => ⟨hm.1, ?_⟩, fun hm => ⟨hm.1, by have := hm.2; show ¬ (0 ≤ n ∧ n < b); omega⟩⟩
    obtain ⟨x, hx, h1, h2⟩ := hm.1
    have := hl x hx
    have h3 : ¬ (0 ≤ n ∧ n < b) := hm.2
    omega
theorem fins_map (b : Int) (l : List Pc) : fins ((l.map (cmap b false)).filter (fun p => !goneP p)) = fins l := by
  unfold fins
  rw [List.filter_filter, List.filter_map, List.length_map]
  congr 1
  apply List.filter_congr
  intro p _
  unfold goneP cmap
  cases hp : p.Fin <;> simp [hp]
theorem came_mem {s : S23} {b : Int} {fin : Bool} {q : Pc} (hq : q ∈ (s.Pieces.map (cmap b fin)).filter (fun p => !goneP p)) : ∃ p ∈ s.Pieces, q = cmap b fin p ∧ (q.From = q.To → q.Fin = true) := by
  obtain ⟨h1, h2⟩ := List.mem_filter.1 hq
  obtain ⟨p, hp, rfl⟩ := List.mem_map.1 h1
  refine ⟨p, hp, rfl, fun he => ?_⟩
  unfold goneP at h2
  rw [decide_eq_true he] at h2
  simpa using h2
theorem came_end {s : S23} (h : G s) {n : Int} {fin : Bool} (hc : cameOk s n fin) : endS (cameS s n fin) = endS s := by
  obtain ⟨n1, n2, n3, n4⟩ := h.num
  obtain ⟨c1, c2, c3⟩ := hc
  unfold endS at n3
  show max n s.Base + ((s.Data.drop (max n s.Base - s.Base).toNat).length : Int) = s.Base + _
  rw [List.length_drop]; omega
theorem g_came {s : S23} (h : G s) {n : Int} {fin : Bool} (hc : cameOk s n fin) : G (cameS s n fin) := by
  obtain ⟨n1, n2, n3, n4⟩ := h.num
  have he := came_end h hc
  obtain ⟨c1, c2, c3⟩ := hc
  have hd := h.dl
  refine ⟨by show 0 ≤ max n s.Base; omega, by show max n s.Base ≤ s.Next; omega, by rw [he]; exact n3, by rw [he]; exact n4, by show (s.Data.drop _).length ≤ _; rw [List.length_drop]; omega, ?_, fun x hx => ?_, ?_, fun q hq => ?_, fun q hq => ?_, fun q hq m h1 h2 => ?_, fun q hq hF => ?_, ?_, fun hS => ?_, fun hS => ?_, fun m h1 h2 => ?_⟩
  · show VS (lostC s.Lost (max n s.Base))
    unfold lostC
    split
    · exact h.lv
    · exact cutS_vs h.lv (by show 0 < max n s.Base; omega)
  · have hx : x ∈ lostC s.Lost (max n s.Base) := hx
    show max n s.Base ≤ x.From ∧ x.To ≤ s.Next
    unfold lostC at hx
    split at hx
    · have := h.lb x hx; omega
    · obtain ⟨y, hy, a1, a2, a3, a4⟩ := cutS_sub hx
      have := h.lb y hy
      have a4 : x.To ≤ 0 ∨ max n s.Base ≤ x.From := a4
      omega
  · show ((s.Pieces.map (cmap (max n s.Base) fin)).filter (fun p => !goneP p)).Pairwise _
    refine List.Pairwise.filter _ ?_
    rw [List.pairwise_map]
    exact h.pw.imp fun {a b} hab => by show max a.To _ ≤ max b.From _; omega
  · obtain ⟨p, hp, rfl, _⟩ := came_mem hq
    obtain ⟨⟨a1, a2, a3⟩, a4⟩ := h.pb p hp
    exact ⟨⟨by show max n s.Base ≤ max p.From _; omega, by show max p.From _ ≤ max p.To _; omega, by show max p.To _ ≤ s.Next; omega⟩, a4⟩
  · obtain ⟨p, hp, rfl, h1⟩ := came_mem hq
    exact h1
  · obtain ⟨p, hp, rfl, _⟩ := came_mem hq
    have h1 : max p.From (max n s.Base) ≤ m := h1
    have h2 : m < max p.To (max n s.Base) := h2
    intro hm
    have hm : mem m (lostC s.Lost (max n s.Base)) := hm
    exact h.pd p hp m (by omega) (by omega) ((lostC_mem h.lv.lo).1 hm).1
  · obtain ⟨p, hp, rfl, _⟩ := came_mem hq
    have hF : (p.Fin && !fin) = true := hF
    rw [he]
    show max p.To _ = _
    rw [h.fe p hp (Bool.and_eq_true _ _ |>.mp hF).1]; omega
  · show fins ((s.Pieces.map (cmap (max n s.Base) fin)).filter (fun p => !goneP p)) = _
    cases fin
    · rw [fins_map, h.fc]; rfl
    · have h0 : fins ((s.Pieces.map (cmap (max n s.Base) true)).filter (fun p => !goneP p)) = 0 := by
        unfold fins
        rw [List.length_eq_zero_iff, List.filter_eq_nil_iff]
        intro q hq hF
        obtain ⟨p, hp, rfl, _⟩ := came_mem hq
        have hF : (p.Fin && !true) = true := hF
        simp at hF
      rw [h0, if_neg]
      rintro ⟨x1, x2, x3⟩
      have x3 : (if true = true then true else s.Done) = false := x3
      simp at x3
  · obtain ⟨a1, a2, a3⟩ := h.se hS
    refine ⟨a1, by rw [he]; exact a2, ?_⟩
    show ¬ ((if fin = true then false else s.Again) = true ∧ (if fin = true then true else s.Done) = true)
    cases fin
    · exact a3
    · simp
  · have hS : s.Sent = false := hS
    cases fin
    · exact h.ns hS
    · have h5 : s.Sent = true := (c3 rfl).2
      exact absurd (hS.symm.trans h5) (by decide)
  · have h1 : max n s.Base ≤ m := h1
    have h2 : m < s.Next := h2
    rcases h.cov m (by omega) h2 with hm | ⟨p, hp, hpm⟩
    · exact .inl ((lostC_mem h.lv.lo).2 ⟨hm, h1⟩)
    · refine .inr ⟨cmap (max n s.Base) fin p, List.mem_filter.2 ⟨List.mem_map.2 ⟨p, hp, rfl⟩, ?_⟩, by show max p.From _ ≤ m; omega, by show m < max p.To _; omega⟩
      show (!(decide (max p.From (max n s.Base) = max p.To (max n s.Base)) && !(p.Fin && !fin))) = true
      rw [decide_eq_false (show ¬ max p.From (max n s.Base) = max p.To (max n s.Base) by omega)]; rfl
/-! Dead. -/
theorem pw_ne {l : List Pc} (h : l.Pairwise (fun p q => p.To ≤ q.From)) {p q : Pc} (hp : p ∈ l) (hq : q ∈ l) (hne : p ≠ q) : p.To ≤ q.From ∨ q.To ≤ p.From := by
  induction l with
  | nil => exact (List.not_mem_nil hp).elim
  | cons x l ih =>
    have h := List.pairwise_cons.1 h
    rcases List.mem_cons.1 hp with h1 | h1
    · rcases List.mem_cons.1 hq with h2 | h2
      · exact absurd (h1.trans h2.symm) hne
      · rw [h1]; exact .inl (h.1 q h2)
    · rcases List.mem_cons.1 hq with h2 | h2
      · rw [h2]; exact .inr (h.1 p h1)
      · exact ih h.2 h1 h2
def anyD (l : List Pc) (k : Int) : Bool := l.any fun p => decide (p.Path = k) && p.Fin
structure DL (s : S23) (p : List Pc) (k : Int) (L : List Iv) : Prop where
  lv : VS L
  lb : ∀ x ∈ L, s.Base ≤ x.From ∧ x.To ≤ s.Next
  lm : ∀ n, mem n L ↔ mem n s.Lost ∨ ∃ q ∈ p, q.Path = k ∧ q.From ≤ n ∧ n < q.To
  le : (∀ q ∈ p, q.Path = k → q.From = q.To) → L = s.Lost
theorem bounds_of {L : List Iv} {a b : Int} (h : VS L) (hm : ∀ n, mem n L → a ≤ n ∧ n < b) : ∀ x ∈ L, a ≤ x.From ∧ x.To ≤ b := fun x hx => by
  have h0 := h.ne x hx
  have h1 := hm x.From ⟨x, hx, by omega, by omega⟩
  have h2 := hm (x.To - 1) ⟨x, hx, by omega, by omega⟩
  omega
theorem DL.len {s : S23} (h : G s) {p : List Pc} {k : Int} {L : List Iv} (d : DL s p k L) : L.length ≤ 4096 := by
  have h1 := vs_len d.lv.pw d.lv.ne d.lb h.bn
  have h2 := h.nd
  have h3 := h.dl
  unfold endS at h2; omega
def deadS (s : S23) (k : Int) (L : List Iv) : S23 := ⟨s.Base, s.Data, s.Next, s.Pieces.filter (fun y => !decide (y.Path = k)), L, s.Closed, s.Sent, s.Again || anyD s.Pieces k, s.Done⟩
theorem dead_L {s : S23} (h : G s) (k : Int) : ∀ (r p : List Pc) (f : Nat) (L : List Iv), s.Pieces = p ++ r → r.length < f → DL s p k L → ∃ L', DL s s.Pieces k L' ∧ sbuf_Dead_L0 s k (tup s) f (p.length : Int) L (s.Again || anyD p k) = some (deadS s k L')
  | [], p, f + 1, L, hs, _, d => by
    have hpl := h.pl
    rw [List.append_nil] at hs
    rw [← hs] at d ⊢
    refine ⟨L, d, ?_⟩
    unfold sbuf_Dead_L0
    simp only [tup, bndD, lt_len, bif_ff, delD (show s.Pieces.length ≤ 100000 by omega), bnoS]
    rfl
  | x :: r, p, f + 1, L, hs, hf, d => by
    have hx : x ∈ s.Pieces := by rw [hs]; simp
    have hpl := h.pl
    obtain ⟨n1, n2, n3, n4⟩ := h.num
    obtain ⟨⟨a1, a2, a3⟩, a4⟩ := h.pb x hx
    have hd1 : sbuf_Dead_1 x k = some (decide (x.Path = k)) := rfl
    have hany : anyD (p ++ [x]) k = (anyD p k || (decide (x.Path = k) && x.Fin)) := by unfold anyD; rw [List.any_append]; simp
    unfold sbuf_Dead_L0
    simp only [bndD, lt_at hs, bif_tt, gix_at hs, bnoS, hd1, w_at hs (show s.Pieces.length ≤ 1000000 by omega)]
    by_cases hk : x.Path = k
    · have hdl := d.len h
      obtain ⟨t, e1, e2, e3, e4, e5⟩ := add_eq (s := L) (x := (⟨x.From, x.To⟩ : Iv)) (by omega) d.lv (by show 0 ≤ x.From; omega) (by show x.To ≤ _; omega) a2
      have hb : ∀ y ∈ t, s.Base ≤ y.From ∧ y.To ≤ s.Next := bounds_of e2 fun n hm => by
        rcases (e3 n).1 hm with hm | hm
        · obtain ⟨y, hy, h1, h2⟩ := hm
          have := d.lb y hy; omega
        · have : x.From ≤ n ∧ n < x.To := hm
          omega
      have d2 : DL s (p ++ [x]) k t := by
        refine ⟨e2, hb, fun n => ?_, fun hq => ?_⟩
        · rw [e3, d.lm]
          constructor
          · rintro ((h1 | ⟨q, hq, h2⟩) | h1)
            · exact .inl h1
            · exact .inr ⟨q, by simp [hq], h2⟩
            · exact .inr ⟨x, by simp, hk, h1⟩
          · rintro (h1 | ⟨q, hq, h2⟩)
            · exact .inl (.inl h1)
            · rcases List.mem_append.1 hq with hq | hq
              · exact .inl (.inr ⟨q, hq, h2⟩)
              · rw [List.mem_singleton.1 hq] at h2
                exact .inr h2.2
        · rw [e4 (hq x (by simp) hk)]
          exact d.le fun q hq' => hq q (by simp [hq'])
      have ih := dead_L h k r (p ++ [x]) f t (next_at hs) (by simpa using hf) d2
      rw [hany, decide_eq_true hk, Bool.true_and, ← Bool.or_assoc] at ih
      rw [decide_eq_true hk, bif_tt]
      unfold sbuf_Piece_ival
      simp only [bnoS, e1]
      exact ih
    · have d2 : DL s (p ++ [x]) k L := by
        refine ⟨d.lv, d.lb, fun n => ?_, fun hq => d.le fun q hq' => hq q (by simp [hq'])⟩
        rw [d.lm]
        constructor
        · rintro (h1 | ⟨q, hq, h2⟩)
          · exact .inl h1
          · exact .inr ⟨q, by simp [hq], h2⟩
        · rintro (h1 | ⟨q, hq, h2⟩)
          · exact .inl h1
          · rcases List.mem_append.1 hq with hq | hq
            · exact .inr ⟨q, hq, h2⟩
            · rw [List.mem_singleton.1 hq] at h2
              exact absurd h2.1 hk
      have ih := dead_L h k r (p ++ [x]) f L (next_at hs) (by simpa using hf) d2
      rw [hany, decide_eq_false hk, Bool.false_and, Bool.or_false] at ih
      rw [decide_eq_false hk, bif_ff]
      exact ih
theorem dead23 {s : S23} (h : G s) (k : Int) : ∃ L, DL s s.Pieces k L ∧ sbuf_Dead s k = some (deadS s k L) := by
  have hp := h.pl
  have hl := h.ll
  obtain ⟨L, d, e⟩ := dead_L h k s.Pieces [] fuel s.Lost rfl (fuel_gt (by omega)) ⟨h.lv, h.lb, fun n => by simp, fun _ => rfl⟩
  refine ⟨L, d, ?_⟩
  unfold sbuf_Dead
  rw [own23 (by omega) (by omega), bnoS, check23 h, bnoS]
  simp only [bndD, decide_true, Bool.not_true, bif_ff]
  rw [show anyD [] k = false from rfl, Bool.or_false] at e
  exact e
theorem fins_split (l : List Pc) (k : Int) : fins l = fins (l.filter fun y => !decide (y.Path = k)) + (l.filter fun p => decide (p.Path = k) && p.Fin).length := by
  unfold fins
  rw [List.filter_filter]
  induction l with
  | nil => rfl
  | cons x l ih =>
    simp only [List.filter_cons]
    cases hF : x.Fin <;> by_cases hk : x.Path = k <;> simp [hF, hk] <;> omega
theorem g_dead {s : S23} (h : G s) {k : Int} {L : List Iv} (d : DL s s.Pieces k L) : G (deadS s k L) := by
  obtain ⟨n1, n2, n3, n4⟩ := h.num
  have hmem : ∀ q, q ∈ s.Pieces.filter (fun y => !decide (y.Path = k)) ↔ q ∈ s.Pieces ∧ q.Path ≠ k := fun q => by rw [List.mem_filter]; simp
  have hany : anyD s.Pieces k = true → s.Sent = true ∧ s.Again = false ∧ s.Done = false ∧ fins (s.Pieces.filter fun y => !decide (y.Path = k)) = 0 := fun ha => by
    unfold anyD at ha
    obtain ⟨p, hp, hpk⟩ := List.any_eq_true.1 ha
    have h1 : 0 < (s.Pieces.filter fun p => decide (p.Path = k) && p.Fin).length := List.length_pos_of_mem (List.mem_filter.2 ⟨hp, hpk⟩)
    have h2 := fins_split s.Pieces k
    have h3 := h.fc
    by_cases hc : s.Sent = true ∧ s.Again = false ∧ s.Done = false
    · rw [if_pos hc] at h3
      exact ⟨hc.1, hc.2.1, hc.2.2, by rw [h3] at h2; generalize fins (s.Pieces.filter fun y => !decide (y.Path = k)) = a at *; generalize (s.Pieces.filter fun p => decide (p.Path = k) && p.Fin).length = b at *; clear h; omega⟩
    · rw [if_neg hc] at h3; rw [h3] at h2; generalize fins (s.Pieces.filter fun y => !decide (y.Path = k)) = a at *; generalize (s.Pieces.filter fun p => decide (p.Path = k) && p.Fin).length = b at *; clear h; omega
  have hno : anyD s.Pieces k = false → fins (s.Pieces.filter fun y => !decide (y.Path = k)) = fins s.Pieces := fun ha => by
    have h2 := fins_split s.Pieces k
    have h1 : (s.Pieces.filter fun p => decide (p.Path = k) && p.Fin) = [] := by
      rw [List.filter_eq_nil_iff]
      intro p hp
      exact Bool.not_eq_true _ |>.mpr (List.any_eq_false.1 ha p hp |> fun h => by simpa using h)
    rw [h1] at h2; simpa using h2.symm
  refine ⟨h.b0, h.bn, h.nd, h.en, h.dl, d.lv, d.lb, List.Pairwise.filter _ h.pw, fun q hq => h.pb q ((hmem q).1 hq).1, fun q hq => h.pf q ((hmem q).1 hq).1, fun q hq m h1 h2 hm => ?_, fun q hq => h.fe q ((hmem q).1 hq).1, ?_, fun hS => ?_, fun hS => ?_, fun m h1 h2 => ?_⟩
  · obtain ⟨q1, q2⟩ := (hmem q).1 hq
    rcases (d.lm m).1 hm with hm | ⟨p, hp, hpk, h3, h4⟩
    · exact h.pd q q1 m h1 h2 hm
    · have hne : p ≠ q := fun e => q2 (e ▸ hpk)
      have := pw_ne h.pw hp q1 hne
      omega
  · show fins (s.Pieces.filter fun y => !decide (y.Path = k)) = if s.Sent = true ∧ (s.Again || anyD s.Pieces k) = false ∧ s.Done = false then 1 else 0
    cases ha : anyD s.Pieces k
    · rw [hno ha, h.fc, Bool.or_false]
    · rw [(hany ha).2.2.2, Bool.or_true]; simp
  · obtain ⟨a1, a2, a3⟩ := h.se hS
    refine ⟨a1, a2, ?_⟩
    show ¬ ((s.Again || anyD s.Pieces k) = true ∧ s.Done = true)
    cases ha : anyD s.Pieces k
    · rw [Bool.or_false]; exact a3
    · rw [(hany ha).2.2.1]; simp
  · have hS : s.Sent = false := hS
    obtain ⟨a1, a2⟩ := h.ns hS
    refine ⟨?_, a2⟩
    show (s.Again || anyD s.Pieces k) = false
    cases ha : anyD s.Pieces k
    · rw [a1]; rfl
    · have := (hany ha).1; rw [hS] at this; cases this
  · rcases h.cov m h1 h2 with hm | ⟨p, hp, hpm⟩
    · exact .inl ((d.lm m).2 (.inl hm))
    · by_cases hk : p.Path = k
      · exact .inl ((d.lm m).2 (.inr ⟨p, hp, hk, hpm⟩))
      · exact .inr ⟨p, (hmem p).2 ⟨hp, hk⟩, hpm⟩
end Go.Fn
set_option linter.unusedSimpArgs false
set_option linter.unusedVariables false
open Go Go.IL
namespace Go.Fn
/-! The deeds; SbufKeeps. -/
abbrev Act23 := T_sennitlaw23_Act
def act23 (a : Act23) : Prop := (0 ≤ a.Kind ∧ a.Kind ≤ 255) ∧ (0 ≤ a.N ∧ a.N ≤ 255) ∧ (0 ≤ a.Path ∧ a.Path ≤ 255)
structure Went (s s' : S23) : Prop where
  g : G s'
  base : s.Base ≤ s'.Base
  data : s'.Data = s.Data.drop (s'.Base - s.Base).toNat
  next : s.Next ≤ s'.Next
  done : s.Done = true → s'.Done = true
  en : endS s' = endS s
theorem Went.refl {s : S23} (h : G s) : Went s s := ⟨h, Int.le_refl _, by simp, Int.le_refl _, id, rfl⟩
theorem went_pick {s : S23} (h : G s) {by_ most limit : Int} (hb : 0 ≤ by_ ∧ by_ < 4) (hm : 0 ≤ most ∧ most ≤ 1000000) (hl : 0 ≤ limit ∧ limit ≤ 4398046511104) : ∃ r, sbuf_Pick s by_ most limit = some r ∧ Went s r.1 := by
  by_cases h1 : most < 1
  · exact ⟨_, pick_no h hb hm.2 hl (.inl h1), .refl h⟩
  · cases h2 : (nextS s most limit).2
    · exact ⟨_, pick_no h hb hm.2 hl (.inr h2), .refl h⟩
    · obtain ⟨A, B, e1, e2, e3⟩ := pick_yes h hb ⟨by omega, hm.2⟩ hl h2
      refine ⟨_, e3, e2, Int.le_refl _, ?_, by show s.Next ≤ max s.Next _; omega, id, rfl⟩
      show s.Data = s.Data.drop (s.Base - s.Base).toNat
      simp
theorem went_came {s : S23} (h : G s) (n : Int) (fin : Bool) : ∃ s', sbuf_Came s n fin = some s' ∧ Went s s' := by
  refine ⟨_, came23 h n fin, ?_⟩
  split
  · rename_i hc
    refine ⟨g_came h hc, by show s.Base ≤ max n s.Base; omega, rfl, Int.le_refl _, fun hd => ?_, came_end h hc⟩
    show (if fin = true then true else s.Done) = true
    cases fin <;> simp [hd]
  · exact .refl h
theorem went_dead {s : S23} (h : G s) (k : Int) : ∃ s', sbuf_Dead s k = some s' ∧ Went s s' := by
  obtain ⟨L, d, e⟩ := dead23 h k
  refine ⟨_, e, g_dead h d, Int.le_refl _, ?_, Int.le_refl _, id, rfl⟩
  show s.Data = s.Data.drop (s.Base - s.Base).toNat
  simp
theorem went_close {s : S23} (h : G s) : ∃ s', sbuf_Close s = some s' ∧ Went s s' := by
  refine ⟨_, close23 h, g_close h, Int.le_refl _, ?_, Int.le_refl _, id, rfl⟩
  show s.Data = s.Data.drop (s.Base - s.Base).toNat
  simp
theorem done23 {s : S23} (h : G s) {a : Act23} (ha : act23 a) {limit : Int} (hl : 0 ≤ limit ∧ limit ≤ 4398046511104) : ∃ s', sennitlaw23_done s a limit = some s' ∧ Went s s' := by
  obtain ⟨⟨k1, k2⟩, ⟨k3, k4⟩, k5, k6⟩ := ha
  obtain ⟨n1, n2, n3, n4⟩ := h.num
  have hp : 0 ≤ a.Path % 4 ∧ a.Path % 4 < 4 := by omega
  unfold sennitlaw23_done
  rw [rem_ok k1 (by decide), bnoS]
  simp only [bndD, rem_ok k5 (show (0 : Int) < 4 by decide), bnoS, w64 (show -9223372036854775808 ≤ a.Path % 4 by omega) (by omega), w64 (show -9223372036854775808 ≤ a.N by omega) (by omega), w64 (show -9223372036854775808 ≤ s.Base + a.N by omega) (by omega)]
  by_cases c1 : a.Kind % 5 = 1
  · simp only [decide_eq_true c1, bif_tt]
    obtain ⟨r, e, w⟩ := went_pick h hp (show 0 ≤ a.N ∧ a.N ≤ 1000000 by omega) hl
    rw [e]; exact ⟨_, rfl, w⟩
  simp only [decide_eq_false c1, bif_ff]
  by_cases c2 : a.Kind % 5 = 2
  · simp only [decide_eq_true c2, bif_tt]
    obtain ⟨r, e, w⟩ := went_came h (s.Base + a.N) a.Fin
    rw [e]; exact ⟨_, rfl, w⟩
  simp only [decide_eq_false c2, bif_ff]
  by_cases c3 : a.Kind % 5 = 3
  · simp only [decide_eq_true c3, bif_tt]
    obtain ⟨r, e, w⟩ := went_dead h (a.Path % 4)
    rw [e]; exact ⟨_, rfl, w⟩
  simp only [decide_eq_false c3, bif_ff]
  by_cases c4 : a.Kind % 5 = 4
  · simp only [decide_eq_true c4, bif_tt]
    cases a.Fin
    · exact ⟨_, rfl, .refl h⟩
    · obtain ⟨r, e, w⟩ := went_close h
      rw [e]; exact ⟨_, rfl, w⟩
  simp only [decide_eq_false c4, bif_ff]
  exact ⟨_, rfl, .refl h⟩
/-- What is held is the end of all that was written. -/
structure All (s : S23) (all : List UInt8) : Prop where
  g : G s
  data : s.Data = all.drop s.Base.toNat
  len : (all.length : Int) = endS s
end Go.Fn
set_option linter.unusedSimpArgs false
set_option linter.unusedVariables false
open Go Go.IL
namespace Go.Fn
/-! SbufEnds. -/
end Go.Fn
set_option linter.unusedSimpArgs false
set_option linter.unusedVariables false
open Go Go.IL
namespace Go.Fn
/-! SbufTwice. -/
theorem pcsame {l m : List Pc} (hl : l.length ≤ 1000000) : slices_Equal_sbuf_Piece_sbuf_Piece l m = some (decide (l = m)) := by
  have heq : ∀ x y : Pc, (decide (x.From = y.From) && (decide (x.To = y.To) && (decide (x.Path = y.Path) && ((x.Fin == y.Fin) && true)))) = decide (x = y) := fun x y => by
    obtain ⟨a, b, c, d⟩ := x; obtain ⟨e, f, g, h⟩ := y; rw [Bool.eq_iff_iff]; simp
  have := equal_all (L := slices_Equal_sbuf_Piece_sbuf_Piece_L0 l m) (m := m) (z := true) hl (fun p x r s y t f h k e => by
    rw [slices_Equal_sbuf_Piece_sbuf_Piece_L0]
    simp only [bndD, lt_at h, bif_tt, gix_at h, show gix m (p.length : Int) = some y by rw [e]; exact gix_at k, bnoS, heq, w_at h hl]) (fun _ f => by
    rw [slices_Equal_sbuf_Piece_sbuf_Piece_L0]
    simp only [bndD, lt_len, bif_ff])
  rw [Bool.and_true] at this
  exact this
theorem same23 {s : S23} (h : G s) : sbuf_Same s s = some true := by
  have hp := h.pl
  have hl := h.ll
  unfold sbuf_Same
  rw [pcsame (by omega), isame (by omega)]
  simp only [decide_true, bnoS, Bool.not_true, beq_self_eq_true, gdtt, bndD, Bool.or_self, bif_ff, Bool.and_self]
theorem twice_dead {s : S23} (h : G s) {k : Int} {L : List Iv} (d : DL s s.Pieces k L) : sbuf_Dead (deadS s k L) k = some (deadS s k L) := by
  obtain ⟨L', d', e⟩ := dead23 (g_dead h d) k
  have hno : ∀ q ∈ (deadS s k L).Pieces, ¬ q.Path = k := fun q hq => by
    have := (List.mem_filter.1 hq).2; simpa using this
  rw [e, d'.le (fun q hq hk => absurd hk (hno q hq))]
  unfold deadS
  congr 2
  · rw [List.filter_filter]; congr 1; funext x; rw [Bool.and_self]
  · show ((s.Again || anyD s.Pieces k) || anyD (s.Pieces.filter fun y => !decide (y.Path = k)) k) = _
    have : anyD (s.Pieces.filter fun y => !decide (y.Path = k)) k = false := by
      unfold anyD
      rw [List.any_eq_false]
      intro q hq
      have := hno q hq
      simp [this]
    rw [this, Bool.or_false]
theorem twice_came {s : S23} (h : G s) {n : Int} (hc : cameOk s n false) : cameOk (cameS s n false) n false ∧ cameS (cameS s n false) n false = cameS s n false := by
  refine ⟨⟨hc.1, hc.2.1, fun h => (by cases h)⟩, ?_⟩
  have hb : max n (max n s.Base) = max n s.Base := by omega
  show (⟨max n (max n s.Base), (s.Data.drop (max n s.Base - s.Base).toNat).drop (max n (max n s.Base) - max n s.Base).toNat, s.Next, (((s.Pieces.map (cmap (max n s.Base) false)).filter (fun p => !goneP p)).map (cmap (max n (max n s.Base)) false)).filter (fun p => !goneP p), lostC (lostC s.Lost (max n s.Base)) (max n (max n s.Base)), s.Closed, s.Sent, s.Again, s.Done⟩ : S23) = cameS s n false
  rw [hb]
  have e1 : ((s.Pieces.map (cmap (max n s.Base) false)).filter (fun p => !goneP p)).map (cmap (max n s.Base) false) = (s.Pieces.map (cmap (max n s.Base) false)).filter (fun p => !goneP p) := by
    conv => rhs; rw [← List.map_id ((s.Pieces.map (cmap (max n s.Base) false)).filter (fun p => !goneP p))]
    apply List.map_congr_left
    intro q hq
    obtain ⟨p, hp, rfl, _⟩ := came_mem hq
    show (⟨max (max p.From _) _, max (max p.To _) _, p.Path, (p.Fin && !false) && !false⟩ : Pc) = ⟨max p.From _, max p.To _, p.Path, p.Fin && !false⟩
    rw [show max (max p.From (max n s.Base)) (max n s.Base) = max p.From (max n s.Base) by omega, show max (max p.To (max n s.Base)) (max n s.Base) = max p.To (max n s.Base) by omega]
    simp
  have e2 : lostC (lostC s.Lost (max n s.Base)) (max n s.Base) = lostC s.Lost (max n s.Base) := by
    unfold lostC
    split
    · rfl
    · refine cutS_same (fun y hy => ?_) (by show 0 < max n s.Base; omega)
      obtain ⟨z, hz, a1, a2, a3, a4⟩ := cutS_sub hy
      exact ⟨a3, a4⟩
  rw [e1, e2, List.filter_filter]
  unfold cameS
  congr 1
  · rw [Int.sub_self]; rfl
  · congr 1; funext x; rw [Bool.and_self]
theorem lostC_nil {l : List Iv} {b : Int} (h : VS l) (hb : ∀ x ∈ l, x.To ≤ b) : lostC l b = [] := by
  rw [List.eq_nil_iff_forall_not_mem]
  intro x hx
  unfold lostC at hx
  split at hx
  · have := h.lo x hx; have := h.ne x hx; have := hb x hx; omega
  · obtain ⟨y, hy, a1, a2, a3, a4⟩ := cutS_sub hx
    have := h.lo y hy; have := hb y hy
    have a4 : x.To ≤ 0 ∨ b ≤ x.From := a4
    omega
theorem either {s : S23} (h : G s) {k : Int} {L : List Iv} (d : DL s s.Pieces k L) :
    cameOk (deadS s k L) s.Next false ∧ cameOk s s.Next false ∧ sbuf_Dead (cameS s s.Next false) k = some (cameS (deadS s k L) s.Next false) := by
  obtain ⟨n1, n2, n3, n4⟩ := h.num
  have c1 : cameOk (deadS s k L) s.Next false := ⟨by omega, Int.le_refl _, fun h => (by cases h)⟩
  have c2 : cameOk s s.Next false := ⟨by omega, Int.le_refl _, fun h => (by cases h)⟩
  refine ⟨c1, c2, ?_⟩
  obtain ⟨L', d', e⟩ := dead23 (g_came h c2) k
  have hb : max s.Next s.Base = s.Next := by omega
  rw [e, d'.le (fun q hq _ => by
    obtain ⟨p, hp, rfl, _⟩ := came_mem hq
    have := (h.pb p hp).1
    show max p.From (max s.Next s.Base) = max p.To (max s.Next s.Base)
    omega)]
  show some (⟨max s.Next s.Base, s.Data.drop (max s.Next s.Base - s.Base).toNat, s.Next, ((s.Pieces.map (cmap (max s.Next s.Base) false)).filter (fun p => !goneP p)).filter (fun y => !decide (y.Path = k)), lostC s.Lost (max s.Next s.Base), s.Closed, s.Sent, s.Again || anyD ((s.Pieces.map (cmap (max s.Next s.Base) false)).filter (fun p => !goneP p)) k, s.Done⟩ : S23) =
    some ⟨max s.Next s.Base, s.Data.drop (max s.Next s.Base - s.Base).toNat, s.Next, ((s.Pieces.filter (fun y => !decide (y.Path = k))).map (cmap (max s.Next s.Base) false)).filter (fun p => !goneP p), lostC L (max s.Next s.Base), s.Closed, s.Sent, s.Again || anyD s.Pieces k, s.Done⟩
  rw [lostC_nil h.lv (fun x hx => by have := (h.lb x hx).2; omega), lostC_nil d.lv (fun x hx => by have := (d.lb x hx).2; omega)]
  congr 2
  · rw [List.filter_filter, List.filter_map, List.filter_map, List.filter_filter]
    congr 1
    apply List.filter_congr
    intro p _
    exact Bool.and_comm _ _
  · congr 1
    unfold anyD
    rw [List.any_filter, List.any_map, Bool.eq_iff_iff, List.any_eq_true, List.any_eq_true]
    refine exists_congr fun p => and_congr_right fun hp => ?_
    show ((!(decide (max p.From _ = max p.To _) && !(p.Fin && !false))) && (decide (p.Path = k) && (p.Fin && !false))) = true ↔ _
    cases p.Fin <;> simp
set_option maxHeartbeats 1000000 in
theorem twice_end {s : S23} (hg : G s) {l : List Act23} {path n : Int} (hp : 0 ≤ path ∧ path ≤ 255) (hn : 0 ≤ n ∧ n ≤ 255) (f : Nat) : sennitlaw23_SbufTwice_L0 l path n (f + 1) (l.length : Int) s.Base s.Data s.Next s.Pieces s.Lost s.Closed s.Sent s.Again s.Done = some true := by
  obtain ⟨n1, n2, n3, n4⟩ := hg.num
  have es : (⟨s.Base, s.Data, s.Next, s.Pieces, s.Lost, s.Closed, s.Sent, s.Again, s.Done⟩ : S23) = s := rfl
  obtain ⟨L, d, e1⟩ := dead23 hg (path % 4)
  have gd := g_dead hg d
  have e2 := twice_dead hg d
  obtain ⟨c1, c2, e3⟩ := either hg d
  have e4 := came23 gd s.Next false
  rw [if_pos c1] at e4
  have e5 := came23 hg s.Next false
  rw [if_pos c2] at e5
  have g4 := g_came gd c1
  have hbase : (cameS (deadS s (path % 4) L) s.Next false).Base = s.Next := by show max s.Next s.Base = _; omega
  obtain ⟨t, e6, g6, e7⟩ : ∃ t, sbuf_Came s (s.Base + n) false = some t ∧ G t ∧ sbuf_Came t (s.Base + n) false = some t := by
    refine ⟨_, came23 hg (s.Base + n) false, ?_⟩
    by_cases hc : cameOk s (s.Base + n) false
    · rw [if_pos hc]
      obtain ⟨h1, h2⟩ := twice_came hg hc
      exact ⟨g_came hg hc, by rw [came23 (g_came hg hc), if_pos h1, h2]⟩
    · rw [if_neg hc]
      exact ⟨hg, by rw [came23 hg, if_neg hc]⟩
  unfold sennitlaw23_SbufTwice_L0
  simp only [bndD, lt_len, bif_ff, es, rem_ok hp.1 (show (0 : Int) < 4 by decide), bnoS, w64 (show -9223372036854775808 ≤ path % 4 by omega) (by omega), w64 (show -9223372036854775808 ≤ n by omega) (by omega), w64 (show -9223372036854775808 ≤ s.Base + n by omega) (by omega), e1, e2, e3, e4, e5, e6, e7, same23 gd, same23 g4, same23 g6, hbase, check23 g4, decide_true, Bool.and_self, beq_self_eq_true, gdtt, awake23]
theorem twice_L0 {l : List Act23} {path n : Int} (hp : 0 ≤ path ∧ path ≤ 255) (hn : 0 ≤ n ∧ n ≤ 255) (hlen : l.length ≤ 60) (hw : ∀ a ∈ l, act23 a) : ∀ (r p : List Act23) (f : Nat) (s : S23), l = p ++ r → r.length < f → G s →
    sennitlaw23_SbufTwice_L0 l path n f (p.length : Int) s.Base s.Data s.Next s.Pieces s.Lost s.Closed s.Sent s.Again s.Done = some true
  | [], p, f + 1, s, h, _, hg => by
    rw [List.append_nil] at h
    rw [← h]
    exact twice_end hg hp hn f
  | a :: r, p, f + 1, s, h, hf, hg => by
    have hwa := hw a (by rw [h]; simp)
    obtain ⟨⟨k1, k2⟩, ⟨k3, k4⟩, k5, k6⟩ := hwa
    have next : ∀ (x : S23), G x → sennitlaw23_SbufTwice_J1 l (p.length : Int) (sennitlaw23_SbufTwice_L0 l path n f) x.Base x.Data x.Next x.Pieces x.Lost x.Closed x.Sent x.Again x.Done = some true := fun x hx => by
      have ex : (⟨x.Base, x.Data, x.Next, x.Pieces, x.Lost, x.Closed, x.Sent, x.Again, x.Done⟩ : S23) = x := rfl
      obtain ⟨s', e1, w⟩ := done23 hx (a := a) (limit := 1000) ⟨⟨k1, k2⟩, ⟨k3, k4⟩, k5, k6⟩ (by decide)
      unfold sennitlaw23_SbufTwice_J1
      simp only [gix_at h, bnoS, ex, e1, bndD, w_at h (show l.length ≤ 1000000 by omega)]
      exact twice_L0 hp hn hlen hw r (p ++ [a]) f s' (next_at h) (by simpa using hf) w.g
    have es : (⟨s.Base, s.Data, s.Next, s.Pieces, s.Lost, s.Closed, s.Sent, s.Again, s.Done⟩ : S23) = s := rfl
    unfold sennitlaw23_SbufTwice_L0
    simp only [bndD, lt_at h, bif_tt, gix_at h, bnoS, es, rem_ok k1 (show (0 : Int) < 5 by decide), rem_ok k3 (show (0 : Int) < 60 by decide), w64 (show -9223372036854775808 ≤ a.N % 60 by omega) (by omega)]
    by_cases c0 : a.Kind % 5 = 0
    · simp only [decide_eq_true c0, bif_tt]
      rw [made_ok (by omega) (by omega) (by omega), bnoS, write23 hg _ (by rw [List.length_replicate]; omega), bnoS]
      exact next _ (g_write hg _)
    · simp only [decide_eq_false c0, bif_ff]
      exact next s hg
theorem sbufTwice (l : List Act23) (path n : Int) (hw : ∀ a ∈ l, act23 a) (hp : 0 ≤ path ∧ path ≤ 255) (hn : 0 ≤ n ∧ n ≤ 255) : sennitlaw23_SbufTwice l path n = some true := by
  unfold sennitlaw23_SbufTwice
  rw [bndD]
  by_cases hc : 60 < (l.length : Int)
  · rw [decide_eq_true hc, bif_tt, awake23, bnoS]
  · rw [decide_eq_false hc, bif_ff]
    have hn' : sbuf_New = some new23 := rfl
    rw [hn', bnoS]
    exact twice_L0 hp hn (by omega) hw l [] fuel new23 rfl (fuel_gt (by omega)) g_new
end Go.Fn
open Go.RowKit Go.WideShapes Go.ChangeShapes
namespace Go.IL

/-! A law's arguments: how they read. -/
def Spotless (v : Value) : Prop := ∀ a n c, v = .slice (some a) n c → a.spot = none
theorem spot_cell {P : Program} {w : World} {r : Reach} {b : Nat} {t : TypeId} {v : Value} (h : Cell.okWide P w r b t v) : Spotless v := by
  intro a n c e
  subst e
  have h2 : Cell.ok P w r b t (.slice (some a) n c) := by
    unfold Cell.okWide at h
    split at h <;> first | exact h | (rename_i h3 _; cases h3) | (rename_i h3; cases h3) | skip
    all_goals first | exact h | simp_all
  unfold Cell.ok at h2
  split at h2 <;> simp_all [World.has]
theorem spot_val {P : Program} {w : World} {r : Reach} {b : Nat} {t : TypeId} {v : Value} (h : Value.okWide P w r b t v) : ∀ u ∈ v.cells.toList, Spotless u := by
  have agg : ∀ cs : Array Value, Row.okWide P w r b t cs → ∀ u ∈ cs.toList, Spotless u := by
    intro cs ⟨ts, _, _, h3⟩ u hu
    obtain ⟨i, hi⟩ := List.getElem?_of_mem hu
    obtain ⟨q, _, hq⟩ := h3 i u (by simpa using hi)
    exact spot_cell hq
  unfold Value.okWide at h
  split at h
  · obtain ⟨cs, rfl, _, h⟩ := h; simpa [Value.cells] using agg cs h
  · obtain ⟨cs, rfl, _, h⟩ := h; simpa [Value.cells] using agg cs h
  · have h2 := spot_cell h
    intro u hu
    cases v with
    | agg cs =>
      exfalso
      unfold Cell.okWide at h
      split at h <;> simp_all [Cell.ok]
    | _ => simp [Value.cells] at hu; subst hu; exact h2

def Env.none (w : World) : Env := ⟨w, fun _ _ => False⟩
/-- What the cells of a type read as. -/
def OpD (P : Program) (sp : Bool) (t : TypeId) (Q : List D → Prop) : Prop :=
  ∀ {H : Type} {enc : TypeId × Value → H} {w : World} {base : Nat} {spare : Nat → Bool} {held : Bool} {fuel : Nat} {cs : List Value} {x : DataW H × List MemPlace},
    DataW.trod enc P w base spare held fuel t cs = some x → (sp = true → ∀ v ∈ cs, Spotless v) → ∃ ds, RdL (Env.none w) β0 cs ds ∧ Q ds
def qInt (k : IntKind) (ds : List D) : Prop := ∃ n : Int, ds = [.int k n] ∧ (k.min ≤ n ∧ n ≤ k.max)
def qBool (ds : List D) : Prop := ∃ b : Bool, ds = [.bool b]
def qSlice {α : Type} (f : Enc α) (wf : α → Prop) (ds : List D) : Prop := ∃ l : List α, ds = [.slice false (l.map f.d)] ∧ l.length ≤ 9223372036854775807 ∧ ∀ x ∈ l, wf x
def qList : List (List D → Prop) → List D → Prop
  | [], ds => ds = []
  | Q :: Qs, ds => ∃ a b, ds = a ++ b ∧ Q a ∧ qList Qs b

section
variable {P : Program} {sp : Bool} {t : TypeId}
theorem opd_int {k : IntKind} (hu : P.underlying t = some (.int k)) : OpD P sp t (qInt k) := by
  intro H enc w base spare held fuel cs x h _
  obtain ⟨n, rfl, rfl, hw⟩ := DataW.trod_int hu h
  exact ⟨[.int k n], .cons (.int _ _ _) (.nil _), n, rfl, by simpa [Lit.wf] using hw⟩
theorem opd_bool (hu : P.underlying t = some .bool) : OpD P sp t qBool := by
  intro H enc w base spare held fuel cs x h _
  obtain ⟨b, rfl, rfl⟩ := DataW.trod_bool hu h
  exact ⟨[.bool b], .cons (.bool _ _) (.nil _), b, rfl⟩
theorem opd_slice {α : Type} {f : Enc α} {e : TypeId} {wf : α → Prop} (hu : P.underlying t = some (.slice e)) (hc : P.cellsOf e = f.sz) (he : OpD P false e (fun ds => ∃ a, ds = (f.d a).cells ∧ wf a)) : OpD P sp t (qSlice f wf) := by
  intro H enc w base spare held fuel cs x h hs
  rcases DataW.trod_slice hu h with ⟨rfl, _⟩ | ⟨a, len, cap, elems, rest, n, _, rfl, rfl, hb, hl, hm, hlen, hel, _, _⟩
  · exact ⟨[.slice false []], .cons (.nslice _ _) (.nil _), [], rfl, by simp, by simp⟩
  · by_cases hl0 : len = 0
    · subst hl0; exact ⟨[.slice false []], .cons (.eslice _ a cap false (fun h => by cases h)) (.nil _), [], rfl, by simp, by simp⟩
    have hsp0 : a.spot = none := by
      have h1 := hel 0 (by omega)
      have h2 : elems[0]? = some (elems[0]'(by omega)) := List.getElem?_eq_getElem _
      rw [h2, Option.bind_eq_some_iff] at h1
      obtain ⟨vs, h3, _⟩ := h1
      have h7 := World.cells?_some h3
      have hp := f.pos
      have h8 := h7.2.2 0 (by rw [hc]; exact hp)
      rw [Nat.zero_mul] at h8
      have e0 : ((a.add 0).add 0) = a := rfl
      rw [e0] at h8
      cases hsp : a.spot with
      | none => rfl
      | some q =>
        exfalso
        unfold World.cell? at h8
        rw [hsp] at h8
        split at h8
        · simp at h8; have := h7.1; simp_all
        · have := h7.1; simp_all
    have ha : a = ⟨a.block, a.off, none⟩ := by cases a; simp_all
    have each : ∀ i, i < len → ∃ (vs : List Value) (y : α), (∀ k v, vs[k]? = some v → w.cell? ⟨a.block, a.off + (i * f.sz + k), none⟩ = some v) ∧ RdL (Env.none w) β0 vs (f.d y).cells ∧ wf y := by
      intro i hi
      have h1 := hel i hi
      have h2 : elems[i]? = some (elems[i]'(by omega)) := List.getElem?_eq_getElem _
      rw [h2, Option.bind_eq_some_iff] at h1
      obtain ⟨vs, h3, h4⟩ := h1
      obtain ⟨ds, h5, y, rfl, h6⟩ := he h4 (by simp)
      refine ⟨vs, y, fun k v hk => ?_, h5, h6⟩
      have h7 := World.cells?_some h3
      have hk' := (List.getElem?_eq_some_iff.1 hk).1
      have h8 := h7.2.2 k (by omega)
      rw [hk, ha, hc] at h8
      rw [← h8]
      congr 1
      by_cases h9 : i * f.sz = 0
      · by_cases h10 : k = 0
        · simp [Addr.add, h9, h10]
        · simp [Addr.add, h9, h10]
      · by_cases h10 : k = 0
        · simp [Addr.add, h9, h10]
        · simp [Addr.add, h9, h10, Nat.add_assoc]
    have all : ∀ m, m ≤ len → ∃ (vs : List Value) (l : List α), l.length = m ∧ (∀ k v, vs[k]? = some v → w.cell? ⟨a.block, a.off + k, none⟩ = some v) ∧ RdL (Env.none w) β0 vs (D.flat (l.map f.d)) ∧ ∀ y ∈ l, wf y := by
      intro m
      induction m with
      | zero => intro _; exact ⟨[], [], rfl, by simp, .nil _, by simp⟩
      | succ m ih =>
        intro hm'
        obtain ⟨vs, l, h1, h2, h3, h4⟩ := ih (by omega)
        obtain ⟨us, y, h5, h6, h7⟩ := each m (by omega)
        have hvl : vs.length = m * f.sz := by rw [h3.length, f.flat_len, h1]
        refine ⟨vs ++ us, l ++ [y], by simp [h1], fun k v hk => ?_, ?_, ?_⟩
        · by_cases hk' : k < vs.length
          · exact h2 k v (by rwa [List.getElem?_append_left hk'] at hk)
          · rw [List.getElem?_append_right (by omega)] at hk
            have := h5 _ _ hk
            rwa [hvl, show m * f.sz + (k - m * f.sz) = k by omega] at this
        · rw [List.map_append]
          have e2 : D.flat (l.map f.d ++ [y].map f.d) = D.flat (l.map f.d) ++ (f.d y).cells := by simp [D.flat]
          rw [e2]; exact h3.append h6
        · intro z hz
          rcases List.mem_append.1 hz with h | h
          · exact h4 z h
          · simp at h; subst h; exact h7
    obtain ⟨vs, l, h1, h2, h3, h4⟩ := all len (Nat.le_refl _)
    refine ⟨[.slice false (l.map f.d)], .cons ?_ (.nil _), l, rfl, by unfold maxLen at hm; omega, h4⟩
    rw [ha]
    exact .slice _ _ _ len cap f.sz false vs _ (by rw [List.length_map, h1]) hl (by simp) (f.len l) f.pos (fun k v hk => ⟨h2 k v hk, fun h => h⟩) h3

/-- The fields of a struct, one behind the other. -/
def fieldsAt (P : Program) : Nat → List Field → Bool
  | _, [] => true
  | k, f :: fs => f.offset == k && fieldsAt P (k + P.cellsOf f.type) fs
inductive OpFs (P : Program) (sp : Bool) : List Field → List (List D → Prop) → Prop
  | nil : OpFs P sp [] []
  | cons {f fs Q Qs} (h : OpD P sp f.type Q) (t : OpFs P sp fs Qs) : OpFs P sp (f :: fs) (Q :: Qs)
theorem opd_struct {fs : Array Field} {Qs : List (List D → Prop)} (hu : P.underlying t = some (.struct fs)) (hf : fieldsAt P 0 fs.toList = true) (hn : P.cellsOf t = (fs.toList.map fun f => P.cellsOf f.type).sum) (h : OpFs P sp fs.toList Qs) : OpD P sp t (qList Qs) := by
  intro H enc w base spare held fuel cs x hx hs
  obtain ⟨xs, n, _, _, hlen, hxl, hfld⟩ := DataW.trod_struct hu hx
  have key : ∀ (l : List Field) (Qs : List (List D → Prop)) (k : Nat), OpFs P sp l Qs → fieldsAt P k l = true → k + (l.map fun f => P.cellsOf f.type).sum = cs.length →
      (∀ f ∈ l, ∃ y, DataW.trod enc P w base spare held n f.type ((cs.drop f.offset).take (P.cellsOf f.type)) = some y) → ∃ ds, RdL (Env.none w) β0 (cs.drop k) ds ∧ qList Qs ds := by
    intro l Qs k ho
    induction ho generalizing k with
    | nil =>
      intro _ h1 _
      refine ⟨[], ?_, rfl⟩
      rw [List.drop_of_length_le (by simp at h1; omega)]; exact .nil _
    | @cons f fs Q Qs h t ih =>
      intro h1 h2 h3
      simp only [fieldsAt, Bool.and_eq_true, beq_iff_eq] at h1
      simp only [List.map_cons, List.sum_cons] at h2
      obtain ⟨y, hy⟩ := h3 f (by simp)
      rw [h1.1] at hy
      obtain ⟨ds, h4, h5⟩ := h hy (fun hsp v hv => hs hsp v (List.mem_of_mem_drop (List.mem_of_mem_take hv)))
      obtain ⟨es, h6, h7⟩ := ih (k + P.cellsOf f.type) h1.2 (by omega) (fun g hg => h3 g (by simp [hg]))
      refine ⟨ds ++ es, ?_, ds, es, rfl, h5, h7⟩
      have := h4.append h6
      rwa [← List.drop_drop, List.take_append_drop] at this
  have := key fs.toList Qs 0 h hf (by rw [Nat.zero_add, ← hn, hlen]) (fun f hf => by
    obtain ⟨i, hi⟩ := List.getElem?_of_mem hf
    have h1 := hfld i f (by simpa using hi)
    have h2 : i < xs.length := by rw [hxl]; have := (List.getElem?_eq_some_iff.1 hi).1; simpa using this
    exact ⟨xs[i], by rw [h1, List.getElem?_eq_getElem h2]⟩)
  rwa [List.drop_zero] at this
theorem OpD.to {Q R : List D → Prop} (h : OpD P sp t Q) (k : ∀ ds, Q ds → R ds) : OpD P sp t R := by
  intro H enc w base spare held fuel cs x hx hs
  obtain ⟨ds, h1, h2⟩ := h hx hs
  exact ⟨ds, h1, k ds h2⟩
/-- An argument. -/
theorem opd_val {Q : List D → Prop} (h : OpD P true t Q) {H : Type} {enc : TypeId × Value → H} {w : World} {base b0 : Nat} {spare : Nat → Bool} {held : Bool} {v : Value} {d : DataW H} {ps : List MemPlace} {r : Reach}
    (hv : Value.okWide P w r b0 t v) (hd : DataW.Trod enc P w base spare held t v d ps) : ∃ ds, RdL (Env.none w) β0 v.cells.toList ds ∧ Q ds := by
  obtain ⟨fuel, hf⟩ := hd
  exact h hf (fun _ => spot_val hv)
theorem rd_scalar {E : Env} {v : Value} {d : D} (h : RdL E β0 v.cells.toList [d]) (hn : ∀ cs, v ≠ .agg cs) : Rd E β0 v d := by
  cases v with
  | agg cs => exact absurd rfl (hn cs)
  | _ => simp [Value.cells] at h; cases h with | cons h _ => exact h
section
variable {H : Type} {enc : TypeId × Value → H}
theorem trodAll_below (hl : laidOutB P = true) {W W' : World} (hb : Below W.heap.size W W') {sp : Nat → Bool} : ∀ {ts : List TypeId} {vs : List Value} {ds : List (DataW H)} {ps : List MemPlace},
    (∀ t ∈ ts, P.readableRec t = true ∧ t < P.types.size) → DataW.TrodAll enc P W 0 (fun _ => true) true ts vs ds ps → (∀ x ∈ ps, x.block < W.heap.size) → (∀ x ∈ ps, sp x.block = true) →
    DataW.TrodAll enc P W' 0 sp true ts vs ds ps
  | [], vs, ds, ps, _, h, _, _ => by
    obtain ⟨rfl, rfl, rfl⟩ := trodAll_nil h; exact rfl
  | t :: ts, vs, ds, ps, hr, h, hlt, hsp => by
    obtain ⟨v, vs', d, ds', p, q, rfl, rfl, rfl, h1, h2⟩ := trodAll_cons h
    refine ⟨p, q, ?_, trodAll_below hl hb (fun t ht => hr t (by simp [ht])) h2 (fun x hx => hlt x (by simp [hx])) (fun x hx => hsp x (by simp [hx])), rfl⟩
    have hx : ∀ x ∈ p, x ∈ p ++ q := fun x hx => by simp [hx]
    exact WideElems.Trod_stays hl (hr t (by simp)).1 (hr t (by simp)).2 h1 (fun x hxp => hb.same (hlt x (hx x hxp))) (fun x hxp => hsp x (hx x hxp))
theorem post_of_below {f : Func} {s : ChangeSpec} {apart fresh handsOn again : Bool} {W W' : World} {args : Array Value} {v : Value} {ds gs : List (DataW H)} {before pa pv : List MemPlace}
    (hW : DataW.Whole enc P f.params.toList s.vars apart W args.toList ds gs before)
    (hres : ∀ (b : Nat) (sp : Nat → Bool) (hd : Bool), DataW.TrodAll enc P W' b sp hd f.resultTypes.toList (v.resultList f.resultTypes.size) (s.fn H (ds ++ gs)).results [])
    (hargs : ∀ sp : Nat → Bool, (∀ p ∈ before, sp p.block = true) → DataW.TrodAll enc P W' 0 sp true f.params.toList args.toList (s.fn H (ds ++ gs)).args pa)
    (hvars : ∀ sp : Nat → Bool, (∀ p ∈ before, sp p.block = true) → DataW.TrodVars enc P W' sp s.vars (s.fn H (ds ++ gs)).vars pv)
    (hps : before = pa ++ pv) (hb : Below W.heap.size W W')
    (hok : ∀ (j : Nat) (t : TypeId) (r : Value), f.resultTypes[j]? = some t → (v.resultList f.resultTypes.size)[j]? = some r → Value.okWide P W' .any 0 t r) :
    s.post enc P f apart fresh handsOn again W args v W' := by
  have hlt : ∀ p ∈ before, p.block < W.heap.size := fun p hp => hW.lt p hp
  have hold : ∀ p ∈ before, (fun b => decide (b < W.heap.size)) p.block = true := fun p hp => by simpa using hlt p hp
  refine ⟨ds, gs, before, [], pa, pv, hW, hres _ _ _, hargs _ hold, hvars _ hold, World.keptBut_mono (fun p hp => ⟨hp, ?_⟩) (hb.frame (· ∈ before)), fun _ => ?_⟩
  · rw [hps, List.mem_append] at hp
    exact Or.inr hp
  · obtain ⟨_, _, _, _, _, hz, hn⟩ := hW
    refine ⟨hok, _, _, ([] ++ pa) ++ pv, ⟨[] ++ pa, pv, trodAll_append (hargs _ (fun _ _ => rfl)) (hres _ _ _), hvars _ (fun _ _ => rfl), rfl, ?_, ?_⟩, ?_⟩
    · intro b off hp
      have hin : MemPlace.cell b off ∈ before := by rw [hps]; simpa using hp
      rw [hb.frozen (hlt _ hin)]
      exact hz b off hin
    · intro ha
      have := hn ha
      rw [hps] at this
      simpa using this
    · intro p hp _
      rw [hps]
      simpa using hp
theorem law_post {f : Func} {s : ChangeSpec} {apart fresh handsOn again : Bool} {W W' : World} {args : Array Value} {ds gs : List (DataW H)} {before : List MemPlace} {tb : TypeId}
    (hl : laidOutB P = true) (hr : ∀ t ∈ f.params.toList, P.readableRec t = true ∧ t < P.types.size) (hv : s.vars = []) (hres : f.resultTypes = #[tb]) (hbool : P.underlying tb = some .bool)
    (hfn : s.fn H (ds ++ gs) = { results := [.lit (.bool true)], args := ds })
    (hW : DataW.Whole enc P f.params.toList s.vars apart W args.toList ds gs before) (hb : Below W.heap.size W W') : s.post enc P f apart fresh handsOn again W args (.bool true) W' := by
  have hW' := hW
  obtain ⟨p, q, hA, hV, hbef, hfz, hnd⟩ := hW
  rw [hv] at hV
  obtain ⟨rfl, rfl⟩ := trodVars_none hV
  have hlt : ∀ x ∈ before, x.block < W.heap.size := fun x hx => hW'.lt x hx
  have hsub : ∀ x ∈ p, x ∈ before := fun x hx => by rw [hbef]; simp [hx]
  refine post_of_below (pa := p) (pv := []) hW' ?_ ?_ ?_ ?_ hb ?_
  · intro b sp hd
    rw [hfn, hres]
    exact trodAll_mk1 (shut_bool hbool true)
  · intro sp hsp
    rw [hfn]
    exact trodAll_below hl hb hr hA (fun x hx => hlt x (hsub x hx)) (fun x hx => hsp x (hsub x hx))
  · intro sp hsp
    rw [hfn, hv]; exact rfl
  · exact hbef
  · exact ok_one hres rfl (okWide_bool_mk hbool true)
end
end
end Go.IL
namespace Go.IL
theorem rd_arg_one {P : Program} {w W : World} {r : Reach} {b : Nat} {t : TypeId} {v : Value} {d : D} (hv : Value.okWide P W r b t v) (hg : aggOf P t = false) (h : RdL (Env.none w) β0 v.cells.toList [d]) : Rd (Env.none w) β0 v d := by
  refine rd_scalar h fun cs e => ?_
  subst e
  unfold aggOf at hg
  unfold Value.okWide at hv
  split at hv
  · rename_i h1; rw [h1] at hg; cases hg
  · rename_i h1; rw [h1] at hg; cases hg
  · unfold Cell.okWide at hv
    split at hv <;> simp_all [Cell.ok]
end Go.IL
open Go.RowKit Go.WideShapes Go.ChangeShapes
namespace Go.IL
end Go.IL
