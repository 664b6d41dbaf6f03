/-
  A part of the proof: rules and plain facts. No condition.
-/
import Derived.Test.YtalalambgppmpaaIlVw2
set_option linter.all false
open Go.RowKit (Below)
namespace Go.IL
/-! What the library makes of lists that are owned. -/
def insS {α : Type} (b : Nat) (l : List α) (i : Int) (vs : List α) : Option (List α) :=
  if 0 ≤ i ∧ i ≤ (l.length : Int) ∧ l.length + vs.length ≤ 9223372036854775807 ∧ (l.length + vs.length) * b ≤ 140737488355328 then some (l.take i.toNat ++ vs ++ l.drop i.toNat) else none
theorem insS_e {α : Type} {b : Nat} {l vs r : List α} {i : Int} (h : insS b l i vs = some r) : ∃ k : Nat, i = (k : Int) ∧ k ≤ l.length ∧ l.length + vs.length ≤ maxLen ∧ (l.length + vs.length) * b ≤ 140737488355328 ∧ l.take k ++ vs ++ l.drop k = r := by
  unfold insS at h
  split at h
  · rename_i hh
    obtain ⟨h1, h2, h3, h4⟩ := hh
    exact ⟨i.toNat, by omega, by omega, by unfold maxLen; omega, h4, Option.some.inj h⟩
  · cases h
theorem insS_ok {α : Type} {b : Nat} {l vs : List α} {i : Int} (h0 : 0 ≤ i) (h1 : i ≤ (l.length : Int)) (h2 : l.length + vs.length ≤ 9223372036854775807) (h3 : (l.length + vs.length) * b ≤ 140737488355328) : insS b l i vs = some (l.take i.toNat ++ vs ++ l.drop i.toNat) := if_pos ⟨h0, h1, h2, h3⟩
def delS {α : Type} (l : List α) (i j : Int) : Option (List α) :=
  if 0 ≤ i ∧ i ≤ j ∧ j ≤ (l.length : Int) then some (l.take i.toNat ++ l.drop j.toNat) else none
theorem delS_e {α : Type} {l r : List α} {i j : Int} (h : delS l i j = some r) : ∃ k m : Nat, i = (k : Int) ∧ j = (m : Int) ∧ k ≤ m ∧ m ≤ l.length ∧ l.take k ++ l.drop m = r := by
  unfold delS at h
  split at h
  · rename_i hh
    exact ⟨i.toNat, j.toNat, by omega, by omega, by omega, by omega, Option.some.inj h⟩
  · cases h
theorem delS_ok {α : Type} {l : List α} {i j : Int} (h0 : 0 ≤ i) (h1 : i ≤ j) (h2 : j ≤ (l.length : Int)) : delS l i j = some (l.take i.toNat ++ l.drop j.toNat) := if_pos ⟨h0, h1, h2⟩
section
variable {α : Type} (f : Enc0 α)
theorem Enc0.flat_take (l : List α) (k : Nat) : (D.flat (l.map f.d)).take (k * f.sz) = D.flat ((l.take k).map f.d) := by
  by_cases hk : k ≤ l.length
  · have h1 := f.flat_append (l.take k) (l.drop k)
    rw [List.take_append_drop] at h1
    have h2 : (D.flat ((l.take k).map f.d)).length = k * f.sz := by rw [f.flat_len, List.length_take, Nat.min_eq_left hk]
    rw [← h1, List.take_append_of_le_length (by rw [h2]; exact Nat.le_refl _), ← h2, List.take_length]
  · rw [List.take_of_length_le (l := l) (by omega), List.take_of_length_le (by rw [f.flat_len]; exact Nat.mul_le_mul_right _ (by omega))]
theorem Enc0.flat_drop (l : List α) (k : Nat) : (D.flat (l.map f.d)).drop (k * f.sz) = D.flat ((l.drop k).map f.d) := by
  by_cases hk : k ≤ l.length
  · have h1 := f.flat_append (l.take k) (l.drop k)
    rw [List.take_append_drop] at h1
    have h2 : (D.flat ((l.take k).map f.d)).length = k * f.sz := by rw [f.flat_len, List.length_take, Nat.min_eq_left hk]
    rw [← h1, ← h2, List.drop_append_of_le_length (Nat.le_refl _), List.drop_length, List.nil_append]
  · rw [List.drop_of_length_le (l := l) (by omega), List.drop_of_length_le (by rw [f.flat_len]; exact Nat.mul_le_mul_right _ (by omega))]; rfl
end
theorem splice_at {A B C D' : List D} {off : Nat} (h : A.length = off) (hl : B.length = C.length) : splice (A ++ B ++ D') off C = A ++ C ++ D' := by
  subst h
  unfold splice
  have e1 : (A ++ B ++ D').take A.length = A := by rw [List.append_assoc, List.take_append_of_le_length (Nat.le_refl _), List.take_length]
  have e2 : (A ++ B ++ D').drop (A.length + C.length) = D' := by
    rw [← hl, ← List.length_append, List.drop_append_of_le_length (Nat.le_refl _), List.drop_length, List.nil_append]
  rw [e1, e2]
/-- A list that is opened, cut at a place. -/
theorem ins_place {X Y V J : List D} {a m : Nat} (ha : X.length = a) (hv : V.length = m) (hj : m ≤ J.length) :
    splice (splice (X ++ Y ++ J) (a + m) Y) a V = X ++ V ++ Y ++ J.drop m := by
  -- first the tail goes up
  have e1 : ∃ U W, X ++ Y ++ J = (X ++ U) ++ W ++ J.drop m ∧ U.length = m ∧ W.length = Y.length := by
    have hUW := List.take_append_drop m (Y ++ J.take m)
    have h1 : X ++ Y ++ J = X ++ (Y ++ J.take m) ++ J.drop m := by rw [List.append_assoc X (Y ++ _), List.append_assoc Y, List.take_append_drop, List.append_assoc]
    refine ⟨(Y ++ J.take m).take m, (Y ++ J.take m).drop m, ?_, by simp; omega, by simp; omega⟩
    rw [h1, List.append_assoc X (List.take m (Y ++ List.take m J)), hUW]
  obtain ⟨U, W, e1, e2, e3⟩ := e1
  rw [e1, splice_at (by simp [ha, e2]) e3]
  have e4 : X ++ U ++ Y ++ J.drop m = X ++ U ++ (Y ++ J.drop m) := by rw [List.append_assoc (X ++ U)]
  rw [e4, splice_at ha (by rw [e2, hv]), List.append_assoc (X ++ V)]
theorem ins_new {X V Y Z J : List D} {a m : Nat} (ha : X.length = a) (hv : V.length = m) (hz : Z.length = m + Y.length) :
    splice (splice (X ++ Z ++ J) a V) (a + m) Y = X ++ V ++ Y ++ J := by
  have e1 : X ++ Z ++ J = X ++ Z.take m ++ (Z.drop m ++ J) := by
    rw [List.append_assoc X, List.append_assoc X (Z.take m), ← List.append_assoc (Z.take m), List.take_append_drop]
  rw [e1, splice_at ha (by simp; omega)]
  have e2 : X ++ V ++ (Z.drop m ++ J) = X ++ V ++ Z.drop m ++ J := by rw [List.append_assoc (X ++ V)]
  rw [e2, splice_at (by simp [ha, hv]) (by simp; omega)]
theorem length_splice' {l c : List D} {o : Nat} (h : o + c.length ≤ l.length) : (splice l o c).length = l.length := by unfold splice; simp; omega
theorem all_flat {α : Type} (f : Enc0 α) (l : List α) : (D.flat (l.map f.d)).all D.one = true := f.one l
theorem wN {a b : Nat} (h : a + b ≤ maxLen) : IntKind.wrap .i64 ((a : Int) + (b : Int)) = ((a + b : Nat) : Int) := by
  unfold maxLen at h; rw [wrap64 (by omega) (by omega)]; omega
theorem wS {a b : Nat} (h : b ≤ a) (h1 : a ≤ maxLen) : IntKind.wrap .i64 ((a : Int) - (b : Int)) = ((a - b : Nat) : Int) := by
  unfold maxLen at h1; rw [wrap64 (by omega) (by omega)]; omega
end Go.IL
