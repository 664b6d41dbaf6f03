/-
  A part of the proof: rules and plain facts. No condition.
-/
import Derived.Test.YtalalambgppmpaaIlO
import Derived.OpenShut
set_option linter.all false
open Go.RowKit Go.WideShapes Go.ChangeShapes
namespace Go.IL
/-- The elements of an array, one behind the other. -/
theorem opd_array {P : Program} {sp : Bool} {t e : TypeId} {n : Nat} {Q : List D → Prop} (hu : P.underlying t = some (.array n e)) (hn : P.cellsOf t = n * P.cellsOf e) (he : OpD P sp e Q) : OpD P sp t (qList (List.replicate n Q)) := by
  intro H enc w base spare held fuel cs x hx hs
  obtain ⟨xs, m, _, _, hlen, hxl, hel⟩ := DataW.trod_array hu hx
  have key : ∀ (j k : Nat), k + j = n → ∃ ds, RdL (Env.none w) β0 (cs.drop (k * P.cellsOf e)) ds ∧ qList (List.replicate j Q) ds := by
    intro j
    induction j with
    | zero =>
      intro k hk
      refine ⟨[], ?_, rfl⟩
      rw [List.drop_of_length_le (by rw [hlen, hn, ← hk]; simp)]; exact .nil _
    | succ j ih =>
      intro k hk
      obtain ⟨es, h1, h2⟩ := ih (k + 1) (by omega)
      have h3 := hel k (by omega)
      rw [List.getElem?_eq_getElem (by omega)] at h3
      obtain ⟨ds, h4, h5⟩ := he h3 (fun hsp v hv => hs hsp v (List.mem_of_mem_drop (List.mem_of_mem_take hv)))
      refine ⟨ds ++ es, ?_, ds, es, rfl, h5, h2⟩
      have h6 := h4.append h1
      have e1 : (k + 1) * P.cellsOf e = k * P.cellsOf e + P.cellsOf e := by rw [Nat.add_mul, Nat.one_mul]
      rwa [e1, ← List.drop_drop, List.take_append_drop] at h6
  have := key n 0 (by omega)
  rwa [Nat.zero_mul, List.drop_zero] at this
end Go.IL
