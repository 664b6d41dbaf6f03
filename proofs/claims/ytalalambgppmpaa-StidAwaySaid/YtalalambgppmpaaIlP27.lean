/-
  A part of the proof: rules and plain facts. No condition.
-/
import Derived.Test.YtalalambgppmpaaIlP26
set_option linter.all false
set_option linter.unusedSimpArgs false
set_option linter.unusedVariables false
open Go Go.IL
namespace Go.Fn
theorem seen_set {seen : List Bool} {n m : Nat} (h : (seen.set n true)[m]? = some true) : m = n ∨ seen[m]? = some true := by
  rw [List.getElem?_set] at h
  split at h
  · exact .inl (by omega)
  · exact .inr h
theorem seen_keep {seen : List Bool} {n m : Nat} (h : seen[m]? = some true) : (seen.set n true)[m]? = some true := by
  rw [List.getElem?_set]
  split
  · have := (List.getElem?_eq_some_iff.1 h).1
    rename_i hh; subst hh; rw [if_pos this]
  · exact h
theorem inv_open {s : StT} {seen : List Bool} {away shut : Bool} {i : Nat} (hi : i ≤ 200) (h : Inv s seen away shut i) (hm : (mine s s.Live : Int) < s.Mine) (h8 : s.Next ≤ 1048576) :
    Inv ⟨s.Odd, s.Next + 2, s.Last, ins s.Live s.Next, s.Cut, s.Mine, s.Hers, s.Heard, s.Told⟩ (seen.set s.Next.toNat true) away shut (i + 1) := by
  have hnx := h.nx
  have hg := h.g.nx
  have hmi := h.mi
  have hr := h.hr
  have hgood := good_open h.g h8 (by omega)
  have hme : mine (⟨s.Odd, s.Next + 2, s.Last, ins s.Live s.Next, s.Cut, s.Mine, s.Hers, s.Heard, s.Told⟩ : StT) (ins s.Live s.Next) = mine s s.Live + 1 := by
    rw [mine_odd (s := s) (by rfl), mine_ins, if_pos h.g.nxo]
  refine ⟨hgood, hmi, h.he, by rw [List.length_set]; exact h.sl, fun x hx => ?_, fun n hn => ?_, by show mine _ (ins s.Live s.Next) ≤ 8; rw [hme]; omega, by show (ins s.Live s.Next).length ≤ mine _ (ins s.Live s.Next) + 5; rw [hme, ins_length]; omega, by show s.Next + 2 ≤ 2 + 2 * ((i + 1 : Nat) : Int); omega, h.aw, h.sh⟩
  · rcases mem_ins.1 hx with rfl | hx
    · refine ⟨by omega, by omega, ?_⟩
      rw [List.getElem?_set, if_pos rfl, if_pos (by rw [h.sl]; omega)]
    · obtain ⟨v1, v2, v3⟩ := h.live x hx
      exact ⟨v1, v2, seen_keep v3⟩
  · rcases seen_set hn with rfl | hn
    · rw [show ((s.Next.toNat : Nat) : Int) = s.Next by omega]; exact began_own' h.g.nxo (by show s.Next < s.Next + 2; omega)
    · exact began_mono (s := s) (by rfl) (by show s.Next ≤ s.Next + 2; omega) (by exact Int.le_refl _) (h.sb n hn)
theorem Inv.up {s : StT} {seen : List Bool} {away shut : Bool} {i : Nat} (h : Inv s seen away shut i) : Inv s seen away shut (i + 1) :=
  ⟨h.g, h.mi, h.he, h.sl, h.live, h.sb, h.mn, h.hr, by have := h.nx; omega, h.aw, h.sh⟩
theorem inv_begin {s : StT} {seen : List Bool} {away shut : Bool} {i : Nat} {id : Int} (h : Inv s seen away shut i) (ho : own s id = false) (hb : 1 ≤ id ∧ id ≤ 255) (hm : id ∉ s.Live) (hl : s.Last < id) (hh : (s.Live.length : Int) - mine s s.Live < s.Hers) :
    Inv ⟨s.Odd, s.Next, id, ins s.Live id, s.Cut, s.Mine, s.Hers, s.Heard, s.Told⟩ (seen.set id.toNat true) away shut (i + 1) := by
  have hnx := h.nx
  have hmi := h.mi
  have hhe := h.he
  have hr := h.hr
  have hmn := h.mn
  have hgood := good_begin h.g ho ⟨hb.1, by omega⟩ hl hm (by omega)
  have hme : mine (⟨s.Odd, s.Next, id, ins s.Live id, s.Cut, s.Mine, s.Hers, s.Heard, s.Told⟩ : StT) (ins s.Live id) = mine s s.Live := by
    rw [mine_odd (s := s) (by rfl), mine_ins, ho]; rfl
  refine ⟨hgood, hmi, h.he, by rw [List.length_set]; exact h.sl, fun x hx => ?_, fun n hn => ?_, by show mine _ (ins s.Live id) ≤ 8; rw [hme]; omega, by show (ins s.Live id).length ≤ mine _ (ins s.Live id) + 5; rw [hme, ins_length]; omega, by show s.Next ≤ 2 + 2 * ((i + 1 : Nat) : Int); omega, h.aw, h.sh⟩
  · rcases mem_ins.1 hx with rfl | hx
    · refine ⟨by omega, by omega, ?_⟩
      rw [List.getElem?_set, if_pos rfl, if_pos (by rw [h.sl]; omega)]
    · obtain ⟨v1, v2, v3⟩ := h.live x hx
      exact ⟨v1, v2, seen_keep v3⟩
  · rcases seen_set hn with rfl | hn
    · rw [show ((id.toNat : Nat) : Int) = id by omega]; exact began_not' ho hb.1 (Int.le_refl _)
    · exact began_mono (s := s) (by rfl) (by exact Int.le_refl _) (by exact Int.le_of_lt hl) (h.sb n hn)
theorem inv_last {s : StT} {seen : List Bool} {away shut : Bool} {i : Nat} {id : Int} (h : Inv s seen away shut i) (ho : own s id = false) (hb : 1 ≤ id ∧ id ≤ 1048576) (hl : s.Last < id) :
    Inv ⟨s.Odd, s.Next, id, s.Live, s.Cut, s.Mine, s.Hers, s.Heard, s.Told⟩ seen away shut (i + 1) :=
  ⟨good_last h.g ho hb hl, h.mi, h.he, h.sl, h.live, fun n hn => began_mono (s := s) (by rfl) (by exact Int.le_refl _) (by exact Int.le_of_lt hl) (h.sb n hn), h.mn, h.hr, by have := h.nx; show s.Next ≤ 2 + 2 * ((i + 1 : Nat) : Int); omega, h.aw, h.sh⟩
theorem inv_refuse {s : StT} {seen : List Bool} {away shut : Bool} {i : Nat} {id : Int} (h : Inv s seen away shut i) (ho : own s id = false) (hb : 1 ≤ id ∧ id ≤ 1048576) (hm : id ∉ s.Live) (hl : s.Last < id) :
    Inv ⟨s.Odd, s.Next, id, s.Live, cutl s.Cut id, s.Mine, s.Hers, s.Heard, s.Told⟩ seen away shut (i + 1) :=
  ⟨good_refuse h.g ho hb hl hm, h.mi, h.he, h.sl, h.live, fun n hn => began_mono (s := s) (by rfl) (by exact Int.le_refl _) (by exact Int.le_of_lt hl) (h.sb n hn), h.mn, h.hr, by have := h.nx; show s.Next ≤ 2 + 2 * ((i + 1 : Nat) : Int); omega, h.aw, h.sh⟩
theorem inv_filt {s s' : StT} {seen : List Bool} {away away' shut : Bool} {i : Nat} (h : Inv s seen away shut i) (q : Int → Bool) (hg : Good s') (h1 : s'.Odd = s.Odd) (h2 : s'.Next = s.Next) (h3 : s'.Last = s.Last) (h4 : s'.Live = s.Live.filter q) (h5 : s'.Mine = s.Mine) (h6 : s'.Hers = s.Hers) (h7 : s'.Told = s.Told) (h8 : away' = true → -1 < s'.Heard) :
    Inv s' seen away' shut (i + 1) := by
  have hr := h.hr
  have hmn := h.mn
  have m1 := mine_filt s q s.Live
  have m2 := mine_filt_le s q s.Live
  have hme : mine s' s'.Live = mine s (s.Live.filter q) := by rw [h4, mine_odd h1]
  refine ⟨hg, h5.trans h.mi, h6.trans h.he, h.sl, fun x hx => ?_, fun n hn => began_mono (s := s) h1 (by rw [h2]; exact Int.le_refl _) (by rw [h3]; exact Int.le_refl _) (h.sb n hn), by rw [hme]; omega, by rw [hme, h4]; omega, by have := h.nx; rw [h2]; omega, h8, fun e => by rw [h7]; exact h.sh e⟩
  rw [h4] at hx
  exact h.live x (List.mem_filter.1 hx).1
theorem inv_shut {s : StT} {seen : List Bool} {away shut : Bool} {i : Nat} (h : Inv s seen away shut i) : Inv (shutS s).1 seen away true (i + 1) := by
  have hla := h.g.la
  have htd := h.g.td
  unfold shutS
  rw [if_neg (by simpa using h.g.check)]
  split
  · exact ⟨good_shut h.g ⟨by omega, hla.2⟩, h.mi, h.he, h.sl, h.live, fun n hn => began_mono (s := s) (by rfl) (by exact Int.le_refl _) (by exact Int.le_refl _) (h.sb n hn), h.mn, h.hr, by have := h.nx; show s.Next ≤ 2 + 2 * ((i + 1 : Nat) : Int); omega, h.aw, fun _ => by show -1 < s.Last; omega⟩
  · exact ⟨h.g, h.mi, h.he, h.sl, h.live, h.sb, h.mn, h.hr, by have := h.nx; show s.Next ≤ 2 + 2 * ((i + 1 : Nat) : Int); omega, h.aw, fun _ => by show -1 < s.Told; omega⟩
end Go.Fn
