/-
  A part of the proof: rules and plain facts. No condition.
-/
import Derived.Test.YtkkpkabamlabdaaIlP39
import Derived.Test.YtkkpkabamlabdaaIlVw2
import Derived.ProofKit
import Derived.OpenShut
set_option linter.all false
set_option linter.unusedSimpArgs false
set_option linter.unusedVariables false
open Go Go.IL
namespace Go.Fn
def upd (fall : Bool) (k x : Int) : Int := if (fall && decide (x = k + 1)) = true then 0 else x
theorem mem_gone {s : S28} {k j : Int} : j ∈ (s.Binds.filter fun b => decide (b.Path = k)).map (·.Stream) ↔ ∃ b ∈ s.Binds, b.Path = k ∧ b.Stream = j := by
  rw [List.mem_map]
  constructor
  · rintro ⟨b, hb, rfl⟩
    have := List.mem_filter.1 hb
    exact ⟨b, this.1, by simpa using this.2, rfl⟩
  · rintro ⟨b, hb, h1, rfl⟩
    exact ⟨b, List.mem_filter.2 ⟨hb, by simpa using h1⟩, rfl⟩
theorem fall_gone {s : S28} (h : Ok s) (k : Int) (j : Int) : ((fallS s k).2.2 && decide (bound28 s.Binds j = k + 1)) = decide (j ∈ (fallS s k).2.1) := by
  unfold fallS
  split
  · rename_i hc
    rw [Bool.eq_iff_iff, Bool.and_eq_true, decide_eq_true_iff, decide_eq_true_iff]
    show true = true ∧ _ ↔ j ∈ (s.Binds.filter fun b => decide (b.Path = k)).map (·.Stream)
    rw [mem_gone]
    have hk := bet_iff.1 hc.1
    constructor
    · rintro ⟨_, h1⟩
      rcases bound_cases s.Binds j with ⟨b, hb, rfl⟩ | hn
      · rw [bound_mem h.pw hb] at h1
        exact ⟨b, hb, by omega, rfl⟩
      · rw [bound_none hn] at h1; omega
    · rintro ⟨b, hb, h1, rfl⟩
      exact ⟨rfl, by rw [bound_mem h.pw hb, h1]⟩
  · symm; exact decide_eq_false (List.not_mem_nil)
theorem fall_L4 {N : Int} {y : S28 × List Int × Bool} {i : Int} {kk0} {d0 d1 d2 d3 : Bool} {b : List Int} (hN : 0 ≤ N ∧ N ≤ 255) (hb : b.length = 40) (hg : y.2.1.length ≤ 1000) (hc : ∀ (j : Nat) (x : Int), b[j]? = some x → (y.2.2 && decide (x = N % 4 + 1)) = decide ((j : Int) ∈ y.2.1)) :
    ∀ (r p : List Int) (f : Nat), b = p ++ r → r.length < f → sennitlaw28_PathsStay_L4 i kk0 N y d0 d1 d2 d3 f (p.length : Int) (p.map (upd y.2.2 (N % 4)) ++ r) = SJ i kk0 d0 d1 d2 d3 (b.map (upd y.2.2 (N % 4))) y.1
  | [], p, f + 1, h, _ => by
    rw [List.append_nil] at h
    unfold sennitlaw28_PathsStay_L4
    simp only [bndD, decide_eq_false (show ¬ (p.length : Int) < 40 by rw [← h]; omega), bif_ff, List.append_nil]
    rw [h]
  | x :: r, p, f + 1, h, hf => by
    have hlen : p.length + (r.length + 1) = 40 := by rw [← hb, h]; simp
    have hx : b[p.length]? = some x := by rw [h, List.getElem?_append_right (Nat.le_refl _)]; simp
    have hcl : (p.map (upd y.2.2 (N % 4)) ++ x :: r).length = 40 := by simp; omega
    have hcx : (p.map (upd y.2.2 (N % 4)) ++ x :: r)[p.length]? = some x := by rw [List.getElem?_append_right (by simp)]; simp
    have hcs : (p.map (upd y.2.2 (N % 4)) ++ x :: r).set p.length 0 = p.map (upd y.2.2 (N % 4)) ++ 0 :: r := by
      rw [List.set_append_right _ _ (by simp)]; simp
    have hcc := hc p.length x hx
    have ih := fall_L4 (i := i) (kk0 := kk0) (d0 := d0) (d1 := d1) (d2 := d2) (d3 := d3) hN hb hg hc r (p ++ [x]) f (next_at h) (by simpa using hf)
    have hw : IntKind.wrap .i64 ((p.length : Int) + 1) = ((p ++ [x]).length : Int) := by rw [w64 (by omega) (by omega)]; simp
    have hw2 : IntKind.wrap .i64 (N % 4 + 1) = N % 4 + 1 := w64 (by omega) (by omega)
    have hw3 : IntKind.wrap .i64 ((0 : Int) + 1) = 1 := rfl
    unfold sennitlaw28_PathsStay_L4
    have e : ∀ {β : Type} (g : Bool → Option β), (bno (gd (y.2.2 == true) (some x) default) fun x1004 => chk ((y.2.2 == true) = true → (p.map (upd y.2.2 (N % 4)) ++ x :: r).length = 40) <| bno (gd (y.2.2 == true) (some x) default) fun x1006 =>
        bno (gd (y.2.2 == true) (some (N % 4)) 0) fun x1007 => g (y.2.2 && decide (x1006 = IntKind.wrap .i64 (x1007 + 1)))) = g (y.2.2 && decide (x = N % 4 + 1)) := fun g => by
      cases y.2.2
      · simp only [ft, gdff, bnoS, Bool.false_and]; exact chk_t (fun h => by cases h)
      · simp only [beq_self_eq_true, gdtt, bnoS, hw2, Bool.true_and]; exact chk_t (fun _ => by simp; omega)
    simp only [bndD, decide_eq_true (show (p.length : Int) < 40 by omega), bif_tt, gix_nat, hcx, Int.toNat_natCast, rem_ok hN.1 (show (0 : Int) < 4 by decide), is28 (p.length : Int) (show y.2.1.length ≤ 1000000 by omega), bnoS, hcs, hw]
    rw [e (fun z => bif (!(z == decide ((p.length : Int) ∈ y.2.1))) then some false else bif z then chk ((p.map (upd y.2.2 (N % 4)) ++ x :: r).length = 40) (sennitlaw28_PathsStay_L4 i kk0 N y d0 d1 d2 d3 f ((p ++ [x]).length : Int) (p.map (upd y.2.2 (N % 4)) ++ 0 :: r)) else sennitlaw28_PathsStay_L4 i kk0 N y d0 d1 d2 d3 f ((p ++ [x]).length : Int) (p.map (upd y.2.2 (N % 4)) ++ x :: r))]
    rw [← hcc]
    have hup : List.map (upd y.2.2 (N % 4)) (p ++ [x]) ++ r = p.map (upd y.2.2 (N % 4)) ++ upd y.2.2 (N % 4) x :: r := by simp
    rw [hup] at ih
    rw [beq_self_eq_true, Bool.not_true, bif_ff]
    cases hz : y.2.2 && decide (x = N % 4 + 1)
    · rw [bif_ff]
      unfold upd at ih; rw [hz] at ih
      simp only [Bool.false_eq_true, if_false] at ih
      exact ih
    · rw [bif_tt, chk_t hcl]
      unfold upd at ih; rw [hz] at ih
      simp only [if_true] at ih
      exact ih
theorem fall_dead (s : S28) {k : Int} (hb : bet k 0 3 = true) (h : Ok s) :
    (fallS s k).1.Lines.c0.Dead = (bif decide (k = 0) then ((lineAt s k).Dead || (fallS s k).2.2) else s.Lines.c0.Dead) ∧ (fallS s k).1.Lines.c1.Dead = (bif decide (k = 1) then ((lineAt s k).Dead || (fallS s k).2.2) else s.Lines.c1.Dead) ∧
    (fallS s k).1.Lines.c2.Dead = (bif decide (k = 2) then ((lineAt s k).Dead || (fallS s k).2.2) else s.Lines.c2.Dead) ∧ (fallS s k).1.Lines.c3.Dead = (bif decide (k = 3) then ((lineAt s k).Dead || (fallS s k).2.2) else s.Lines.c3.Dead) := by
  unfold fallS
  split
  · rcases four hb with rfl | rfl | rfl | rfl <;> simp [setL, lineAt]
  · rcases four hb with rfl | rfl | rfl | rfl <;> simp [lineAt]
theorem stay_fall {l p r : List T_sennitlaw28_Act} {a : T_sennitlaw28_Act} {s : S28} {b : List Int} {f : Nat} (h : l = p ++ a :: r) (ha : act28 a) (inv : Inv28 s b) (hk : a.Kind % 6 = 1) :
    SL l (f + 1) (p.length : Int) s b = SJ (p.length : Int) (sennitlaw28_PathsStay_L0 l f) (fallS s (a.N % 4)).1.Lines.c0.Dead (fallS s (a.N % 4)).1.Lines.c1.Dead (fallS s (a.N % 4)).1.Lines.c2.Dead (fallS s (a.N % 4)).1.Lines.c3.Dead (b.map (upd (fallS s (a.N % 4)).2.2 (a.N % 4))) (fallS s (a.N % 4)).1 := by
  have hf := inv.few
  have hlen := inv.len
  obtain ⟨⟨k1, k2⟩, ⟨k3, k4⟩, ⟨k5, k6⟩, k7, k8⟩ := ha
  have hb := bet4 k3
  have hfa : (fallS s (a.N % 4)).2.2 = upAt s (a.N % 4) := by
    unfold fallS upAt
    rw [hb]
    cases hu : (lineAt s (a.N % 4)).Up
    · rw [if_neg (by simp)]; rfl
    · rw [if_pos ⟨rfl, inv.ok.ck, rfl⟩]; rfl
  have hgl := (fall_len s (a.N % 4)).2
  have hL := fall_L4 (N := a.N) (y := fallS s (a.N % 4)) (i := (p.length : Int)) (kk0 := sennitlaw28_PathsStay_L0 l f) (d0 := (fallS s (a.N % 4)).1.Lines.c0.Dead) (d1 := (fallS s (a.N % 4)).1.Lines.c1.Dead) (d2 := (fallS s (a.N % 4)).1.Lines.c2.Dead) (d3 := (fallS s (a.N % 4)).1.Lines.c3.Dead) (b := b) ⟨k3, k4⟩ hlen (by omega) (fun j x hx => by
    have hj : j < 40 := by rw [← hlen]; exact (List.getElem?_eq_some_iff.1 hx).1
    have := inv.bv j hj
    rw [hx] at this
    cases this
    exact fall_gone inv.ok (a.N % 4) j) b [] fuel rfl (fuel_gt (by rw [hlen]; decide))
  obtain ⟨d0, d1, d2, d3⟩ := fall_dead s hb inv.ok
  unfold SL sennitlaw28_PathsStay_L0
  simp only [bndD, lt_at h, bif_tt, gix_at h, bnoS, w64 (show -9223372036854775808 ≤ a.N by omega) (by omega), rem_ok k7 (show (0 : Int) < 4 by decide), rem_ok k1 (show (0 : Int) < 6 by decide), rem_ok k3 (show (0 : Int) < 4 by decide), eta28, alive_eq, hk, show decide ((1 : Int) = 0) = false from rfl, decide_true, bif_ff, fall_eq _ (show s.Binds.length ≤ 1000 by omega), is_alive, hfa, beq_self_eq_true, Bool.not_true, gixL T_paths_Line.Dead s hb, chk_k hb]
  rw [hfa] at d0 d1 d2 d3
  rw [← d0, ← d1, ← d2, ← d3, ← hfa]
  exact hL
/-! The invariant stays. -/
theorem inv_same {s s' : S28} {b : List Int} (h : Inv28 s b) (ho : Ok s') (hb : s'.Binds = s.Binds) : Inv28 s' b := ⟨ho, h.len, fun j hj => by rw [hb]; exact h.bv j hj, fun x hx => h.st x (by rw [← hb]; exact hx)⟩
theorem inv_fall {s : S28} {b : List Int} (h : Inv28 s b) (k : Int) : Inv28 (fallS s k).1 (b.map (upd (fallS s k).2.2 k)) := by
  have ho := ok_fall h.ok k
  have hg := fall_gone h.ok k
  refine ⟨ho, by rw [List.length_map]; exact h.len, fun j hj => ?_, fun x hx => ?_⟩
  · rw [List.getElem?_map, h.bv j hj, Option.map_some]
    congr 1
    unfold upd
    have hgj := hg j
    by_cases hc : bet k 0 3 = true ∧ check28 s = 0 ∧ (lineAt s k).Up = true
    · have e : fallS s k = (⟨(setL s k ⟨false, true, (lineAt s k).Bytes, (lineAt s k).Ticks⟩).Lines, if s.Pinned = k then -1 else s.Pinned, s.Binds.filter fun b => !decide (b.Path = k)⟩, (s.Binds.filter fun b => decide (b.Path = k)).map (·.Stream), true) := by unfold fallS; rw [if_pos hc]
      rw [e] at ho ⊢
      have hk := bet_iff.1 hc.1
      have ho : (s.Binds.filter fun b => !decide (b.Path = k)).Pairwise (fun a b => a.Stream < b.Stream) := ho.pw
      show (if (true && decide (bound28 s.Binds j = k + 1)) = true then (0 : Int) else bound28 s.Binds j) = bound28 (s.Binds.filter fun b => !decide (b.Path = k)) j
      rw [Bool.true_and]
      rcases bound_cases s.Binds j with ⟨x, hx, hxj⟩ | hn
      · have e1 := bound_mem h.ok.pw hx
        rw [hxj] at e1
        by_cases hp : x.Path = k
        · rw [if_pos (by rw [e1, hp]; exact decide_eq_true rfl), bound_none]
          intro y hy hyj
          have hy := List.mem_filter.1 hy
          have e2 := bound_mem h.ok.pw hy.1
          rw [hyj, e1] at e2
          have : y.Path = k := by omega
          rw [this] at hy; simp at hy
        · rw [if_neg (by rw [e1]; simp; omega), e1]
          have := bound_mem ho (b := x) (List.mem_filter.2 ⟨hx, by simp [hp]⟩)
          rw [hxj] at this; exact this.symm
      · rw [bound_none hn, if_neg (by simp; omega), bound_none (fun y hy => hn y (List.mem_filter.1 hy).1)]
    · have e : fallS s k = (s, [], false) := by unfold fallS; rw [if_neg hc]
      rw [e]; rfl
  · unfold fallS at hx
    split at hx
    · exact h.st x (List.mem_filter.1 hx).1
    · exact h.st x hx
theorem get_set {b : List Int} {n j : Nat} {v : Int} (h : n < b.length) : (b.set n v)[j]? = if n = j then some v else b[j]? := by
  by_cases e : n = j
  · subst e; rw [List.getElem?_set_self h, if_pos rfl]
  · rw [List.getElem?_set_ne e, if_neg e]
theorem inv_free {s : S28} {b : List Int} (h : Inv28 s b) {n : Int} (hn : 1 ≤ n ∧ n ≤ 20) : Inv28 (freeS s n) (b.set n.toNat 0) := by
  have e : freeS s n = ⟨s.Lines, s.Pinned, s.Binds.filter fun b => !decide (b.Stream = n)⟩ := by unfold freeS; rw [if_pos h.ok.ck]
  have ho := ok_free h.ok n
  refine ⟨ho, by rw [List.length_set]; exact h.len, fun j hj => ?_, fun x hx => ?_⟩
  · rw [get_set (by rw [h.len]; omega)]
    rw [e] at ho ⊢
    have ho : (s.Binds.filter fun b => !decide (b.Stream = n)).Pairwise (fun a b => a.Stream < b.Stream) := ho.pw
    show _ = some (bound28 (s.Binds.filter fun b => !decide (b.Stream = n)) j)
    split
    · rename_i hj2
      rw [bound_none]
      intro y hy hyj
      have := (List.mem_filter.1 hy).2
      simp at this; omega
    · rename_i hj2
      rw [h.bv j hj]
      congr 1
      rcases bound_cases s.Binds j with ⟨x, hx, hxj⟩ | hq
      · have e1 := bound_mem h.ok.pw hx
        have e2 := bound_mem ho (b := x) (List.mem_filter.2 ⟨hx, by simp; omega⟩)
        rw [hxj] at e1 e2
        rw [e1, e2]
      · rw [bound_none hq, bound_none (fun y hy => hq y (List.mem_filter.1 hy).1)]
  · rw [e] at hx
    exact h.st x (List.mem_filter.1 hx).1
theorem inv_choose {s : S28} {b : List Int} (h : Inv28 s b) {n : Int} (hn : 1 ≤ n ∧ n ≤ 20) : Inv28 (chooseS s n).1 (b.set n.toNat ((chooseS s n).2 + 1)) := by
  have ho := ok_choose h.ok n
  have hfew := h.few
  have hnl : n.toNat < b.length := by rw [h.len]; omega
  have hself : ∀ j : Nat, n.toNat = j → (j : Int) = n := fun j hj => by omega
  unfold chooseS at ho ⊢
  rw [if_pos ⟨bet_iff.2 (by omega), h.ok.ck⟩] at ho ⊢
  cases hq : s.Binds.find? (fun b => decide (b.Stream = n)) with
  | some x =>
    rw [hq] at ho
    refine ⟨ho, by rw [List.length_set]; exact h.len, fun j hj => ?_, h.st⟩
    rw [get_set hnl]
    split
    · rename_i hj2
      show some (x.Path + 1) = some (bound28 s.Binds j)
      rw [hself j hj2]; unfold bound28; rw [hq]
    · exact h.bv j hj
  | none =>
    have hne : ∀ y ∈ s.Binds, y.Stream ≠ n := fun y hy => by have := List.find?_eq_none.1 hq y hy; simpa using this
    rw [hq] at ho
    by_cases hb : bestS s = -1 ∨ 32 ≤ s.Binds.length
    · have hb1 : bestS s = -1 := by rcases hb with hb | hb; exact hb; omega
      simp only [if_pos hb] at ho ⊢
      refine ⟨ho, by rw [List.length_set]; exact h.len, fun j hj => ?_, h.st⟩
      rw [get_set hnl]
      split
      · rename_i hj2
        show some (bestS s + 1) = some (bound28 s.Binds j)
        rw [hself j hj2, bound_none hne, hb1]; rfl
      · exact h.bv j hj
    · simp only [if_neg hb] at ho ⊢
      have hmem : ∀ y, y ∈ s.Binds.filter (fun b => decide (b.Stream < n)) ++ [(⟨n, bestS s⟩ : B28)] ++ s.Binds.filter (fun b => decide (n ≤ b.Stream)) ↔ y = ⟨n, bestS s⟩ ∨ y ∈ s.Binds := fun y => by
        simp only [List.mem_append, List.mem_filter, List.mem_singleton, decide_eq_true_iff]
        constructor
        · rintro ((⟨h1, _⟩ | h1) | ⟨h1, _⟩)
          · exact .inr h1
          · exact .inl h1
          · exact .inr h1
        · rintro (h1 | h1)
          · exact .inl (.inr h1)
          · rcases Int.lt_or_le y.Stream n with h2 | h2
            · exact .inl (.inl ⟨h1, h2⟩)
            · exact .inr ⟨h1, h2⟩
      have hpw := ho.pw
      refine ⟨ho, by rw [List.length_set]; exact h.len, fun j hj => ?_, fun x hx => ?_⟩
      · rw [get_set hnl]
        split
        · rename_i hj2
          have := bound_mem hpw (b := ⟨n, bestS s⟩) ((hmem _).2 (.inl rfl))
          rw [hself j hj2]; exact congrArg some this.symm
        · rename_i hj2
          rw [h.bv j hj]
          congr 1
          rcases bound_cases s.Binds j with ⟨x, hx, hxj⟩ | hq2
          · have e1 := bound_mem h.ok.pw hx
            have e2 := bound_mem hpw (b := x) ((hmem _).2 (.inr hx))
            rw [hxj] at e1 e2
            exact e1.trans e2.symm
          · rw [bound_none hq2]
            symm
            refine bound_none (fun y hy => ?_)
            rcases (hmem y).1 hy with rfl | hy
            · show n ≠ (j : Int); omega
            · exact hq2 y hy
      · rcases (hmem x).1 hx with rfl | hx
        · exact hn.2
        · exact h.st x hx
theorem pin_dead (s : S28) : (pinS s).1.Lines = s.Lines := by unfold pinS; repeat' split
                                                              all_goals rfl
theorem choose_lines (s : S28) (n : Int) : (chooseS s n).1.Lines = s.Lines := by
  unfold chooseS
  split
  · split
    · rfl
    · split <;> rfl
  · rfl
theorem free_lines (s : S28) (n : Int) : (freeS s n).Lines = s.Lines := by unfold freeS; split <;> rfl
theorem stay_step {l p r : List T_sennitlaw28_Act} {a : T_sennitlaw28_Act} {s : S28} {b : List Int} {f : Nat} (hl : l.length ≤ 100) (h : l = p ++ a :: r) (ha : act28 a) (inv : Inv28 s b) : ∃ s' b', Inv28 s' b' ∧ SL l (f + 1) (p.length : Int) s b = SL l f ((p.length + 1 : Nat) : Int) s' b' := by
  have hpl : p.length ≤ 1000 := by rw [h] at hl; simp at hl; omega
  obtain ⟨⟨k1, k2⟩, ⟨k3, k4⟩, ⟨k5, k6⟩, k7, k8⟩ := id ha
  have hn : 1 ≤ 1 + a.N % 20 ∧ 1 + a.N % 20 ≤ 20 := by omega
  have : a.Kind % 6 = 0 ∨ a.Kind % 6 = 1 ∨ a.Kind % 6 = 2 ∨ a.Kind % 6 = 3 ∨ a.Kind % 6 = 4 ∨ a.Kind % 6 = 5 := by omega
  rcases this with c | c | c | c | c | c
  · have hi := inv_same inv (ok_rise inv.ok (a.N % 4)) (rise_len s _)
    obtain ⟨d0, d1, d2, d3⟩ := rise_dead s (a.N % 4)
    have hj := stay_J2 (l := l) (f := f) (bound := b) hpl hi.ok
    rw [d0, d1, d2, d3] at hj
    exact ⟨_, _, hi, (stay_rise h ha inv c).trans hj⟩
  · have hi := inv_fall inv (a.N % 4)
    exact ⟨_, _, hi, (stay_fall h ha inv c).trans (stay_J2 hpl hi.ok)⟩
  · have hi := inv_same inv (ok_note inv.ok (a.Path % 4) ⟨k3, k4⟩ ⟨k5, k6⟩) (note_len s _ _ _)
    obtain ⟨d0, d1, d2, d3⟩ := note_dead s (a.Path % 4) a.N a.M
    have hj := stay_J2 (l := l) (f := f) (bound := b) hpl hi.ok
    rw [d0, d1, d2, d3] at hj
    exact ⟨_, _, hi, (stay_note h ha inv c).trans hj⟩
  · have hi := inv_choose inv hn
    have e := choose_lines s (1 + a.N % 20)
    have hj := stay_J2 (l := l) (f := f) (bound := b.set (1 + a.N % 20).toNat ((chooseS s (1 + a.N % 20)).2 + 1)) hpl hi.ok
    refine ⟨_, _, hi, (stay_choose h ha inv c).trans (Eq.trans ?_ hj)⟩
    rw [e]
  · have hi := inv_free inv hn
    have e := free_lines s (1 + a.N % 20)
    have hj := stay_J2 (l := l) (f := f) (bound := b.set (1 + a.N % 20).toNat 0) hpl hi.ok
    refine ⟨_, _, hi, (stay_free h ha inv c).trans (Eq.trans ?_ hj)⟩
    rw [e]
  · have hi := inv_same inv (ok_pin inv.ok) (pin_len s)
    have e := pin_dead s
    have hj := stay_J2 (l := l) (f := f) (bound := b) hpl hi.ok
    refine ⟨_, _, hi, (stay_pin h ha inv c).trans (Eq.trans ?_ hj)⟩
    rw [e]
theorem stay_loop {l : List T_sennitlaw28_Act} (hl : l.length ≤ 100) (hk : ∀ a ∈ l, act28 a) : ∀ (r p : List T_sennitlaw28_Act) (f : Nat) (s : S28) (b : List Int), l = p ++ r → r.length < f → Inv28 s b → SL l f (p.length : Int) s b = some true := by
  intro r
  induction r with
  | nil =>
    intro p f s b h hf inv
    obtain ⟨f, rfl⟩ : ∃ g, f = g + 1 := ⟨f - 1, by simp at hf; omega⟩
    unfold SL sennitlaw28_PathsStay_L0
    simp only [bndD, lt_end h, bif_ff, awake28, bnoS]
  | cons a r ih =>
    intro p f s b h hf inv
    obtain ⟨f, rfl⟩ : ∃ g, f = g + 1 := ⟨f - 1, by simp at hf; omega⟩
    obtain ⟨s', b', hi, he⟩ := stay_step (f := f) hl h (hk a (by rw [h]; simp)) inv
    rw [he]
    have := ih (p ++ [a]) f s' b' (next_at h) (by simpa using hf) hi
    rw [List.length_append, List.length_singleton] at this
    exact this
def new28 : S28 := ⟨⟨⟨false, false, 0, 0⟩, ⟨false, false, 0, 0⟩, ⟨false, false, 0, 0⟩, ⟨false, false, 0, 0⟩⟩, -1, []⟩
theorem ok_new28 : Ok new28 := by
  refine ok_of (fun k hk => ?_) (.inl rfl) (Nat.zero_le _) .nil (fun b hb => (List.not_mem_nil hb).elim)
  rcases four hk with rfl | rfl | rfl | rfl <;> exact ⟨rfl, by decide, by decide, by decide, by decide⟩
theorem inv_new28 : Inv28 new28 (List.replicate 40 0) := ⟨ok_new28, by rw [List.length_replicate], fun j hj => by rw [List.getElem?_replicate, if_pos hj]; rfl, fun x hx => (List.not_mem_nil hx).elim⟩
theorem pathsStay (l : List T_sennitlaw28_Act) (hk : ∀ a ∈ l, act28 a) : sennitlaw28_PathsStay l = some true := by
  unfold sennitlaw28_PathsStay
  simp only [bndD]
  by_cases h : (80 : Int) < l.length
  · rw [decide_eq_true h, bif_tt, awake28, bnoS]
  · rw [decide_eq_false h, bif_ff]
    unfold paths_New
    rw [bnoS]
    have h0 := stay_loop (by omega) hk l [] fuel new28 (List.replicate 40 0) rfl (fuel_gt (by omega)) inv_new28
    exact h0
end Go.Fn
open Go.RowKit Go.WideShapes Go.ChangeShapes
namespace Go.IL

/-! A law's arguments: how they read. -/
def Spotless (v : Value) : Prop := ∀ a n c, v = .slice (some a) n c → a.spot = none
theorem spot_cell {P : Program} {w : World} {r : Reach} {b : Nat} {t : TypeId} {v : Value} (h : Cell.okWide P w r b t v) : Spotless v := by
  intro a n c e
  subst e
  have h2 : Cell.ok P w r b t (.slice (some a) n c) := by
    unfold Cell.okWide at h
    split at h <;> first | exact h | (rename_i h3 _; cases h3) | (rename_i h3; cases h3) | skip
    all_goals first | exact h | simp_all
  unfold Cell.ok at h2
  split at h2 <;> simp_all [World.has]
theorem spot_val {P : Program} {w : World} {r : Reach} {b : Nat} {t : TypeId} {v : Value} (h : Value.okWide P w r b t v) : ∀ u ∈ v.cells.toList, Spotless u := by
  have agg : ∀ cs : Array Value, Row.okWide P w r b t cs → ∀ u ∈ cs.toList, Spotless u := by
    intro cs ⟨ts, _, _, h3⟩ u hu
    obtain ⟨i, hi⟩ := List.getElem?_of_mem hu
    obtain ⟨q, _, hq⟩ := h3 i u (by simpa using hi)
    exact spot_cell hq
  unfold Value.okWide at h
  split at h
  · obtain ⟨cs, rfl, _, h⟩ := h; simpa [Value.cells] using agg cs h
  · obtain ⟨cs, rfl, _, h⟩ := h; simpa [Value.cells] using agg cs h
  · have h2 := spot_cell h
    intro u hu
    cases v with
    | agg cs =>
      exfalso
      unfold Cell.okWide at h
      split at h <;> simp_all [Cell.ok]
    | _ => simp [Value.cells] at hu; subst hu; exact h2

def Env.none (w : World) : Env := ⟨w, fun _ _ => False⟩
/-- What the cells of a type read as. -/
def OpD (P : Program) (sp : Bool) (t : TypeId) (Q : List D → Prop) : Prop :=
  ∀ {H : Type} {enc : TypeId × Value → H} {w : World} {base : Nat} {spare : Nat → Bool} {held : Bool} {fuel : Nat} {cs : List Value} {x : DataW H × List MemPlace},
    DataW.trod enc P w base spare held fuel t cs = some x → (sp = true → ∀ v ∈ cs, Spotless v) → ∃ ds, RdL (Env.none w) β0 cs ds ∧ Q ds
def qInt (k : IntKind) (ds : List D) : Prop := ∃ n : Int, ds = [.int k n] ∧ (k.min ≤ n ∧ n ≤ k.max)
def qSlice {α : Type} (f : Enc α) (wf : α → Prop) (ds : List D) : Prop := ∃ l : List α, ds = [.slice false (l.map f.d)] ∧ l.length ≤ 9223372036854775807 ∧ ∀ x ∈ l, wf x
def qList : List (List D → Prop) → List D → Prop
  | [], ds => ds = []
  | Q :: Qs, ds => ∃ a b, ds = a ++ b ∧ Q a ∧ qList Qs b

section
variable {P : Program} {sp : Bool} {t : TypeId}
theorem opd_int {k : IntKind} (hu : P.underlying t = some (.int k)) : OpD P sp t (qInt k) := by
  intro H enc w base spare held fuel cs x h _
  obtain ⟨n, rfl, rfl, hw⟩ := DataW.trod_int hu h
  exact ⟨[.int k n], .cons (.int _ _ _) (.nil _), n, rfl, by simpa [Lit.wf] using hw⟩
theorem opd_slice {α : Type} {f : Enc α} {e : TypeId} {wf : α → Prop} (hu : P.underlying t = some (.slice e)) (hc : P.cellsOf e = f.sz) (he : OpD P false e (fun ds => ∃ a, ds = (f.d a).cells ∧ wf a)) : OpD P sp t (qSlice f wf) := by
  intro H enc w base spare held fuel cs x h hs
  rcases DataW.trod_slice hu h with ⟨rfl, _⟩ | ⟨a, len, cap, elems, rest, n, _, rfl, rfl, hb, hl, hm, hlen, hel, _, _⟩
  · exact ⟨[.slice false []], .cons (.nslice _ _) (.nil _), [], rfl, by simp, by simp⟩
  · by_cases hl0 : len = 0
    · subst hl0; exact ⟨[.slice false []], .cons (.eslice _ a cap) (.nil _), [], rfl, by simp, by simp⟩
    have hsp0 : a.spot = none := by
      have h1 := hel 0 (by omega)
      have h2 : elems[0]? = some (elems[0]'(by omega)) := List.getElem?_eq_getElem _
      rw [h2, Option.bind_eq_some_iff] at h1
      obtain ⟨vs, h3, _⟩ := h1
      have h7 := World.cells?_some h3
      have hp := f.pos
      have h8 := h7.2.2 0 (by rw [hc]; exact hp)
      rw [Nat.zero_mul] at h8
      have e0 : ((a.add 0).add 0) = a := rfl
      rw [e0] at h8
      cases hsp : a.spot with
      | none => rfl
      | some q =>
        exfalso
        unfold World.cell? at h8
        rw [hsp] at h8
        split at h8
        · simp at h8; have := h7.1; simp_all
        · have := h7.1; simp_all
    have ha : a = ⟨a.block, a.off, none⟩ := by cases a; simp_all
    have each : ∀ i, i < len → ∃ (vs : List Value) (y : α), (∀ k v, vs[k]? = some v → w.cell? ⟨a.block, a.off + (i * f.sz + k), none⟩ = some v) ∧ RdL (Env.none w) β0 vs (f.d y).cells ∧ wf y := by
      intro i hi
      have h1 := hel i hi
      have h2 : elems[i]? = some (elems[i]'(by omega)) := List.getElem?_eq_getElem _
      rw [h2, Option.bind_eq_some_iff] at h1
      obtain ⟨vs, h3, h4⟩ := h1
      obtain ⟨ds, h5, y, rfl, h6⟩ := he h4 (by simp)
      refine ⟨vs, y, fun k v hk => ?_, h5, h6⟩
      have h7 := World.cells?_some h3
      have hk' := (List.getElem?_eq_some_iff.1 hk).1
      have h8 := h7.2.2 k (by omega)
      rw [hk, ha, hc] at h8
      rw [← h8]
      congr 1
      by_cases h9 : i * f.sz = 0
      · by_cases h10 : k = 0
        · simp [Addr.add, h9, h10]
        · simp [Addr.add, h9, h10]
      · by_cases h10 : k = 0
        · simp [Addr.add, h9, h10]
        · simp [Addr.add, h9, h10, Nat.add_assoc]
    have all : ∀ m, m ≤ len → ∃ (vs : List Value) (l : List α), l.length = m ∧ (∀ k v, vs[k]? = some v → w.cell? ⟨a.block, a.off + k, none⟩ = some v) ∧ RdL (Env.none w) β0 vs (D.flat (l.map f.d)) ∧ ∀ y ∈ l, wf y := by
      intro m
      induction m with
      | zero => intro _; exact ⟨[], [], rfl, by simp, .nil _, by simp⟩
      | succ m ih =>
        intro hm'
        obtain ⟨vs, l, h1, h2, h3, h4⟩ := ih (by omega)
        obtain ⟨us, y, h5, h6, h7⟩ := each m (by omega)
        have hvl : vs.length = m * f.sz := by rw [h3.length, f.flat_len, h1]
        refine ⟨vs ++ us, l ++ [y], by simp [h1], fun k v hk => ?_, ?_, ?_⟩
        · by_cases hk' : k < vs.length
          · exact h2 k v (by rwa [List.getElem?_append_left hk'] at hk)
          · rw [List.getElem?_append_right (by omega)] at hk
            have := h5 _ _ hk
            rwa [hvl, show m * f.sz + (k - m * f.sz) = k by omega] at this
        · rw [List.map_append]
          have e2 : D.flat (l.map f.d ++ [y].map f.d) = D.flat (l.map f.d) ++ (f.d y).cells := by simp [D.flat]
          rw [e2]; exact h3.append h6
        · intro z hz
          rcases List.mem_append.1 hz with h | h
          · exact h4 z h
          · simp at h; subst h; exact h7
    obtain ⟨vs, l, h1, h2, h3, h4⟩ := all len (Nat.le_refl _)
    refine ⟨[.slice false (l.map f.d)], .cons ?_ (.nil _), l, rfl, by unfold maxLen at hm; omega, h4⟩
    rw [ha]
    exact .slice _ _ _ len cap f.sz false vs _ (by rw [List.length_map, h1]) hl (by simp) (f.len l) f.pos (fun k v hk => ⟨h2 k v hk, fun h => h⟩) h3

/-- The fields of a struct, one behind the other. -/
def fieldsAt (P : Program) : Nat → List Field → Bool
  | _, [] => true
  | k, f :: fs => f.offset == k && fieldsAt P (k + P.cellsOf f.type) fs
inductive OpFs (P : Program) (sp : Bool) : List Field → List (List D → Prop) → Prop
  | nil : OpFs P sp [] []
  | cons {f fs Q Qs} (h : OpD P sp f.type Q) (t : OpFs P sp fs Qs) : OpFs P sp (f :: fs) (Q :: Qs)
theorem opd_struct {fs : Array Field} {Qs : List (List D → Prop)} (hu : P.underlying t = some (.struct fs)) (hf : fieldsAt P 0 fs.toList = true) (hn : P.cellsOf t = (fs.toList.map fun f => P.cellsOf f.type).sum) (h : OpFs P sp fs.toList Qs) : OpD P sp t (qList Qs) := by
  intro H enc w base spare held fuel cs x hx hs
  obtain ⟨xs, n, _, _, hlen, hxl, hfld⟩ := DataW.trod_struct hu hx
  have key : ∀ (l : List Field) (Qs : List (List D → Prop)) (k : Nat), OpFs P sp l Qs → fieldsAt P k l = true → k + (l.map fun f => P.cellsOf f.type).sum = cs.length →
      (∀ f ∈ l, ∃ y, DataW.trod enc P w base spare held n f.type ((cs.drop f.offset).take (P.cellsOf f.type)) = some y) → ∃ ds, RdL (Env.none w) β0 (cs.drop k) ds ∧ qList Qs ds := by
    intro l Qs k ho
    induction ho generalizing k with
    | nil =>
      intro _ h1 _
      refine ⟨[], ?_, rfl⟩
      rw [List.drop_of_length_le (by simp at h1; omega)]; exact .nil _
    | @cons f fs Q Qs h t ih =>
      intro h1 h2 h3
      simp only [fieldsAt, Bool.and_eq_true, beq_iff_eq] at h1
      simp only [List.map_cons, List.sum_cons] at h2
      obtain ⟨y, hy⟩ := h3 f (by simp)
      rw [h1.1] at hy
      obtain ⟨ds, h4, h5⟩ := h hy (fun hsp v hv => hs hsp v (List.mem_of_mem_drop (List.mem_of_mem_take hv)))
      obtain ⟨es, h6, h7⟩ := ih (k + P.cellsOf f.type) h1.2 (by omega) (fun g hg => h3 g (by simp [hg]))
      refine ⟨ds ++ es, ?_, ds, es, rfl, h5, h7⟩
      have := h4.append h6
      rwa [← List.drop_drop, List.take_append_drop] at this
  have := key fs.toList Qs 0 h hf (by rw [Nat.zero_add, ← hn, hlen]) (fun f hf => by
    obtain ⟨i, hi⟩ := List.getElem?_of_mem hf
    have h1 := hfld i f (by simpa using hi)
    have h2 : i < xs.length := by rw [hxl]; have := (List.getElem?_eq_some_iff.1 hi).1; simpa using this
    exact ⟨xs[i], by rw [h1, List.getElem?_eq_getElem h2]⟩)
  rwa [List.drop_zero] at this
theorem OpD.to {Q R : List D → Prop} (h : OpD P sp t Q) (k : ∀ ds, Q ds → R ds) : OpD P sp t R := by
  intro H enc w base spare held fuel cs x hx hs
  obtain ⟨ds, h1, h2⟩ := h hx hs
  exact ⟨ds, h1, k ds h2⟩
/-- An argument. -/
theorem opd_val {Q : List D → Prop} (h : OpD P true t Q) {H : Type} {enc : TypeId × Value → H} {w : World} {base b0 : Nat} {spare : Nat → Bool} {held : Bool} {v : Value} {d : DataW H} {ps : List MemPlace} {r : Reach}
    (hv : Value.okWide P w r b0 t v) (hd : DataW.Trod enc P w base spare held t v d ps) : ∃ ds, RdL (Env.none w) β0 v.cells.toList ds ∧ Q ds := by
  obtain ⟨fuel, hf⟩ := hd
  exact h hf (fun _ => spot_val hv)
theorem rd_scalar {E : Env} {v : Value} {d : D} (h : RdL E β0 v.cells.toList [d]) (hn : ∀ cs, v ≠ .agg cs) : Rd E β0 v d := by
  cases v with
  | agg cs => exact absurd rfl (hn cs)
  | _ => simp [Value.cells] at h; cases h with | cons h _ => exact h
section
variable {H : Type} {enc : TypeId × Value → H}
theorem trodAll_below (hl : laidOutB P = true) {W W' : World} (hb : Below W.heap.size W W') {sp : Nat → Bool} : ∀ {ts : List TypeId} {vs : List Value} {ds : List (DataW H)} {ps : List MemPlace},
    (∀ t ∈ ts, P.readableRec t = true ∧ t < P.types.size) → DataW.TrodAll enc P W 0 (fun _ => true) true ts vs ds ps → (∀ x ∈ ps, x.block < W.heap.size) → (∀ x ∈ ps, sp x.block = true) →
    DataW.TrodAll enc P W' 0 sp true ts vs ds ps
  | [], vs, ds, ps, _, h, _, _ => by
    obtain ⟨rfl, rfl, rfl⟩ := trodAll_nil h; exact rfl
  | t :: ts, vs, ds, ps, hr, h, hlt, hsp => by
    obtain ⟨v, vs', d, ds', p, q, rfl, rfl, rfl, h1, h2⟩ := trodAll_cons h
    refine ⟨p, q, ?_, trodAll_below hl hb (fun t ht => hr t (by simp [ht])) h2 (fun x hx => hlt x (by simp [hx])) (fun x hx => hsp x (by simp [hx])), rfl⟩
    have hx : ∀ x ∈ p, x ∈ p ++ q := fun x hx => by simp [hx]
    exact WideElems.Trod_stays hl (hr t (by simp)).1 (hr t (by simp)).2 h1 (fun x hxp => hb.same (hlt x (hx x hxp))) (fun x hxp => hsp x (hx x hxp))
theorem post_of_below {f : Func} {s : ChangeSpec} {apart fresh handsOn again : Bool} {W W' : World} {args : Array Value} {v : Value} {ds gs : List (DataW H)} {before pa pv : List MemPlace}
    (hW : DataW.Whole enc P f.params.toList s.vars apart W args.toList ds gs before)
    (hres : ∀ (b : Nat) (sp : Nat → Bool) (hd : Bool), DataW.TrodAll enc P W' b sp hd f.resultTypes.toList (v.resultList f.resultTypes.size) (s.fn H (ds ++ gs)).results [])
    (hargs : ∀ sp : Nat → Bool, (∀ p ∈ before, sp p.block = true) → DataW.TrodAll enc P W' 0 sp true f.params.toList args.toList (s.fn H (ds ++ gs)).args pa)
    (hvars : ∀ sp : Nat → Bool, (∀ p ∈ before, sp p.block = true) → DataW.TrodVars enc P W' sp s.vars (s.fn H (ds ++ gs)).vars pv)
    (hps : before = pa ++ pv) (hb : Below W.heap.size W W')
    (hok : ∀ (j : Nat) (t : TypeId) (r : Value), f.resultTypes[j]? = some t → (v.resultList f.resultTypes.size)[j]? = some r → Value.okWide P W' .any 0 t r) :
    s.post enc P f apart fresh handsOn again W args v W' := by
  have hlt : ∀ p ∈ before, p.block < W.heap.size := fun p hp => hW.lt p hp
  have hold : ∀ p ∈ before, (fun b => decide (b < W.heap.size)) p.block = true := fun p hp => by simpa using hlt p hp
  refine ⟨ds, gs, before, [], pa, pv, hW, hres _ _ _, hargs _ hold, hvars _ hold, World.keptBut_mono (fun p hp => ⟨hp, ?_⟩) (hb.frame (· ∈ before)), fun _ => ?_⟩
  · rw [hps, List.mem_append] at hp
    exact Or.inr hp
  · obtain ⟨_, _, _, _, _, hz, hn⟩ := hW
    refine ⟨hok, _, _, ([] ++ pa) ++ pv, ⟨[] ++ pa, pv, trodAll_append (hargs _ (fun _ _ => rfl)) (hres _ _ _), hvars _ (fun _ _ => rfl), rfl, ?_, ?_⟩, ?_⟩
    · intro b off hp
      have hin : MemPlace.cell b off ∈ before := by rw [hps]; simpa using hp
      rw [hb.frozen (hlt _ hin)]
      exact hz b off hin
    · intro ha
      have := hn ha
      rw [hps] at this
      simpa using this
    · intro p hp _
      rw [hps]
      simpa using hp
theorem law_post {f : Func} {s : ChangeSpec} {apart fresh handsOn again : Bool} {W W' : World} {args : Array Value} {ds gs : List (DataW H)} {before : List MemPlace} {tb : TypeId}
    (hl : laidOutB P = true) (hr : ∀ t ∈ f.params.toList, P.readableRec t = true ∧ t < P.types.size) (hv : s.vars = []) (hres : f.resultTypes = #[tb]) (hbool : P.underlying tb = some .bool)
    (hfn : s.fn H (ds ++ gs) = { results := [.lit (.bool true)], args := ds })
    (hW : DataW.Whole enc P f.params.toList s.vars apart W args.toList ds gs before) (hb : Below W.heap.size W W') : s.post enc P f apart fresh handsOn again W args (.bool true) W' := by
  have hW' := hW
  obtain ⟨p, q, hA, hV, hbef, hfz, hnd⟩ := hW
  rw [hv] at hV
  obtain ⟨rfl, rfl⟩ := trodVars_none hV
  have hlt : ∀ x ∈ before, x.block < W.heap.size := fun x hx => hW'.lt x hx
  have hsub : ∀ x ∈ p, x ∈ before := fun x hx => by rw [hbef]; simp [hx]
  refine post_of_below (pa := p) (pv := []) hW' ?_ ?_ ?_ ?_ hb ?_
  · intro b sp hd
    rw [hfn, hres]
    exact trodAll_mk1 (shut_bool hbool true)
  · intro sp hsp
    rw [hfn]
    exact trodAll_below hl hb hr hA (fun x hx => hlt x (hsub x hx)) (fun x hx => hsp x (hsub x hx))
  · intro sp hsp
    rw [hfn, hv]; exact rfl
  · exact hbef
  · exact ok_one hres rfl (okWide_bool_mk hbool true)
end
end
end Go.IL
namespace Go.IL
theorem rd_arg_one {P : Program} {w W : World} {r : Reach} {b : Nat} {t : TypeId} {v : Value} {d : D} (hv : Value.okWide P W r b t v) (hg : aggOf P t = false) (h : RdL (Env.none w) β0 v.cells.toList [d]) : Rd (Env.none w) β0 v d := by
  refine rd_scalar h fun cs e => ?_
  subst e
  unfold aggOf at hg
  unfold Value.okWide at hv
  split at hv
  · rename_i h1; rw [h1] at hg; cases hg
  · rename_i h1; rw [h1] at hg; cases hg
  · unfold Cell.okWide at hv
    split at hv <;> simp_all [Cell.ok]
end Go.IL
open Go.RowKit Go.WideShapes Go.ChangeShapes
namespace Go.IL
end Go.IL
