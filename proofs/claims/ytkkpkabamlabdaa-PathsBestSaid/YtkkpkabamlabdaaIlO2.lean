/-
  A part of the proof: rules and plain facts. No condition.
-/
import Derived.Test.YtkkpkabamlabdaaIlP40
import Derived.Test.YtkkpkabamlabdaaIlSl
import Derived.ProofKit
import Derived.OpenShut
set_option linter.all false
set_option linter.unusedSimpArgs false
set_option linter.unusedVariables false
open Go Go.IL Go.Fl
namespace Go.Fn
theorem rate_inf {n : Int} (h : 0 < n) (h2 : n < 1125899906842624) : kk (rate n 0) = INF := by
  obtain ⟨m, p, e, hm⟩ := toF_sgn (n := n) (by omega) (by omega)
  unfold rate
  rw [toF0]
  have h1 : fAr .quo (floatOfInt .f64 n) 0 = Ieee.double.word false 9218868437227405312 := fAr_some (by
    rw [decide_eq_false (show ¬ n < 0 by omega)] at e
    unfold floatBits Ieee.Format.div
    rw [show FloatKind.format .f64 = Ieee.double from rfl, read0, e]
    simp only [Ieee.Datum.quotient]
    rw [if_pos trivial, if_neg hm]
    show some (Ieee.double.word (false ^^ false) Ieee.double.infRung) = _
    rw [ir]; rfl)
  have hw := word_rung (a := Ieee.double.word false 9218868437227405312) (s := false) ⟨rung_word _ (by decide), sgn_word _ (by decide)⟩
  rw [h1]
  unfold kk
  rw [if_neg (by rw [hw.1]; decide)]
  unfold K
  rw [sgn_word _ (by decide), rung_word _ (by decide)]; rfl
theorem rate_fin {b t : Int} (hb : 0 ≤ b ∧ b ≤ 1073741824) (ht : 0 < t ∧ t ≤ 1073741824) : kk (rate b t) < INF := by
  have key : ∃ S, Wr (rate b t) false S := by
    unfold rate
    obtain ⟨x, rfl⟩ := Int.eq_ofNat_of_zero_le hb.1
    obtain ⟨y, rfl⟩ := Int.eq_ofNat_of_zero_le (show 0 ≤ t by omega)
    by_cases h0 : x = 0
    · subst h0
      refine ⟨0, ?_⟩
      have := quo_x0 (y := y) (by omega) (by omega)
      rw [show ((0 : Nat) : Int) = 0 from rfl, this]
      exact ⟨by decide, by decide, by decide, by decide⟩
    · obtain ⟨S, hS, _⟩ := quo_near (x := x) (y := y) h0 (by omega) (by omega) (by omega)
      exact ⟨S, hS⟩
  obtain ⟨S, hS⟩ := key
  have h1 := hS.fin
  have hi : (INF : Int) = 9218868437227405312 := by decide
  unfold kk K
  split
  · omega
  · split <;> omega
theorem kk_nan {a : Nat} (h : isNan a = true) : kk a = -18446744073709551616 := by unfold kk; rw [if_pos h]
theorem bestG_neg {l : List Nat} (hn : l.length ≤ 400) (h : ¬ 0 ≤ bestG l) : ∀ k, k < l.length → kk (l.getD k 0) = -18446744073709551616 := by
  obtain ⟨D, h1, h2, h3⟩ := order_same hn
  have h4 := best_eq h1 h3
  have e : bestG l = bestOf l D := by unfold bestG; rw [h4]; rfl
  rw [e] at h
  unfold bestOf at h
  intro k hk
  rw [if_neg (by omega)] at h
  split at h
  · rename_i hnn
    obtain ⟨i, hi, hk2⟩ := ord_all h3 hk
    have h0 := kk_nan hnn
    have hmin : -18446744073709551616 ≤ kk (l.getD k 0) := by
      have := K_ge (l.getD k 0)
      unfold kk; split <;> omega
    rcases Nat.eq_zero_or_pos i with rfl | hi0
    · rw [hk2] at h0; simpa using h0
    · have := h3.srt 0 i (Nat.le_refl _) hi0 hi
      unfold R wk at this
      rw [hk2] at this
      simp only [Int.toNat_natCast] at this
      omega
  · exact absurd (h3.rng 0 (by rw [h3.len]; omega)).1 h
theorem best_top {s : S28} {k : Int} (hb : upAt s (bestS s) = true) (hk : bet k 0 3 = true) : kk ((ratesS s).getD k.toNat 0) ≤ kk ((ratesS s).getD (bestS s).toNat 0) := by
  have hk2 := bet_iff.1 hk
  by_cases h : 0 ≤ bestG (ratesS s)
  · have := (bestG_nn (by rw [rates_len]; decide) h).2 k.toNat (by rw [rates_len]; omega)
    unfold bestS
    rw [if_pos h]; exact this
  · have hall := bestG_neg (by rw [rates_len]; decide) h
    have h1 := hall k.toNat (by rw [rates_len]; omega)
    have h3 := bet_iff.1 (up_bet hb)
    have h2 := hall (bestS s).toNat (by rw [rates_len]; omega)
    rw [h1, h2]; exact Int.le_refl _
theorem cmp_not {a b : Nat} (h : kk a ≤ kk b) : ¬ 0 < cmpOf a b := by
  rw [cmpOf_kk]; (repeat' split) <;> omega
/-- Bytes that came in no time are the fastest. -/
theorem fast_best {s : S28} (h : Ok s) {u : Int} (hu : upAt s u = true) (ht : (lineAt s u).Ticks = 0) (ho : ∀ x, upAt s x = true → x ≠ u → (lineAt s x).Ticks ≠ 0) : bestS (noteS s u 1 0) = u := by
  have hub := up_bet hu
  have huu : (lineAt s u).Up = true := by unfold upAt at hu; rw [hub] at hu; exact hu
  have e : noteS s u 1 0 = setL s u (noted (lineAt s u) 1 0) := by
    unfold noteS; rw [if_pos ⟨hub, huu, by decide, by decide, h.ck⟩]
  have f1 := h.fit hub
  have f2 := h.few u hub
  have hn : (noted (lineAt s u) 1 0).Up = true ∧ 0 < (noted (lineAt s u) 1 0).Bytes ∧ (noted (lineAt s u) 1 0).Bytes < 1125899906842624 ∧ (noted (lineAt s u) 1 0).Ticks = 0 := by
    unfold noted
    split
    · rename_i hh
      exact ⟨huu, by show 0 < (_ : Int) / 2; omega, by show (_ : Int) / 2 < _; omega, by show ((lineAt s u).Ticks + 0) / 2 = 0; omega⟩
    · rename_i hh
      exact ⟨huu, by show 0 < (lineAt s u).Bytes + 1; omega, by show (lineAt s u).Bytes + 1 < _; omega, by show (lineAt s u).Ticks + 0 = 0; omega⟩
  rw [e]
  have hget : ∀ k, bet k 0 3 = true → (ratesS (setL s u (noted (lineAt s u) 1 0))).getD k.toNat 0 = if k = u then rate (noted (lineAt s u) 1 0).Bytes 0 else bif (lineAt s k).Up then rate (lineAt s k).Bytes (lineAt s k).Ticks else rate 0 0 := fun k hk => by
    rw [rates_get _ hk, line_set s _ hub hk]
    split
    · rw [hn.1, hn.2.2.2]; rfl
    · rfl
  have hlow : ∀ k, bet k 0 3 = true → k ≠ u → kk ((ratesS (setL s u (noted (lineAt s u) 1 0))).getD k.toNat 0) < INF := fun k hk hne => by
    rw [hget k hk, if_neg hne]
    cases hup : (lineAt s k).Up
    · rw [bif_ff, kk_nan rate00]; decide
    · rw [bif_tt]
      have g1 := h.fit hk
      have g2 := h.few k hk
      have g3 := ho k (by unfold upAt; rw [hk, hup]; rfl) hne
      exact rate_fin ⟨g1.1.1, g2.1⟩ ⟨by omega, g2.2⟩
  have hhigh : kk ((ratesS (setL s u (noted (lineAt s u) 1 0))).getD u.toNat 0) = INF := by
    rw [hget u hub, if_pos rfl]; exact rate_inf hn.2.1 hn.2.2.1
  have hbest : upAt (setL s u (noted (lineAt s u) 1 0)) (bestS (setL s u (noted (lineAt s u) 1 0))) = true := by
    rcases best_cases (setL s u (noted (lineAt s u) 1 0)) with hc | hc
    · have : u ∈ aliveS (setL s u (noted (lineAt s u) 1 0)) := mem_alive.2 (by unfold upAt; rw [hub, line_set s _ hub hub, if_pos rfl, hn.1]; rfl)
      rw [hc.2] at this; exact (List.not_mem_nil this).elim
    · exact hc
  have := best_top hbest hub
  rw [hhigh] at this
  by_cases hne : bestS (setL s u (noted (lineAt s u) 1 0)) = u
  · exact hne
  · have := hlow _ (up_bet hbest) hne; omega
structure InvB (s : S28) : Prop where
  ok : Ok s
  nb : s.Binds = []
  np : s.Pinned = -1
theorem gixT (s : S28) {k : Int} (h : bet k 0 3 = true) : gix ([s.Lines.c0.Ticks, s.Lines.c1.Ticks, s.Lines.c2.Ticks, s.Lines.c3.Ticks] : List Int) k = some (lineAt s k).Ticks := gixL T_paths_Line.Ticks s h
theorem best_L2 {s : S28} {u : Int} {t : List Int} {X Y : S28 × Int} (hl : s.Binds.length ≤ 1000) (h : Ok s) (ha : aliveS s = u :: t) (hX : X.2 = bestS s) (hY : Y.2 = bestS s) : ∀ (r p : List Int) (f : Nat), aliveS s = p ++ r → r.length < f → (∀ x ∈ p, x ≠ u → (lineAt s x).Ticks ≠ 0) →
    sennitlaw28_PathsBest_L2 s.Lines.c0.Ticks s.Lines.c1.Ticks s.Lines.c2.Ticks s.Lines.c3.Ticks (bestS s) (aliveS s) X Y (noteS s u 1 0) f (p.length : Int) = some true := by
  have hu : upAt s u = true := mem_alive.1 (by rw [ha]; simp)
  have hub := up_bet hu
  have h0 : gix (aliveS s) 0 = some u := by rw [ha]; rfl
  have hal := alive_len s
  intro r
  induction r with
  | nil =>
    intro p f hp hf hq
    obtain ⟨f, rfl⟩ : ∃ g, f = g + 1 := ⟨f - 1, by simp at hf; omega⟩
    unfold sennitlaw28_PathsBest_L2
    have ho := ok_note h u (b := 1) (t := 0) (by omega) (by omega)
    simp only [bndD, lt_end hp, bif_ff, hX, hY, decide_true, Bool.and_self, beq_self_eq_true, gdtt, h0, bnoS, chk_b hub, gixT s hub]
    by_cases ht : (lineAt s u).Ticks = 0
    · have hb := fast_best h hu ht (fun x hx hne => hq x (by rw [List.append_nil] at hp; rw [← hp]; exact mem_alive.2 hx) hne)
      simp only [ht, decide_true, Bool.not_true, beq_self_eq_true, Bool.and_self, gdtt, pbest_eq (show (noteS s u 1 0).Binds.length ≤ 1000 by rw [note_len]; exact hl), ho.ck, if_true, bnoS, hb, Bool.or_true, Bool.true_and, awake28]
    · simp only [decide_eq_false ht, Bool.not_false, tf, Bool.and_false, gdff, bnoS, Bool.true_or, Bool.true_and, beq_self_eq_true, gdtt, awake28]
  | cons x r ih =>
    intro p f hp hf hq
    obtain ⟨f, rfl⟩ : ∃ g, f = g + 1 := ⟨f - 1, by simp at hf; omega⟩
    have hx : upAt s x = true := mem_alive.1 (by rw [hp]; simp)
    have hxb := up_bet hx
    unfold sennitlaw28_PathsBest_L2
    simp only [bndD, lt_at hp, bif_tt, gix_at hp, bnoS, h0, w_at hp (show (aliveS s).length ≤ 1000000 by omega), hX, hY, decide_true, Bool.and_self, beq_self_eq_true, gdtt, awake28]
    by_cases hxu : x = u
    · subst hxu
      simp only [decide_true, Bool.not_true, ft, gdff, bnoS, Bool.false_and, bif_ff]
      rw [chk_t (fun h => by cases h)]
      exact ih (p ++ [x]) f (next_at hp) (by simpa using hf) (fun y hy hne => by
        rcases List.mem_append.1 hy with hy | hy
        · exact hq y hy hne
        · exact absurd (List.mem_singleton.1 hy) hne)
    · simp only [decide_eq_false hxu, Bool.not_false, beq_self_eq_true, gdtt, bnoS, chk_b hxb, gixT s hxb, Bool.true_and]
      by_cases ht : (lineAt s x).Ticks = 0
      · rw [decide_eq_true ht, bif_tt]
      · rw [decide_eq_false ht, bif_ff]
        exact ih (p ++ [x]) f (next_at hp) (by simpa using hf) (fun y hy hne => by
          rcases List.mem_append.1 hy with hy | hy
          · exact hq y hy hne
          · rw [List.mem_singleton.1 hy]; exact ht)
theorem gix_rates (s : S28) {k : Int} (h : bet k 0 3 = true) : gix (ratesS s) k = some ((ratesS s).getD k.toNat 0) := by
  have := bet_iff.1 h
  rw [gix_lit _ this.1, List.getD_eq_getElem?_getD, List.getElem?_eq_getElem (by rw [rates_len]; omega)]; rfl
theorem best_L1 {s : S28} {a1 : Int} (hs : 0 ≤ a1 ∧ a1 ≤ 255) (inv : InvB s) (hb : upAt s (bestS s) = true) : ∀ (r p : List Int) (f : Nat), aliveS s = p ++ r → r.length < f →
    sennitlaw28_PathsBest_L1 a1 s.Lines.c0.Up s.Lines.c0.Dead s.Lines.c0.Bytes s.Lines.c0.Ticks s.Lines.c1.Up s.Lines.c1.Dead s.Lines.c1.Bytes s.Lines.c1.Ticks s.Lines.c2.Up s.Lines.c2.Dead s.Lines.c2.Bytes s.Lines.c2.Ticks s.Lines.c3.Up s.Lines.c3.Dead s.Lines.c3.Bytes s.Lines.c3.Ticks s.Pinned s.Binds (bestS s) (aliveS s) (ratesS s) f (p.length : Int) = some true := by
  have hl : s.Binds.length ≤ 1000 := by rw [inv.nb]; decide
  have hal := alive_len s
  have hbm := mem_alive.2 hb
  have hbb := up_bet hb
  intro r
  induction r with
  | nil =>
    intro p f hp hf
    obtain ⟨f, rfl⟩ : ∃ g, f = g + 1 := ⟨f - 1, by simp at hf; omega⟩
    unfold sennitlaw28_PathsBest_L1
    obtain ⟨u, t, ha⟩ : ∃ u t, aliveS s = u :: t := by
      cases hq : aliveS s with
      | nil => rw [hq] at hbm; exact (List.not_mem_nil hbm).elim
      | cons u t => exact ⟨u, t, rfl⟩
    have h0 : gix (aliveS s) 0 = some u := by rw [ha]; rfl
    have hX : (chooseS s (1 + a1)).2 = bestS s := by
      unfold chooseS
      rw [if_pos ⟨bet_iff.2 (by omega), inv.ok.ck⟩, inv.nb]
      show (if bestS s = -1 ∨ 32 ≤ _ then (s, bestS s) else (_, bestS s)).2 = bestS s
      split <;> rfl
    have hY : (pinS s).2 = bestS s := by unfold pinS; rw [if_pos inv.ok.ck, if_pos inv.np]
    have L := best_L2 (X := chooseS s (1 + a1)) (Y := pinS s) hl inv.ok ha hX hY (aliveS s) [] fuel rfl (fuel_gt (by omega)) (fun x hx => (List.not_mem_nil hx).elim)
    simp only [bndD, lt_end hp, bif_ff, eta28, w64 (show -9223372036854775808 ≤ a1 by omega) (by omega), w64 (show -9223372036854775808 ≤ 1 + a1 by omega) (by omega), choose_eq _ hl, pinned_eq hl, bnoS, h0, note_eq _ _ _ hl]
    exact L
  | cons x r ih =>
    intro p f hp hf
    obtain ⟨f, rfl⟩ : ∃ g, f = g + 1 := ⟨f - 1, by simp at hf; omega⟩
    have hx : upAt s x = true := mem_alive.1 (by rw [hp]; simp)
    unfold sennitlaw28_PathsBest_L1
    simp only [bndD, lt_at hp, bif_tt, gix_at hp, bnoS, w_at hp (show (aliveS s).length ≤ 1000000 by omega), gix_rates s (up_bet hx), gix_rates s hbb, compare_eq, decide_eq_false (cmp_not (best_top hb (up_bet hx))), bif_ff]
    exact ih (p ++ [x]) f (next_at hp) (by simpa using hf)
theorem best_end {s : S28} {a1 : Int} (hs : 0 ≤ a1 ∧ a1 ≤ 255) (inv : InvB s) {l : List T_sennitlaw28_Act} {f : Nat} :
    (bno (paths_Best s) fun x93 => bno (paths_Alive s) fun x94 => bnd (decide ((x94.length : Int) = 0)) fun x95 => bif x95 then (bnd (decide (x93 = (-1))) fun x97 => bno (gd (x97 == true) (sennitlaw28_awake) default) fun x98 => bnd (x97 && x98) fun x99 => some x99)
      else (bno (paths_Rates s) fun x100 => bno (sennitlaw28_is x94 x93) fun x101 => bnd (!decide ((x100.length : Int) = 4)) fun x102 => bnd ((!x101) || x102) fun x103 => bif x103 then some false else
        sennitlaw28_PathsBest_L1 a1 s.Lines.c0.Up s.Lines.c0.Dead s.Lines.c0.Bytes s.Lines.c0.Ticks s.Lines.c1.Up s.Lines.c1.Dead s.Lines.c1.Bytes s.Lines.c1.Ticks s.Lines.c2.Up s.Lines.c2.Dead s.Lines.c2.Bytes s.Lines.c2.Ticks s.Lines.c3.Up s.Lines.c3.Dead s.Lines.c3.Bytes s.Lines.c3.Ticks s.Pinned s.Binds x93 x94 x100 fuel 0)) = some true := by
  have hl : s.Binds.length ≤ 1000 := by rw [inv.nb]; decide
  have hal := alive_len s
  rw [pbest_eq hl, if_pos inv.ok.ck, bnoS, alive_eq, bnoS]
  simp only [bndD]
  rcases best_cases s with ⟨h1, h2⟩ | h1
  · simp only [h1, h2, List.length_nil, show decide (((0 : Nat) : Int) = 0) = true from rfl, bif_tt, decide_true, beq_self_eq_true, gdtt, awake28, bnoS, Bool.and_self]
  · rw [up_nonempty h1, bif_ff, rates_eq, bnoS, is_alive, bnoS, h1, rates_len]
    have L := best_L1 hs inv h1 (aliveS s) [] fuel rfl (fuel_gt (by omega))
    exact L
theorem invB_same {s s' : S28} (h : InvB s) (ho : Ok s') (hb : s'.Binds = s.Binds) (hp : s'.Pinned = s.Pinned) : InvB s' := ⟨ho, hb.trans h.nb, hp.trans h.np⟩
theorem rise_pin (s : S28) (k : Int) : (riseS s k).1.Pinned = s.Pinned := by unfold riseS; split <;> rfl
theorem note_pin (s : S28) (k b t : Int) : (noteS s k b t).Pinned = s.Pinned := by unfold noteS; split <;> rfl
theorem invB_fall {s : S28} (h : InvB s) (k : Int) : InvB (fallS s k).1 := by
  refine ⟨ok_fall h.ok k, ?_, ?_⟩
  · unfold fallS; split
    · show s.Binds.filter _ = []; rw [h.nb]; rfl
    · exact h.nb
  · unfold fallS; split
    · show (if s.Pinned = k then (-1 : Int) else s.Pinned) = -1; rw [h.np]; split <;> rfl
    · exact h.np
abbrev BL (l : List T_sennitlaw28_Act) (a1 : Int) (f : Nat) (i : Int) (s : S28) : Option Bool := sennitlaw28_PathsBest_L0 l a1 f i s.Lines.c0.Up s.Lines.c0.Dead s.Lines.c0.Bytes s.Lines.c0.Ticks s.Lines.c1.Up s.Lines.c1.Dead s.Lines.c1.Bytes s.Lines.c1.Ticks s.Lines.c2.Up s.Lines.c2.Dead s.Lines.c2.Bytes s.Lines.c2.Ticks s.Lines.c3.Up s.Lines.c3.Dead s.Lines.c3.Bytes s.Lines.c3.Ticks s.Pinned s.Binds
theorem best_step {l p r : List T_sennitlaw28_Act} {a : T_sennitlaw28_Act} {s : S28} {a1 : Int} {f : Nat} (hl : l.length ≤ 100) (h : l = p ++ a :: r) (ha : act28 a) (inv : InvB s) : ∃ s', InvB s' ∧ BL l a1 (f + 1) (p.length : Int) s = BL l a1 f ((p ++ [a]).length : Int) s' := by
  obtain ⟨⟨k1, k2⟩, ⟨k3, k4⟩, ⟨k5, k6⟩, k7, k8⟩ := ha
  have hs : s.Binds.length ≤ 1000 := by rw [inv.nb]; decide
  have : a.Kind % 3 = 0 ∨ a.Kind % 3 = 1 ∨ a.Kind % 3 = 2 := by omega
  rcases this with c | c | c
  · refine ⟨(riseS s (a.N % 4)).1, invB_same inv (ok_rise inv.ok _) (rise_len s _) (rise_pin s _), ?_⟩
    unfold BL
    rw [sennitlaw28_PathsBest_L0]
    simp only [bndD, lt_at h, bif_tt, gix_at h, bnoS, w64 (show -9223372036854775808 ≤ a.N by omega) (by omega), rem_ok k1 (show (0 : Int) < 3 by decide), c, rem_ok k3 (show (0 : Int) < 4 by decide), eta28, rise_eq _ hs, w_at h (show l.length ≤ 1000000 by omega), decide_true]
  · refine ⟨(fallS s (a.N % 8)).1, invB_fall inv _, ?_⟩
    unfold BL
    rw [sennitlaw28_PathsBest_L0]
    simp only [bndD, lt_at h, bif_tt, gix_at h, bnoS, w64 (show -9223372036854775808 ≤ a.N by omega) (by omega), rem_ok k1 (show (0 : Int) < 3 by decide), c, rem_ok k3 (show (0 : Int) < 8 by decide), eta28, fall_eq _ hs, w_at h (show l.length ≤ 1000000 by omega), decide_true, show decide ((1 : Int) = 0) = false from rfl, bif_ff]
  · refine ⟨noteS s (a.Path % 4) a.N a.M, invB_same inv (ok_note inv.ok _ ⟨k3, k4⟩ ⟨k5, k6⟩) (note_len s _ _ _) (note_pin s _ _ _), ?_⟩
    unfold BL
    rw [sennitlaw28_PathsBest_L0]
    simp only [bndD, lt_at h, bif_tt, gix_at h, bnoS, w64 (show -9223372036854775808 ≤ a.N by omega) (by omega), w64 (show -9223372036854775808 ≤ a.M by omega) (by omega), rem_ok k1 (show (0 : Int) < 3 by decide), c, rem_ok k7 (show (0 : Int) < 4 by decide), w64 (show -9223372036854775808 ≤ a.Path % 4 by omega) (by omega), eta28, note_eq _ _ _ hs, w_at h (show l.length ≤ 1000000 by omega), show decide ((2 : Int) = 0) = false from rfl, show decide ((2 : Int) = 1) = false from rfl, bif_ff]
theorem best_loop {l : List T_sennitlaw28_Act} {a1 : Int} (hs : 0 ≤ a1 ∧ a1 ≤ 255) (hl : l.length ≤ 100) (hk : ∀ a ∈ l, act28 a) : ∀ (r p : List T_sennitlaw28_Act) (f : Nat) (s : S28), l = p ++ r → r.length < f → InvB s → BL l a1 f (p.length : Int) s = some true := by
  intro r
  induction r with
  | nil =>
    intro p f s h hf inv
    obtain ⟨f, rfl⟩ : ∃ g, f = g + 1 := ⟨f - 1, by simp at hf; omega⟩
    unfold BL
    rw [sennitlaw28_PathsBest_L0]
    simp only [lt_end h, bif_ff, eta28]
    rw [bndD, bif_ff]
    exact best_end (l := l) (f := f) hs inv
  | cons a r ih =>
    intro p f s h hf inv
    obtain ⟨f, rfl⟩ : ∃ g, f = g + 1 := ⟨f - 1, by simp at hf; omega⟩
    obtain ⟨s', hi, he⟩ := best_step (a1 := a1) (f := f) hl h (hk a (by rw [h]; simp)) inv
    rw [he]
    exact ih (p ++ [a]) f s' (next_at h) (by simpa using hf) hi
theorem pathsBest (l : List T_sennitlaw28_Act) (a1 : Int) (hk : ∀ a ∈ l, act28 a) (hs : 0 ≤ a1 ∧ a1 ≤ 255) : sennitlaw28_PathsBest l a1 = some true := by
  unfold sennitlaw28_PathsBest
  simp only [bndD]
  by_cases h : (80 : Int) < l.length
  · rw [decide_eq_true h, bif_tt, awake28, bnoS]
  · rw [decide_eq_false h, bif_ff]
    unfold paths_New
    rw [bnoS]
    have h0 := best_loop hs (by omega) hk l [] fuel new28 rfl (fuel_gt (by omega)) ⟨ok_new28, rfl, rfl⟩
    exact h0
end Go.Fn
open Go.RowKit Go.WideShapes Go.ChangeShapes
namespace Go.IL

/-! A law's arguments: how they read. -/
def Spotless (v : Value) : Prop := ∀ a n c, v = .slice (some a) n c → a.spot = none
theorem spot_cell {P : Program} {w : World} {r : Reach} {b : Nat} {t : TypeId} {v : Value} (h : Cell.okWide P w r b t v) : Spotless v := by
  intro a n c e
  subst e
  have h2 : Cell.ok P w r b t (.slice (some a) n c) := by
    unfold Cell.okWide at h
    split at h <;> first | exact h | (rename_i h3 _; cases h3) | (rename_i h3; cases h3) | skip
    all_goals first | exact h | simp_all
  unfold Cell.ok at h2
  split at h2 <;> simp_all [World.has]
theorem spot_val {P : Program} {w : World} {r : Reach} {b : Nat} {t : TypeId} {v : Value} (h : Value.okWide P w r b t v) : ∀ u ∈ v.cells.toList, Spotless u := by
  have agg : ∀ cs : Array Value, Row.okWide P w r b t cs → ∀ u ∈ cs.toList, Spotless u := by
    intro cs ⟨ts, _, _, h3⟩ u hu
    obtain ⟨i, hi⟩ := List.getElem?_of_mem hu
    obtain ⟨q, _, hq⟩ := h3 i u (by simpa using hi)
    exact spot_cell hq
  unfold Value.okWide at h
  split at h
  · obtain ⟨cs, rfl, _, h⟩ := h; simpa [Value.cells] using agg cs h
  · obtain ⟨cs, rfl, _, h⟩ := h; simpa [Value.cells] using agg cs h
  · have h2 := spot_cell h
    intro u hu
    cases v with
    | agg cs =>
      exfalso
      unfold Cell.okWide at h
      split at h <;> simp_all [Cell.ok]
    | _ => simp [Value.cells] at hu; subst hu; exact h2

def Env.none (w : World) : Env := ⟨w, fun _ _ => False⟩
/-- What the cells of a type read as. -/
def OpD (P : Program) (sp : Bool) (t : TypeId) (Q : List D → Prop) : Prop :=
  ∀ {H : Type} {enc : TypeId × Value → H} {w : World} {base : Nat} {spare : Nat → Bool} {held : Bool} {fuel : Nat} {cs : List Value} {x : DataW H × List MemPlace},
    DataW.trod enc P w base spare held fuel t cs = some x → (sp = true → ∀ v ∈ cs, Spotless v) → ∃ ds, RdL (Env.none w) β0 cs ds ∧ Q ds
def qInt (k : IntKind) (ds : List D) : Prop := ∃ n : Int, ds = [.int k n] ∧ (k.min ≤ n ∧ n ≤ k.max)
def qSlice {α : Type} (f : Enc α) (wf : α → Prop) (ds : List D) : Prop := ∃ l : List α, ds = [.slice false (l.map f.d)] ∧ l.length ≤ 9223372036854775807 ∧ ∀ x ∈ l, wf x
def qList : List (List D → Prop) → List D → Prop
  | [], ds => ds = []
  | Q :: Qs, ds => ∃ a b, ds = a ++ b ∧ Q a ∧ qList Qs b

section
variable {P : Program} {sp : Bool} {t : TypeId}
theorem opd_int {k : IntKind} (hu : P.underlying t = some (.int k)) : OpD P sp t (qInt k) := by
  intro H enc w base spare held fuel cs x h _
  obtain ⟨n, rfl, rfl, hw⟩ := DataW.trod_int hu h
  exact ⟨[.int k n], .cons (.int _ _ _) (.nil _), n, rfl, by simpa [Lit.wf] using hw⟩
theorem opd_slice {α : Type} {f : Enc α} {e : TypeId} {wf : α → Prop} (hu : P.underlying t = some (.slice e)) (hc : P.cellsOf e = f.sz) (he : OpD P false e (fun ds => ∃ a, ds = (f.d a).cells ∧ wf a)) : OpD P sp t (qSlice f wf) := by
  intro H enc w base spare held fuel cs x h hs
  rcases DataW.trod_slice hu h with ⟨rfl, _⟩ | ⟨a, len, cap, elems, rest, n, _, rfl, rfl, hb, hl, hm, hlen, hel, _, _⟩
  · exact ⟨[.slice false []], .cons (.nslice _ _) (.nil _), [], rfl, by simp, by simp⟩
  · by_cases hl0 : len = 0
    · subst hl0; exact ⟨[.slice false []], .cons (.eslice _ a cap) (.nil _), [], rfl, by simp, by simp⟩
    have hsp0 : a.spot = none := by
      have h1 := hel 0 (by omega)
      have h2 : elems[0]? = some (elems[0]'(by omega)) := List.getElem?_eq_getElem _
      rw [h2, Option.bind_eq_some_iff] at h1
      obtain ⟨vs, h3, _⟩ := h1
      have h7 := World.cells?_some h3
      have hp := f.pos
      have h8 := h7.2.2 0 (by rw [hc]; exact hp)
      rw [Nat.zero_mul] at h8
      have e0 : ((a.add 0).add 0) = a := rfl
      rw [e0] at h8
      cases hsp : a.spot with
      | none => rfl
      | some q =>
        exfalso
        unfold World.cell? at h8
        rw [hsp] at h8
        split at h8
        · simp at h8; have := h7.1; simp_all
        · have := h7.1; simp_all
    have ha : a = ⟨a.block, a.off, none⟩ := by cases a; simp_all
    have each : ∀ i, i < len → ∃ (vs : List Value) (y : α), (∀ k v, vs[k]? = some v → w.cell? ⟨a.block, a.off + (i * f.sz + k), none⟩ = some v) ∧ RdL (Env.none w) β0 vs (f.d y).cells ∧ wf y := by
      intro i hi
      have h1 := hel i hi
      have h2 : elems[i]? = some (elems[i]'(by omega)) := List.getElem?_eq_getElem _
      rw [h2, Option.bind_eq_some_iff] at h1
      obtain ⟨vs, h3, h4⟩ := h1
      obtain ⟨ds, h5, y, rfl, h6⟩ := he h4 (by simp)
      refine ⟨vs, y, fun k v hk => ?_, h5, h6⟩
      have h7 := World.cells?_some h3
      have hk' := (List.getElem?_eq_some_iff.1 hk).1
      have h8 := h7.2.2 k (by omega)
      rw [hk, ha, hc] at h8
      rw [← h8]
      congr 1
      by_cases h9 : i * f.sz = 0
      · by_cases h10 : k = 0
        · simp [Addr.add, h9, h10]
        · simp [Addr.add, h9, h10]
      · by_cases h10 : k = 0
        · simp [Addr.add, h9, h10]
        · simp [Addr.add, h9, h10, Nat.add_assoc]
    have all : ∀ m, m ≤ len → ∃ (vs : List Value) (l : List α), l.length = m ∧ (∀ k v, vs[k]? = some v → w.cell? ⟨a.block, a.off + k, none⟩ = some v) ∧ RdL (Env.none w) β0 vs (D.flat (l.map f.d)) ∧ ∀ y ∈ l, wf y := by
      intro m
      induction m with
      | zero => intro _; exact ⟨[], [], rfl, by simp, .nil _, by simp⟩
      | succ m ih =>
        intro hm'
        obtain ⟨vs, l, h1, h2, h3, h4⟩ := ih (by omega)
        obtain ⟨us, y, h5, h6, h7⟩ := each m (by omega)
        have hvl : vs.length = m * f.sz := by rw [h3.length, f.flat_len, h1]
        refine ⟨vs ++ us, l ++ [y], by simp [h1], fun k v hk => ?_, ?_, ?_⟩
        · by_cases hk' : k < vs.length
          · exact h2 k v (by rwa [List.getElem?_append_left hk'] at hk)
          · rw [List.getElem?_append_right (by omega)] at hk
            have := h5 _ _ hk
            rwa [hvl, show m * f.sz + (k - m * f.sz) = k by omega] at this
        · rw [List.map_append]
          have e2 : D.flat (l.map f.d ++ [y].map f.d) = D.flat (l.map f.d) ++ (f.d y).cells := by simp [D.flat]
          rw [e2]; exact h3.append h6
        · intro z hz
          rcases List.mem_append.1 hz with h | h
          · exact h4 z h
          · simp at h; subst h; exact h7
    obtain ⟨vs, l, h1, h2, h3, h4⟩ := all len (Nat.le_refl _)
    refine ⟨[.slice false (l.map f.d)], .cons ?_ (.nil _), l, rfl, by unfold maxLen at hm; omega, h4⟩
    rw [ha]
    exact .slice _ _ _ len cap f.sz false vs _ (by rw [List.length_map, h1]) hl (by simp) (f.len l) f.pos (fun k v hk => ⟨h2 k v hk, fun h => h⟩) h3

/-- The fields of a struct, one behind the other. -/
def fieldsAt (P : Program) : Nat → List Field → Bool
  | _, [] => true
  | k, f :: fs => f.offset == k && fieldsAt P (k + P.cellsOf f.type) fs
inductive OpFs (P : Program) (sp : Bool) : List Field → List (List D → Prop) → Prop
  | nil : OpFs P sp [] []
  | cons {f fs Q Qs} (h : OpD P sp f.type Q) (t : OpFs P sp fs Qs) : OpFs P sp (f :: fs) (Q :: Qs)
theorem opd_struct {fs : Array Field} {Qs : List (List D → Prop)} (hu : P.underlying t = some (.struct fs)) (hf : fieldsAt P 0 fs.toList = true) (hn : P.cellsOf t = (fs.toList.map fun f => P.cellsOf f.type).sum) (h : OpFs P sp fs.toList Qs) : OpD P sp t (qList Qs) := by
  intro H enc w base spare held fuel cs x hx hs
  obtain ⟨xs, n, _, _, hlen, hxl, hfld⟩ := DataW.trod_struct hu hx
  have key : ∀ (l : List Field) (Qs : List (List D → Prop)) (k : Nat), OpFs P sp l Qs → fieldsAt P k l = true → k + (l.map fun f => P.cellsOf f.type).sum = cs.length →
      (∀ f ∈ l, ∃ y, DataW.trod enc P w base spare held n f.type ((cs.drop f.offset).take (P.cellsOf f.type)) = some y) → ∃ ds, RdL (Env.none w) β0 (cs.drop k) ds ∧ qList Qs ds := by
    intro l Qs k ho
    induction ho generalizing k with
    | nil =>
      intro _ h1 _
      refine ⟨[], ?_, rfl⟩
      rw [List.drop_of_length_le (by simp at h1; omega)]; exact .nil _
    | @cons f fs Q Qs h t ih =>
      intro h1 h2 h3
      simp only [fieldsAt, Bool.and_eq_true, beq_iff_eq] at h1
      simp only [List.map_cons, List.sum_cons] at h2
      obtain ⟨y, hy⟩ := h3 f (by simp)
      rw [h1.1] at hy
      obtain ⟨ds, h4, h5⟩ := h hy (fun hsp v hv => hs hsp v (List.mem_of_mem_drop (List.mem_of_mem_take hv)))
      obtain ⟨es, h6, h7⟩ := ih (k + P.cellsOf f.type) h1.2 (by omega) (fun g hg => h3 g (by simp [hg]))
      refine ⟨ds ++ es, ?_, ds, es, rfl, h5, h7⟩
      have := h4.append h6
      rwa [← List.drop_drop, List.take_append_drop] at this
  have := key fs.toList Qs 0 h hf (by rw [Nat.zero_add, ← hn, hlen]) (fun f hf => by
    obtain ⟨i, hi⟩ := List.getElem?_of_mem hf
    have h1 := hfld i f (by simpa using hi)
    have h2 : i < xs.length := by rw [hxl]; have := (List.getElem?_eq_some_iff.1 hi).1; simpa using this
    exact ⟨xs[i], by rw [h1, List.getElem?_eq_getElem h2]⟩)
  rwa [List.drop_zero] at this
theorem OpD.to {Q R : List D → Prop} (h : OpD P sp t Q) (k : ∀ ds, Q ds → R ds) : OpD P sp t R := by
  intro H enc w base spare held fuel cs x hx hs
  obtain ⟨ds, h1, h2⟩ := h hx hs
  exact ⟨ds, h1, k ds h2⟩
/-- An argument. -/
theorem opd_val {Q : List D → Prop} (h : OpD P true t Q) {H : Type} {enc : TypeId × Value → H} {w : World} {base b0 : Nat} {spare : Nat → Bool} {held : Bool} {v : Value} {d : DataW H} {ps : List MemPlace} {r : Reach}
    (hv : Value.okWide P w r b0 t v) (hd : DataW.Trod enc P w base spare held t v d ps) : ∃ ds, RdL (Env.none w) β0 v.cells.toList ds ∧ Q ds := by
  obtain ⟨fuel, hf⟩ := hd
  exact h hf (fun _ => spot_val hv)
theorem rd_scalar {E : Env} {v : Value} {d : D} (h : RdL E β0 v.cells.toList [d]) (hn : ∀ cs, v ≠ .agg cs) : Rd E β0 v d := by
  cases v with
  | agg cs => exact absurd rfl (hn cs)
  | _ => simp [Value.cells] at h; cases h with | cons h _ => exact h
section
variable {H : Type} {enc : TypeId × Value → H}
theorem trodAll_below (hl : laidOutB P = true) {W W' : World} (hb : Below W.heap.size W W') {sp : Nat → Bool} : ∀ {ts : List TypeId} {vs : List Value} {ds : List (DataW H)} {ps : List MemPlace},
    (∀ t ∈ ts, P.readableRec t = true ∧ t < P.types.size) → DataW.TrodAll enc P W 0 (fun _ => true) true ts vs ds ps → (∀ x ∈ ps, x.block < W.heap.size) → (∀ x ∈ ps, sp x.block = true) →
    DataW.TrodAll enc P W' 0 sp true ts vs ds ps
  | [], vs, ds, ps, _, h, _, _ => by
    obtain ⟨rfl, rfl, rfl⟩ := trodAll_nil h; exact rfl
  | t :: ts, vs, ds, ps, hr, h, hlt, hsp => by
    obtain ⟨v, vs', d, ds', p, q, rfl, rfl, rfl, h1, h2⟩ := trodAll_cons h
    refine ⟨p, q, ?_, trodAll_below hl hb (fun t ht => hr t (by simp [ht])) h2 (fun x hx => hlt x (by simp [hx])) (fun x hx => hsp x (by simp [hx])), rfl⟩
    have hx : ∀ x ∈ p, x ∈ p ++ q := fun x hx => by simp [hx]
    exact WideElems.Trod_stays hl (hr t (by simp)).1 (hr t (by simp)).2 h1 (fun x hxp => hb.same (hlt x (hx x hxp))) (fun x hxp => hsp x (hx x hxp))
theorem post_of_below {f : Func} {s : ChangeSpec} {apart fresh handsOn again : Bool} {W W' : World} {args : Array Value} {v : Value} {ds gs : List (DataW H)} {before pa pv : List MemPlace}
    (hW : DataW.Whole enc P f.params.toList s.vars apart W args.toList ds gs before)
    (hres : ∀ (b : Nat) (sp : Nat → Bool) (hd : Bool), DataW.TrodAll enc P W' b sp hd f.resultTypes.toList (v.resultList f.resultTypes.size) (s.fn H (ds ++ gs)).results [])
    (hargs : ∀ sp : Nat → Bool, (∀ p ∈ before, sp p.block = true) → DataW.TrodAll enc P W' 0 sp true f.params.toList args.toList (s.fn H (ds ++ gs)).args pa)
    (hvars : ∀ sp : Nat → Bool, (∀ p ∈ before, sp p.block = true) → DataW.TrodVars enc P W' sp s.vars (s.fn H (ds ++ gs)).vars pv)
    (hps : before = pa ++ pv) (hb : Below W.heap.size W W')
    (hok : ∀ (j : Nat) (t : TypeId) (r : Value), f.resultTypes[j]? = some t → (v.resultList f.resultTypes.size)[j]? = some r → Value.okWide P W' .any 0 t r) :
    s.post enc P f apart fresh handsOn again W args v W' := by
  have hlt : ∀ p ∈ before, p.block < W.heap.size := fun p hp => hW.lt p hp
  have hold : ∀ p ∈ before, (fun b => decide (b < W.heap.size)) p.block = true := fun p hp => by simpa using hlt p hp
  refine ⟨ds, gs, before, [], pa, pv, hW, hres _ _ _, hargs _ hold, hvars _ hold, World.keptBut_mono (fun p hp => ⟨hp, ?_⟩) (hb.frame (· ∈ before)), fun _ => ?_⟩
  · rw [hps, List.mem_append] at hp
    exact Or.inr hp
  · obtain ⟨_, _, _, _, _, hz, hn⟩ := hW
    refine ⟨hok, _, _, ([] ++ pa) ++ pv, ⟨[] ++ pa, pv, trodAll_append (hargs _ (fun _ _ => rfl)) (hres _ _ _), hvars _ (fun _ _ => rfl), rfl, ?_, ?_⟩, ?_⟩
    · intro b off hp
      have hin : MemPlace.cell b off ∈ before := by rw [hps]; simpa using hp
      rw [hb.frozen (hlt _ hin)]
      exact hz b off hin
    · intro ha
      have := hn ha
      rw [hps] at this
      simpa using this
    · intro p hp _
      rw [hps]
      simpa using hp
theorem law_post {f : Func} {s : ChangeSpec} {apart fresh handsOn again : Bool} {W W' : World} {args : Array Value} {ds gs : List (DataW H)} {before : List MemPlace} {tb : TypeId}
    (hl : laidOutB P = true) (hr : ∀ t ∈ f.params.toList, P.readableRec t = true ∧ t < P.types.size) (hv : s.vars = []) (hres : f.resultTypes = #[tb]) (hbool : P.underlying tb = some .bool)
    (hfn : s.fn H (ds ++ gs) = { results := [.lit (.bool true)], args := ds })
    (hW : DataW.Whole enc P f.params.toList s.vars apart W args.toList ds gs before) (hb : Below W.heap.size W W') : s.post enc P f apart fresh handsOn again W args (.bool true) W' := by
  have hW' := hW
  obtain ⟨p, q, hA, hV, hbef, hfz, hnd⟩ := hW
  rw [hv] at hV
  obtain ⟨rfl, rfl⟩ := trodVars_none hV
  have hlt : ∀ x ∈ before, x.block < W.heap.size := fun x hx => hW'.lt x hx
  have hsub : ∀ x ∈ p, x ∈ before := fun x hx => by rw [hbef]; simp [hx]
  refine post_of_below (pa := p) (pv := []) hW' ?_ ?_ ?_ ?_ hb ?_
  · intro b sp hd
    rw [hfn, hres]
    exact trodAll_mk1 (shut_bool hbool true)
  · intro sp hsp
    rw [hfn]
    exact trodAll_below hl hb hr hA (fun x hx => hlt x (hsub x hx)) (fun x hx => hsp x (hsub x hx))
  · intro sp hsp
    rw [hfn, hv]; exact rfl
  · exact hbef
  · exact ok_one hres rfl (okWide_bool_mk hbool true)
end
end
end Go.IL
namespace Go.IL
theorem rd_arg_one {P : Program} {w W : World} {r : Reach} {b : Nat} {t : TypeId} {v : Value} {d : D} (hv : Value.okWide P W r b t v) (hg : aggOf P t = false) (h : RdL (Env.none w) β0 v.cells.toList [d]) : Rd (Env.none w) β0 v d := by
  refine rd_scalar h fun cs e => ?_
  subst e
  unfold aggOf at hg
  unfold Value.okWide at hv
  split at hv
  · rename_i h1; rw [h1] at hg; cases hg
  · rename_i h1; rw [h1] at hg; cases hg
  · unfold Cell.okWide at hv
    split at hv <;> simp_all [Cell.ok]
end Go.IL
open Go.RowKit Go.WideShapes Go.ChangeShapes
namespace Go.IL
end Go.IL
