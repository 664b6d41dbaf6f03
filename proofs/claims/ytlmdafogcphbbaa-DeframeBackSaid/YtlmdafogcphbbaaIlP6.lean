/-
  A part of the proof: rules and plain facts. No condition.
-/
import Derived.Test.YtlmdafogcphbbaaIlP5
set_option linter.all false
set_option linter.unusedSimpArgs false
set_option linter.unusedVariables false
open Go Go.IL
namespace Go.Fn

/-! Get: what both texts make of some bytes. -/
def zF : T_frame_Frame := ⟨0, false, 0, 0, 0, 0, 0, 0, [], []⟩
def setv (g : T_frame_Frame) (o : Nat) (v : Int) : T_frame_Frame :=
  ⟨g.Kind, g.Flag, bif Nat.beq o 2 then v else g.Stream, bif Nat.beq o 3 then v else g.Offset, bif Nat.beq o 4 then v else g.Dep, bif Nat.beq o 5 then v else g.Weight, bif Nat.beq o 6 then v else g.N, bif Nat.beq o 7 then v else g.Code, g.Pairs, g.Data⟩
def rd : List Nat → List UInt8 → T_frame_Frame → Option (List UInt8 × T_frame_Frame)
  | [], s, g => some (s, g)
  | o :: os, s, g => if (vget s).2.2 = 0 then rd os (s.drop (vget s).2.1.toNat) (setv g o (vget s).1) else none
def pairUp : List Int → List T_api_Pair
  | a :: b :: l => ⟨a, b⟩ :: pairUp l
  | _ => []
def setS (s : List UInt8) : Option (List T_api_Pair) := if (vall s).2 = 0 ∧ (vall s).1.length % 2 = 0 then some (pairUp (vall s).1) else none
def body (s : List UInt8) (g : T_frame_Frame) : Option T_frame_Frame :=
  if g.Kind = 0 then some ⟨g.Kind, g.Flag, g.Stream, g.Offset, g.Dep, g.Weight, g.N, g.Code, g.Pairs, s⟩
  else if g.Kind = 4 then (setS s).map fun p => ⟨g.Kind, g.Flag, g.Stream, g.Offset, g.Dep, g.Weight, g.N, g.Code, p, g.Data⟩
  else if s = [] then some g else none
def readF (s : List UInt8) (g : T_frame_Frame) : Option T_frame_Frame := (rd (offsK g.Kind) s g).bind fun q => body q.1 q.2
def getF : List UInt8 → T_frame_Frame × Int × Int
  | [] => (zF, 0, 3)
  | k :: r => if knownK k.toNat = false then (zF, 0, 12) else match r with
    | [] => (zF, 0, 3)
    | b :: t => if 1 < b.toNat then (zF, 0, 4) else if (vget t).2.2 ≠ 0 then (zF, 0, (vget t).2.2) else if 64 < (vget t).1 then (zF, 0, 5)
      else if (t.length : Int) - (vget t).2.1 < (vget t).1 then (zF, 0, 3)
      else match readF ((t.drop (vget t).2.1.toNat).take (vget t).1.toNat) ⟨k.toNat, decide ((b.toNat : Int) = 1), 0, 0, 0, 0, 0, 0, [], []⟩ with
        | none => (zF, 0, 4)
        | some g => if chkF g = 0 then (g, 2 + (vget t).2.1 + (vget t).1, 0) else (zF, 0, chkF g)

theorem vget_nonneg {s : List UInt8} : 0 ≤ (vget s).1 ∧ (vget s).1 ≤ 4611686018427387903 := by
  cases s with
  | nil => exact ⟨by decide, by decide⟩
  | cons b r =>
    by_cases h1 : (b :: r).length < 2 ^ (b.toNat / 64)
    · rw [vget_short h1]; exact ⟨by decide, by decide⟩
    · by_cases h2 : vkind (beN (b.toNat % 64) (r.take (2 ^ (b.toNat / 64) - 1))) = ((b.toNat / 64 : Nat) : Int)
      · rw [vget_ok h1 h2]
        have h3 : ¬ vbad (beN (b.toNat % 64) (r.take (2 ^ (b.toNat / 64) - 1))) := by rw [← vkind_neg, h2]; omega
        unfold vbad at h3; exact ⟨by simp only; omega, by simp only; omega⟩
      · rw [vget_form h1 h2]; exact ⟨by decide, by decide⟩
theorem vallF_len : ∀ (f : Nat) (s : List UInt8) (acc : List Int), s.length ≤ f → (vallF f s acc).1.length ≤ acc.length + s.length
  | 0, s, acc, _ => by simp [vallF]
  | f + 1, s, acc, h => by
    unfold vallF
    split
    · simp
    · split
      · rename_i h1 h2
        have h3 := vget_size h2
        have := vallF_len f (s.drop (vget s).2.1.toNat) (acc ++ [(vget s).1]) (by rw [List.length_drop]; omega)
        rw [List.length_append, List.length_drop] at this
        simp only [List.length_cons, List.length_nil] at this
        omega
      · simp
theorem all_loop : ∀ (k f : Nat) (s : List UInt8) (acc : List Int), s.length < k → s.length ≤ f → acc.length + s.length ≤ 1000000 → varint_All_L0 k s acc = some (vallF f s acc) := by
  intro k
  induction k with
  | zero => intro f s acc h; omega
  | succ k ih =>
    intro f s acc hk hf hl
    unfold varint_All_L0
    simp only [bnd_d]
    by_cases hs : s = []
    · subst hs; rw [vallF_nil]; rfl
    · rw [decide_eq_false hs, Bool.not_false, cond_true, get_is, bno_s]
      by_cases h : (vget s).2.2 = 0
      · have h3 := vget_size h
        obtain ⟨f', hf', he⟩ := vallF_step (acc := acc) hs hf h
        rw [decide_eq_true h, Bool.not_true, cond_false, app_ok (by simp; omega) (by simp; omega), bno_s, cut_to (by omega) (by omega), bno_s, he]
        exact ih f' _ _ (by rw [List.length_drop]; omega) hf' (by rw [List.length_append, List.length_drop]; simp; omega)
      · rw [decide_eq_false h, Bool.not_false, cond_true, vallF_bad hs hf h]
theorem all_is {s : List UInt8} (h : s.length ≤ 1000000) : varint_All s = some (vall s) := by
  unfold varint_All vall
  exact all_loop fuel _ s [] (fuel_gt (by omega)) (Nat.le_refl _) (by simpa using h)
theorem rall_loop {a : List UInt8} (ha : a.length ≤ 1000000) : ∀ (k f i : Nat) (acc : List Int), a.length - i < k → i ≤ a.length → a.length - i ≤ f → acc.length + (a.length - i) ≤ 1000000 → sennitref02_All_L0 a k acc (i : Int) = some (vallF f (a.drop i) acc) := by
  intro k
  induction k with
  | zero => intro f i acc h; omega
  | succ k ih =>
    intro f i acc hk hi hf hl
    unfold sennitref02_All_L0
    simp only [bnd_d]
    by_cases hs : i < a.length
    · have hne : a.drop i ≠ [] := by
        intro e; have := congrArg List.length e; rw [List.length_drop] at this; simp at this; omega
      rw [decide_eq_true (by omega), cond_true, cut_to (by omega) (by omega), bno_s, Int.toNat_natCast, rget_is, bno_s]
      by_cases h : (vget (a.drop i)).2.2 = 0
      · have h3 := vget_size h
        have h4 : (a.drop i).length = a.length - i := List.length_drop
        obtain ⟨f', hf', he⟩ := vallF_step (acc := acc) hne (by rw [h4]; exact hf) h
        rw [List.length_drop] at hf'
        rw [decide_eq_true h, Bool.not_true, cond_false, app_ok (by simp; omega) (by simp; omega), bno_s, w64 (by omega) (by omega), he, List.drop_drop]
        have e : ((i : Int) + (vget (a.drop i)).2.1) = ((i + (vget (a.drop i)).2.1.toNat : Nat) : Int) := by omega
        rw [e]
        exact ih f' _ _ (by omega) (by omega) (by omega) (by rw [List.length_append]; simp; omega)
      · rw [decide_eq_false h, Bool.not_false, cond_true, vallF_bad hne (by rw [List.length_drop]; exact hf) h]
    · have : i = a.length := by omega
      subst this
      rw [decide_eq_false (by omega), cond_false, List.drop_length, vallF_nil]
theorem rall_is {s : List UInt8} (h : s.length ≤ 1000000) : sennitref02_All s = some (vall s) := by
  unfold sennitref02_All vall
  have := rall_loop h fuel s.length 0 [] (fuel_gt (by omega)) (Nat.zero_le _) (by omega) (by simpa using h)
  simpa using this
theorem vall_len (s : List UInt8) : (vall s).1.length ≤ s.length := by
  have := vallF_len s.length s [] (Nat.le_refl _)
  simpa [vall] using this

theorem settings_loop : ∀ (k : Nat) (l : List Int) (acc : List T_api_Pair), l.length < k → l.length % 2 = 0 → acc.length + l.length ≤ 1000000 → frame_settings_L0 k l acc = some (acc ++ pairUp l, true) := by
  intro k
  induction k with
  | zero => intro l acc h; omega
  | succ k ih =>
    intro l acc hk h2 hl
    unfold frame_settings_L0
    simp only [bnd_d]
    match l, hk, h2, hl with
    | [], _, _, _ => simp [pairUp]
    | [a], _, h2, _ => simp at h2
    | a :: b :: l, hk, h2, hl =>
      simp only [List.length_cons] at hk h2 hl
      rw [decide_eq_true (by simp; omega), cond_true, gix_get (by decide) (by simp), bno_s, gix_get (by decide) (by simp), bno_s, app_ok (by simp; omega) (by simp; omega), bno_s, cut_to (by decide) (by simp; omega), bno_s]
      have := ih l (acc ++ [⟨a, b⟩]) (by omega) (by omega) (by simp; omega)
      rw [List.append_assoc] at this
      exact this
theorem settings_is {s : List UInt8} (h : s.length ≤ 1000000) : ∃ x, frame_settings s = some (x, (setS s).isSome) ∧ ∀ p, setS s = some p → x = p := by
  unfold frame_settings setS
  rw [all_is h, bno_s]
  simp only [bnd_d]
  have hl := vall_len s
  by_cases h0 : (vall s).2 = 0
  · rw [decide_eq_true h0, show ((!true) == false) = true from rfl, gd_tt, rem_ok (by omega) (by decide), bno_s]
    by_cases h2 : (vall s).1.length % 2 = 0
    · rw [decide_eq_false (by omega), if_pos ⟨h0, h2⟩]
      simp only [Bool.not_true, Bool.or_false, cond_false]
      rw [settings_loop fuel _ [] (fuel_gt (by omega)) h2 (by simp; omega)]
      exact ⟨_, rfl, fun p hp => by simpa using hp⟩
    · rw [decide_eq_true (by omega), if_neg (fun h => h2 h.2)]
      exact ⟨_, rfl, fun p hp => by cases hp⟩
  · rw [decide_eq_false h0, if_neg (fun h => h0 h.1)]
    exact ⟨_, rfl, fun p hp => by cases hp⟩

theorem body_frame {f : T_frame_Frame} {s : List UInt8} (h : s.length ≤ 1000000) : ∃ x, (bnd (decide (f.Kind = 0)) fun x40 =>
      bif x40 then (
        some (true, (⟨f.Kind, f.Flag, f.Stream, f.Offset, f.Dep, f.Weight, f.N, f.Code, f.Pairs, s⟩ : T_frame_Frame))
      ) else (
        bnd (decide (f.Kind = 4)) fun x42 =>
        bif x42 then (
          bno (frame_settings s) fun x44 =>
          some (x44.2, (⟨f.Kind, f.Flag, f.Stream, f.Offset, f.Dep, f.Weight, f.N, f.Code, x44.1, f.Data⟩ : T_frame_Frame))
        ) else (
          bnd (decide (s = ([] : List UInt8))) fun x45 =>
          some (x45, (⟨f.Kind, f.Flag, f.Stream, f.Offset, f.Dep, f.Weight, f.N, f.Code, f.Pairs, f.Data⟩ : T_frame_Frame))
        )
      )) = some ((body s f).isSome, x) ∧ ∀ y, body s f = some y → x = y := by
  unfold body
  simp only [bnd_d]
  by_cases h0 : f.Kind = 0
  · rw [decide_eq_true h0, if_pos h0]; exact ⟨_, rfl, fun y hy => by simpa using hy⟩
  · rw [decide_eq_false h0, if_neg h0, cond_false]
    by_cases h4 : f.Kind = 4
    · rw [decide_eq_true h4, if_pos h4, cond_true]
      obtain ⟨x, hx, hp⟩ := settings_is h
      rw [hx, bno_s]
      cases hs : setS s with
      | none => exact ⟨_, rfl, fun y hy => by cases hy⟩
      | some p => rw [hp p hs]; exact ⟨_, rfl, fun y hy => by simpa using hy⟩
    · rw [decide_eq_false h4, if_neg h4, cond_false]
      by_cases hs : s = []
      · rw [decide_eq_true hs, if_pos hs]; exact ⟨_, rfl, fun y hy => by simpa using hy⟩
      · rw [decide_eq_false hs, if_neg hs]; exact ⟨f, rfl, fun y hy => by cases hy⟩
theorem read_loop {g : T_frame_Frame} {l : List Nat} (hr : ∀ o ∈ l, 2 ≤ o ∧ o ≤ 7) (hll : l.length ≤ 3) : ∀ (k i : Nat) (s : List UInt8) (a b c d e f : Int), l.length - i < k → i ≤ l.length → s.length ≤ 1000000 →
    ∃ x, frame_Frame_read_h_L0 g l k s (i : Int) a b c d e f = some (((rd (l.drop i) s ⟨g.Kind, g.Flag, a, b, c, d, e, f, g.Pairs, g.Data⟩).bind fun q => body q.1 q.2).isSome, x) ∧ ∀ y, ((rd (l.drop i) s ⟨g.Kind, g.Flag, a, b, c, d, e, f, g.Pairs, g.Data⟩).bind fun q => body q.1 q.2) = some y → x = y := by
  intro k
  induction k with
  | zero => intro i s a b c d e f h; omega
  | succ k ih =>
    intro i s a b c d e f hk hi hs
    unfold frame_Frame_read_h_L0
    by_cases hc : i < l.length
    · have hx := hr _ (List.getElem_mem hc)
      rw [List.drop_eq_getElem_cons hc]
      unfold rd
      simp only [bnd_d]
      rw [decide_eq_true (by omega), cond_true, gix_nat, Int.toNat_natCast, List.getElem?_eq_getElem hc, bno_s, bno_s, get_is, bno_s]
      by_cases h : (vget s).2.2 = 0
      · have h3 := vget_size h
        have hic := icell_nv ⟨g.Kind, g.Flag, a, b, c, d, e, f, g.Pairs, g.Data⟩ hx.1 hx.2
        simp only at hic
        rw [decide_eq_true h, Bool.not_true, cond_false, hic, bno_s, cut_to (by omega) (by omega), bno_s, step64 hc (by omega), if_pos h]
        exact ih (i + 1) _ _ _ _ _ _ _ (by omega) (by omega) (by rw [List.length_drop]; omega)
      · rw [decide_eq_false h, Bool.not_false, cond_true, if_neg h]
        exact ⟨_, rfl, fun y hy => by cases hy⟩
    · have : i = l.length := by omega
      subst this
      rw [List.drop_length]
      unfold rd
      simp only [bnd_d, Option.bind_some]
      rw [decide_eq_false (by omega), cond_false]
      exact body_frame (f := ⟨g.Kind, g.Flag, a, b, c, d, e, f, g.Pairs, g.Data⟩) hs
theorem read_is {s : List UInt8} {g : T_frame_Frame} (h : s.length ≤ 1000000) : ∃ x, frame_Frame_read_h s g = some ((readF s g).isSome, x) ∧ ∀ y, readF s g = some y → x = y := by
  unfold frame_Frame_read_h readF
  rw [numbers_is, bno_s]
  have hb := offs_bounds g.Kind
  exact read_loop hb.2 hb.1 fuel 0 s _ _ _ _ _ _ (fuel_gt (by omega)) (Nat.zero_le _) h
theorem rd_kept : ∀ (os : List Nat) (s t : List UInt8) (g y : T_frame_Frame), rd os s g = some (t, y) → t.length ≤ s.length ∧ y.Pairs = g.Pairs ∧ y.Data = g.Data ∧ y.Kind = g.Kind ∧ y.Flag = g.Flag
  | [], s, t, g, y, h => by simp only [rd, Option.some.injEq, Prod.mk.injEq] at h; obtain ⟨rfl, rfl⟩ := h; exact ⟨Nat.le_refl _, rfl, rfl, rfl, rfl⟩
  | o :: os, s, t, g, y, h => by
    unfold rd at h
    split at h
    · have := rd_kept os _ t _ y h
      rw [List.length_drop] at this
      exact ⟨by omega, this.2⟩
    · cases h
theorem pairUp_len : ∀ (l : List Int), (pairUp l).length ≤ l.length
  | [] => by simp [pairUp]
  | [a] => by simp [pairUp]
  | a :: b :: l => by have := pairUp_len l; simp [pairUp]; omega
theorem readF_len {s : List UInt8} {g y : T_frame_Frame} (h : readF s g = some y) : y.Pairs.length ≤ g.Pairs.length + s.length ∧ y.Data.length ≤ g.Data.length + s.length ∧ y.Kind = g.Kind ∧ y.Flag = g.Flag := by
  unfold readF at h
  cases hr : rd (offsK g.Kind) s g with
  | none => rw [hr] at h; cases h
  | some q =>
    obtain ⟨t, z⟩ := q
    rw [hr] at h
    obtain ⟨h1, h2, h3, h4, h5⟩ := rd_kept _ _ _ _ _ hr
    simp only [Option.bind_some] at h
    unfold body at h
    split at h
    · simp only [Option.some.injEq] at h; subst h; simp only; rw [h2]; exact ⟨by omega, by omega, h4, h5⟩
    · split at h
      · cases hs : setS t with
        | none => rw [hs] at h; cases h
        | some p =>
          rw [hs] at h; simp only [Option.map_some, Option.some.injEq] at h; subst h
          unfold setS at hs
          split at hs
          · simp only [Option.some.injEq] at hs; subst hs
            have := pairUp_len (vall t).1
            have := vall_len t
            simp only; rw [h3]; exact ⟨by omega, by omega, h4, h5⟩
          · cases hs
      · split at h
        · simp only [Option.some.injEq] at h; subst h; rw [h2, h3]; exact ⟨by omega, by omega, h4, h5⟩
        · cases h
theorem getF_bad {k : UInt8} {r : List UInt8} (h : knownK k.toNat = false) : getF (k :: r) = (zF, 0, 12) := by
  unfold getF; simp only; rw [if_pos h]
theorem getF_one {k : UInt8} (h : knownK k.toNat = true) : getF [k] = (zF, 0, 3) := by
  unfold getF; simp only; rw [if_neg (by rw [h]; decide)]
theorem getF_two {k b : UInt8} {t : List UInt8} (h : knownK k.toNat = true) : getF (k :: b :: t) = if 1 < b.toNat then (zF, 0, 4) else if (vget t).2.2 ≠ 0 then (zF, 0, (vget t).2.2) else if 64 < (vget t).1 then (zF, 0, 5)
      else if (t.length : Int) - (vget t).2.1 < (vget t).1 then (zF, 0, 3)
      else match readF ((t.drop (vget t).2.1.toNat).take (vget t).1.toNat) ⟨k.toNat, decide ((b.toNat : Int) = 1), 0, 0, 0, 0, 0, 0, [], []⟩ with
        | none => (zF, 0, 4)
        | some g => if chkF g = 0 then (g, 2 + (vget t).2.1 + (vget t).1, 0) else (zF, 0, chkF g) := by
  rw [getF]; rw [if_neg (by rw [h]; decide)]
theorem get_F {s : List UInt8} (hs : s.length ≤ 1000000) : frame_Get s = some (getF s) := by
  unfold frame_Get frame_head
  match s, hs with
  | [], _ => rfl
  | k :: r, hs =>
    simp only [bnd_d, gix_get (l := k :: r) (i := 0) (by decide) (by simp), bno_s, known_is]
    rw [decide_eq_false (by simp), cond_false]
    simp only [List.getElem_cons_zero, Int.toNat_zero]
    cases hk : knownK (k.toNat : Int) with
    | false => rw [getF_bad hk]; rfl
    | true =>
      match r, hs with
      | [], _ => rw [getF_one hk]; rfl
      | b :: t, hs =>
        rw [getF_two hk]
        simp only [List.length_cons] at hs
        simp only [Bool.not_true, cond_false, gix_get (l := k :: b :: t) (i := 1) (by decide) (by simp), bno_s, Int.toNat_one, List.getElem_cons_succ, List.getElem_cons_zero]
        rw [decide_eq_false (by simp; omega), cond_false]
        by_cases hb : 1 < b.toNat
        · rw [decide_eq_true (by omega), if_pos hb]; rfl
        · rw [decide_eq_false (by omega), if_neg hb, cond_false, cut_to (by decide) (by simp; omega), bno_s]
          rw [show (2 : Int).toNat = 2 from rfl, List.drop_succ_cons, List.drop_succ_cons, List.drop_zero, get_is, bno_s]
          by_cases hv : (vget t).2.2 = 0
          · rw [decide_eq_true hv, if_neg (fun h => h hv)]
            have h3 := vget_size hv
            simp only [Bool.not_true, cond_false]
            by_cases h64 : 64 < (vget t).1
            · rw [decide_eq_true h64, if_pos h64]; rfl
            · rw [decide_eq_false h64, if_neg h64, cond_false, w64 (n := ((k :: b :: t).length : Int) - 2) (by simp; omega) (by simp; omega), w64 (by simp; omega) (by simp; omega)]
              have hlen : ((k :: b :: t).length : Int) - 2 - (vget t).2.1 = (t.length : Int) - (vget t).2.1 := by simp; omega
              rw [hlen]
              by_cases hl : (t.length : Int) - (vget t).2.1 < (vget t).1
              · rw [decide_eq_true hl, if_pos hl]; rfl
              · have h5 := vget_nonneg (s := t)
                rw [decide_eq_false hl, if_neg hl, cond_false, w64 (n := 2 + (vget t).2.1) (by omega) (by omega), w64 (by omega) (by omega), bno_s]
                simp only [show decide ((0 : Int) = 0) = true from rfl, Bool.not_true, cond_false]
                rw [cut_ok (by omega) (by omega) (by simp; omega), bno_s]
                have ecut : ((k :: b :: t).take (2 + (vget t).2.1 + (vget t).1).toNat).drop (2 + (vget t).2.1).toNat = (t.drop (vget t).2.1.toNat).take (vget t).1.toNat := by
                  have e1 : (2 + (vget t).2.1 + (vget t).1).toNat = ((vget t).2.1.toNat + (vget t).1.toNat) + 1 + 1 := by omega
                  have e2 : (2 + (vget t).2.1).toNat = (vget t).2.1.toNat + 1 + 1 := by omega
                  rw [e1, e2, List.take_succ_cons, List.take_succ_cons, List.drop_succ_cons, List.drop_succ_cons, List.take_drop]
                rw [ecut]
                obtain ⟨x, hx, hy⟩ := read_is (s := (t.drop (vget t).2.1.toNat).take (vget t).1.toNat) (g := ⟨k.toNat, decide ((b.toNat : Int) = 1), 0, 0, 0, 0, 0, 0, [], []⟩) (by rw [List.length_take, List.length_drop]; omega)
                rw [hx, bno_s]
                cases hR : readF ((t.drop (vget t).2.1.toNat).take (vget t).1.toNat) ⟨k.toNat, decide ((b.toNat : Int) = 1), 0, 0, 0, 0, 0, 0, [], []⟩ with
                | none => rfl
                | some g =>
                  obtain rfl := hy g hR
                  have hb := readF_len hR
                  rw [List.length_take, List.length_drop] at hb
                  simp only [Option.isSome_some, Bool.not_true, cond_false]
                  rw [check_is (by have := hb.1; simp at this; omega), bno_s]
                  by_cases hc : chkF x = 0
                  · rw [decide_eq_true hc, if_pos hc]; rfl
                  · rw [decide_eq_false hc, if_neg hc]; rfl
          · rw [decide_eq_false hv, if_pos hv]
            simp only [Bool.not_false, cond_true, bno_s]
            rw [decide_eq_false hv]; rfl

theorem chr_nat {o : Nat} (h : 2 ≤ o) (h2 : o ≤ 7) : (chrOf o).toNat = if o = 2 then 115 else if o = 3 then 111 else if o = 4 then 100 else if o = 5 then 119 else if o = 6 then 110 else 99 := by
  obtain rfl | rfl | rfl | rfl | rfl | rfl : o = 2 ∨ o = 3 ∨ o = 4 ∨ o = 5 ∨ o = 6 ∨ o = 7 := by omega
  all_goals rfl
theorem set_is {g : T_frame_Frame} {o : Nat} (h : 2 ≤ o) (h2 : o ≤ 7) (v : Int) : sennitref15_set_n g.Kind g.Flag g.Stream g.Offset g.Dep g.Weight g.N g.Code g.Data ((chrOf o).toNat : Int) v =
    some ((setv g o v).Kind, (setv g o v).Flag, (setv g o v).Stream, (setv g o v).Offset, (setv g o v).Dep, (setv g o v).Weight, (setv g o v).N, (setv g o v).Code, (setv g o v).Data) := by
  obtain rfl | rfl | rfl | rfl | rfl | rfl : o = 2 ∨ o = 3 ∨ o = 4 ∨ o = 5 ∨ o = 6 ∨ o = 7 := by omega
  all_goals rfl
theorem pairs_loop {a b c d e f g : Int} {fl : Bool} {dt : List UInt8} {x : List Int × Int} (h2 : x.1.length % 2 = 0) (hl : x.1.length ≤ 1000000) : ∀ (k i : Nat) (acc : List T_api_Pair), x.1.length - 2 * i < k → 2 * i ≤ x.1.length → acc.length = i →
    sennitref15_read_n_L1 a fl b c d e f g dt x k ((2 * i : Nat) : Int) acc = some (⟨a, fl, b, c, d, e, f, g, acc ++ pairUp (x.1.drop (2 * i)), dt⟩, true) := by
  intro k
  induction k with
  | zero => intro i acc h; omega
  | succ k ih =>
    intro i acc hk hi ha
    unfold sennitref15_read_n_L1
    simp only [bnd_d]
    rw [w64 (n := ((2 * i : Nat) : Int) + 1) (by omega) (by omega)]
    by_cases hc : 2 * i + 1 < x.1.length
    · rw [decide_eq_true (by omega), cond_true, gix_nat, List.getElem?_eq_getElem (by omega), bno_s, show ((2 * i : Nat) : Int) + 1 = ((2 * i + 1 : Nat) : Int) from by omega, gix_nat, List.getElem?_eq_getElem hc, bno_s, app_ok (by simp; omega) (by simp; omega), bno_s, w64 (by omega) (by omega), show ((2 * i : Nat) : Int) + 2 = ((2 * (i + 1) : Nat) : Int) from by omega, ih (i + 1) _ (by omega) (by omega) (by simp; omega)]
      rw [List.drop_eq_getElem_cons (i := 2 * i) (by omega), List.drop_eq_getElem_cons (i := 2 * i + 1) hc, pairUp, List.append_assoc]
      rfl
    · rw [decide_eq_false (by omega), cond_false, List.drop_of_length_le (by omega)]
      simp [pairUp]
theorem rread_loop {p : List T_api_Pair} {l : List Nat} (hr : ∀ o ∈ l, 2 ≤ o ∧ o ≤ 7) (hll : l.length ≤ 3) : ∀ (k i : Nat) (s : List UInt8) (g : T_frame_Frame), g.Pairs = [] → l.length - i < k → i ≤ l.length → s.length ≤ 1000000 →
    ∃ x, sennitref15_read_n_L0 (l.map chrOf) k s (i : Int) g.Kind g.Flag g.Stream g.Offset g.Dep g.Weight g.N g.Code g.Data = some (x, ((rd (l.drop i) s g).bind fun q => body q.1 q.2).isSome) ∧ ∀ y, ((rd (l.drop i) s g).bind fun q => body q.1 q.2) = some y → x = y := by
  intro k
  induction k with
  | zero => intro i s g hp h; omega
  | succ k ih =>
    intro i s g hp hk hi hs
    unfold sennitref15_read_n_L0
    by_cases hc : i < l.length
    · have hx := hr _ (List.getElem_mem hc)
      rw [List.drop_eq_getElem_cons hc]
      unfold rd
      simp only [bnd_d, List.length_map]
      rw [decide_eq_true (by omega), cond_true, rget_is, bno_s]
      by_cases h : (vget s).2.2 = 0
      · have h3 := vget_size h
        rw [decide_eq_true h, Bool.not_true, cond_false, gix_nat, List.getElem?_map, List.getElem?_eq_getElem hc, Option.map_some, bno_s, set_is hx.1 hx.2, bno_s, cut_to (by omega) (by omega), bno_s, step64 hc (by omega), if_pos h]
        exact ih (i + 1) _ (setv g l[i] (vget s).1) hp (by omega) (by omega) (by rw [List.length_drop]; omega)
      · rw [decide_eq_false h, Bool.not_false, cond_true, if_neg h]
        exact ⟨_, rfl, fun y hy => by cases hy⟩
    · have : i = l.length := by omega
      subst this
      rw [List.drop_length]
      unfold rd
      simp only [bnd_d, Option.bind_some, List.length_map]
      rw [decide_eq_false (by omega), cond_false]
      unfold body
      by_cases h0 : g.Kind = 0
      · rw [decide_eq_true h0, if_pos h0]; exact ⟨_, rfl, fun y hy => by rw [hp] at hy; simpa using hy⟩
      · rw [decide_eq_false h0, if_neg h0, cond_false]
        by_cases h4 : g.Kind = 4
        · rw [decide_eq_true h4, if_pos h4, cond_true, rall_is hs, bno_s]
          have hl := vall_len s
          unfold setS
          by_cases hz : (vall s).2 = 0
          · rw [decide_eq_true hz, show ((!true) == false) = true from rfl, gd_tt, rem_ok (by omega) (by decide), bno_s]
            by_cases h2 : (vall s).1.length % 2 = 0
            · rw [decide_eq_true (by omega), if_pos ⟨hz, h2⟩]
              simp only [Bool.not_true, Bool.or_false, cond_false]
              have := pairs_loop (a := g.Kind) (b := g.Stream) (c := g.Offset) (d := g.Dep) (e := g.Weight) (f := g.N) (g := g.Code) (fl := g.Flag) (dt := g.Data) h2 (by omega) fuel 0 [] (fuel_gt (by omega)) (by omega) rfl
              rw [show (0 : Int) = ((2 * 0 : Nat) : Int) from rfl, this]
              exact ⟨_, rfl, fun y hy => by simpa using hy⟩
            · rw [decide_eq_false (by omega), if_neg (fun h => h2 h.2)]
              exact ⟨_, rfl, fun y hy => by cases hy⟩
          · rw [decide_eq_false hz, if_neg (fun h => hz h.1)]
            exact ⟨_, rfl, fun y hy => by cases hy⟩
        · rw [decide_eq_false h4, if_neg h4, cond_false]
          by_cases hs : s = []
          · rw [decide_eq_true hs, if_pos hs]; exact ⟨_, rfl, fun y hy => by rw [← hp] ; simpa using hy⟩
          · rw [decide_eq_false hs, if_neg hs]; exact ⟨_, rfl, fun y hy => by cases hy⟩
theorem rread_is {s : List UInt8} {g : T_frame_Frame} (hk : 0 ≤ g.Kind) (hn : knownK g.Kind = true) (hp : g.Pairs = []) (h : s.length ≤ 1000000) : ∃ x, sennitref15_read_n g.Kind g.Flag g.Stream g.Offset g.Dep g.Weight g.N g.Code g.Data s = some (x, (readF s g).isSome) ∧ ∀ y, readF s g = some y → x = y := by
  unfold sennitref15_read_n readF
  rw [fields_is hk, bno_s, flK, if_pos hn]
  have hb := offs_bounds g.Kind
  exact rread_loop (p := []) hb.2 hb.1 fuel 0 s g hp (fuel_gt (by omega)) (Nat.zero_le _) h
theorem fl_known {k : Int} : decide (flK k = [45]) = !knownK k := by
  unfold flK
  cases h : knownK k with
  | false => rfl
  | true =>
    rw [if_pos rfl]
    unfold offsK
    (repeat' split) <;> rfl
theorem rget_F {s : List UInt8} (hs : s.length ≤ 1000000) : sennitref15_Get s = some (getF s) := by
  unfold sennitref15_Get
  match s, hs with
  | [], _ => rfl
  | k :: r, hs =>
    simp only [bnd_d, gix_get (l := k :: r) (i := 0) (by decide) (by simp), bno_s, fields_is (k := (k.toNat : Int)) (by omega), fl_known]
    rw [decide_eq_false (by simp), cond_false]
    simp only [List.getElem_cons_zero, Int.toNat_zero]
    rw [fields_is (by omega), bno_s]
    simp only [fl_known]
    cases hk : knownK (k.toNat : Int) with
    | false => rw [getF_bad hk]; rfl
    | true =>
      match r, hs with
      | [], _ => rw [getF_one hk]; rfl
      | b :: t, hs =>
        rw [getF_two hk]
        simp only [List.length_cons] at hs
        simp only [Bool.not_true, cond_false, gix_get (l := k :: b :: t) (i := 1) (by decide) (by simp), bno_s, Int.toNat_one, List.getElem_cons_succ, List.getElem_cons_zero]
        rw [decide_eq_false (by simp; omega), cond_false]
        by_cases hb : 1 < b.toNat
        · rw [decide_eq_true (by omega), if_pos hb]; rfl
        · rw [decide_eq_false (by omega), if_neg hb, cond_false, cut_to (by decide) (by simp; omega), bno_s]
          rw [show (2 : Int).toNat = 2 from rfl, List.drop_succ_cons, List.drop_succ_cons, List.drop_zero, rget_is, bno_s]
          by_cases hv : (vget t).2.2 = 0
          · rw [decide_eq_true hv, if_neg (fun h => h hv)]
            have h3 := vget_size hv
            simp only [Bool.not_true, cond_false]
            by_cases h64 : 64 < (vget t).1
            · rw [decide_eq_true h64, if_pos h64]; rfl
            · rw [decide_eq_false h64, if_neg h64, cond_false, w64 (n := ((k :: b :: t).length : Int) - 2) (by simp; omega) (by simp; omega), w64 (by simp; omega) (by simp; omega)]
              have hlen : ((k :: b :: t).length : Int) - 2 - (vget t).2.1 = (t.length : Int) - (vget t).2.1 := by simp; omega
              rw [hlen]
              by_cases hl : (t.length : Int) - (vget t).2.1 < (vget t).1
              · rw [decide_eq_true hl, if_pos hl]; rfl
              · have h5 := vget_nonneg (s := t)
                rw [decide_eq_false hl, if_neg hl, cond_false, w64 (n := 2 + (vget t).2.1) (by omega) (by omega), w64 (by omega) (by omega), cut_ok (by omega) (by omega) (by simp; omega), bno_s]
                have ecut : ((k :: b :: t).take (2 + (vget t).2.1 + (vget t).1).toNat).drop (2 + (vget t).2.1).toNat = (t.drop (vget t).2.1.toNat).take (vget t).1.toNat := by
                  have e1 : (2 + (vget t).2.1 + (vget t).1).toNat = ((vget t).2.1.toNat + (vget t).1.toNat) + 1 + 1 := by omega
                  have e2 : (2 + (vget t).2.1).toNat = (vget t).2.1.toNat + 1 + 1 := by omega
                  rw [e1, e2, List.take_succ_cons, List.take_succ_cons, List.drop_succ_cons, List.drop_succ_cons, List.take_drop]
                rw [ecut]
                obtain ⟨x, hx, hy⟩ := rread_is (s := (t.drop (vget t).2.1.toNat).take (vget t).1.toNat) (g := ⟨k.toNat, decide ((b.toNat : Int) = 1), 0, 0, 0, 0, 0, 0, [], []⟩) (by simp only; omega) hk rfl (by rw [List.length_take, List.length_drop]; omega)
                simp only at hx
                rw [hx, bno_s]
                cases hR : readF ((t.drop (vget t).2.1.toNat).take (vget t).1.toNat) ⟨k.toNat, decide ((b.toNat : Int) = 1), 0, 0, 0, 0, 0, 0, [], []⟩ with
                | none => rfl
                | some g =>
                  obtain rfl := hy g hR
                  have hb := readF_len hR
                  rw [List.length_take, List.length_drop] at hb
                  simp only [Option.isSome_some, Bool.not_true, cond_false]
                  rw [rcheck_is (by rw [hb.2.2.1]; simp only; omega) (by have := hb.1; simp at this; omega), bno_s, bno_s]
                  by_cases hc : chkF x = 0
                  · rw [decide_eq_true hc, if_pos hc]; rfl
                  · rw [decide_eq_false hc, if_neg hc]; rfl
          · rw [decide_eq_false hv, if_pos hv]; rfl
theorem getF_pairs (s : List UInt8) : (getF s).1.Pairs.length ≤ s.length ∧ (getF s).1.Data.length ≤ s.length := by
  match s with
  | [] => exact ⟨by simp [getF, zF], by simp [getF, zF]⟩
  | k :: r =>
    cases hk : knownK (k.toNat : Int) with
    | false => rw [getF_bad hk]; simp [zF]
    | true =>
      match r with
      | [] => rw [getF_one hk]; simp [zF]
      | b :: t =>
        rw [getF_two hk]
        split
        · simp [zF]
        · split
          · simp [zF]
          · split
            · simp [zF]
            · split
              · simp [zF]
              · cases hR : readF ((t.drop (vget t).2.1.toNat).take (vget t).1.toNat) ⟨k.toNat, decide ((b.toNat : Int) = 1), 0, 0, 0, 0, 0, 0, [], []⟩ with
                | none => simp [zF]
                | some g =>
                  have hb := readF_len hR
                  rw [List.length_take, List.length_drop] at hb
                  simp only
                  split
                  · have h1 := hb.1; have h2 := hb.2.1
                    simp only [List.length_nil] at h1 h2
                    simp only [List.length_cons]
                    constructor <;> omega
                  · simp [zF]
theorem frameGets {s : List UInt8} : sennitlaw15_FrameGets s = some true := by
  unfold sennitlaw15_FrameGets
  simp only [bnd_d, awake15, bno_s]
  by_cases h : 120 < (s.length : Int)
  · rw [decide_eq_true h]; rfl
  · have hp := getF_pairs s
    rw [decide_eq_false h, cond_false, get_F (by omega), bno_s, rget_F (by omega), bno_s, rsame_is (by omega) (by omega), bno_s]
    simp [gd, bno_s]
end Go.Fn
