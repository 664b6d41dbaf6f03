/-
  A part of the proof: rules and plain facts. No condition.
-/
import Derived.Test.YtmidijokooidcaaDoorIlP108
import Derived.Laws.Pointers
import Derived.LaidEqlPtr
set_option linter.all false
set_option linter.unusedSimpArgs false
set_option linter.unusedVariables false
open Go Go.IL
namespace Go.Fn
/-! Console: what is read prints back; ConsoleAgain. -/
theorem join_is (c : UInt8) : ∀ l : List (List UInt8), Lib.join l [c] = joinL c l
  | [] => rfl
  | [w] => by show List.intercalate [c] [w] = w; simp [List.intercalate]
  | w :: v :: l => by
    rw [joinL_cons (by simp), ← join_is c (v :: l)]
    show List.intercalate [c] (w :: v :: l) = w ++ c :: List.intercalate [c] (v :: l)
    simp [List.intercalate, List.intersperse]
theorem join33 {l : List (List UInt8)} {c : UInt8} (h : l.length ≤ 1000000) (h2 : (joinL c l).length ≤ 1000000) : strings_Join l [c] = some (joinL c l) := by
  unfold strings_Join joinS
  rw [join_is, decide_eq_true (by omega), decide_eq_true (by omega)]; rfl
/-! Numbers. -/
theorem dig_b {b : UInt8} (h : isDig b) (m : Nat) : dig (10 * m + (b.toNat - 48)) = b := by
  obtain ⟨h0, h1⟩ := h
  unfold dig
  rw [show 48 + (10 * m + (b.toNat - 48)) % 10 = b.toNat by omega]
  exact UInt8.ofNat_toNat
theorem decF_of : ∀ (k : Nat) (w : List UInt8), w.length = k + 1 → (∀ b ∈ w, isDig b) → (w[0]? ≠ some 48 ∨ k = 0) → decF k (valS w) = w
  | 0, w, hl, hd, _ => by
    obtain ⟨b, rfl⟩ := List.length_eq_one_iff.1 hl
    have hb := hd b (by simp)
    have e : valS [b] = 10 * 0 + (b.toNat - 48) := rfl
    rw [e, decF_one (by unfold isDig at hb; omega), dig_b hb]
  | k + 1, w, hl, hd, h0 => by
    obtain ⟨p, b, rfl⟩ : ∃ p b, w = p ++ [b] := ⟨w.dropLast, w.getLast (by intro e; rw [e] at hl; cases hl), (List.dropLast_concat_getLast _).symm⟩
    have hpl : p.length = k + 1 := by simpa using hl
    have h0 : (p ++ [b])[0]? ≠ some 48 := h0.resolve_right (by omega)
    rw [List.getElem?_append_left (by omega)] at h0
    have hb := hd b (by simp)
    have hpd : ∀ c ∈ p, isDig c := fun c hc => hd c (by simp [hc])
    have ih := decF_of k p hpl hpd (.inl h0)
    have hpos : 0 < valS p := by
      refine Nat.pos_of_ne_zero fun e => ?_
      rw [e] at ih
      rw [decF_one (by decide)] at ih
      rw [← ih] at h0
      exact h0 rfl
    have hbd : b.toNat - 48 < 10 := by unfold isDig at hb; omega
    rw [valS_app, decF_step (by omega), show (10 * valS p + (b.toNat - 48)) / 10 = valS p by omega, ih, dig_b hb]
theorem itoa_num {w : List UInt8} {n : Nat} (h : numV w = some n) : itoaF (n : Int) = w := by
  unfold numV at h
  cases hB : numB w with
  | false => rw [hB] at h; cases h
  | true =>
    rw [hB] at h
    have h : some (valS w) = some n := h
    injection h with h
    subst h
    unfold numB at hB
    simp only [Bool.and_eq_true, Bool.not_eq_true', decide_eq_false_iff_not, decide_eq_true_iff] at hB
    obtain ⟨⟨⟨h1, h2⟩, h3⟩, h4⟩ := hB
    have hd := all_dig h4
    have hl : 0 < w.length := List.length_pos_iff.2 h1
    obtain ⟨k, hk⟩ : ∃ k, w.length = k + 1 := ⟨w.length - 1, by omega⟩
    have hv := valS_bd w.length w rfl hd
    rw [itoaF_of (by omega) k (by rw [← hk]; simpa using hv) (by omega), Int.toNat_natCast]
    refine decF_of k w hk hd ?_
    by_cases e : k = 0
    · exact .inr e
    · refine .inl fun e2 => ?_
      rw [e2, decide_eq_true (show 1 < w.length by omega)] at h3
      simp at h3
/-! Texts. -/
def hexc (d : Nat) : UInt8 := ([48, 49, 50, 51, 52, 53, 54, 55, 56, 57, 97, 98, 99, 100, 101, 102] : List UInt8).getD d 0
theorem hexc_all : ((List.range 256).all fun n => (match shrI .u8 (n : Int) 4 with | some r => decide (gix ([48, 49, 50, 51, 52, 53, 54, 55, 56, 57, 97, 98, 99, 100, 101, 102] : List UInt8) r = some (hexc (n / 16))) | none => false) && decide (gix ([48, 49, 50, 51, 52, 53, 54, 55, 56, 57, 97, 98, 99, 100, 101, 102] : List UInt8) (andI .u8 (n : Int) 15) = some (hexc (n % 16))) && (match hexD n with | some d => decide (hexc d = UInt8.ofNat n) | none => true)) = true := by kernel_rfl
theorem u8_lt (b : UInt8) : b.toNat < 256 := UInt8.toNat_lt b
theorem hexc_at (b : UInt8) : (∃ r, shrI .u8 (b.toNat : Int) 4 = some r ∧ gix ([48, 49, 50, 51, 52, 53, 54, 55, 56, 57, 97, 98, 99, 100, 101, 102] : List UInt8) r = some (hexc (b.toNat / 16))) ∧ gix ([48, 49, 50, 51, 52, 53, 54, 55, 56, 57, 97, 98, 99, 100, 101, 102] : List UInt8) (andI .u8 (b.toNat : Int) 15) = some (hexc (b.toNat % 16)) ∧ ∀ d, hexV b = some d → hexc d = b := by
  have h := List.all_eq_true.1 hexc_all b.toNat (List.mem_range.2 (u8_lt b))
  simp only [Bool.and_eq_true, decide_eq_true_iff] at h
  obtain ⟨⟨h1, h2⟩, h3⟩ := h
  refine ⟨?_, h2, ?_⟩
  · revert h1
    cases shrI .u8 (b.toNat : Int) 4 with
    | none => intro h; cases h
    | some r => intro h; exact ⟨r, rfl, of_decide_eq_true h⟩
  · intro d hd
    unfold hexV at hd
    rw [hd] at h3
    have := of_decide_eq_true h3
    rw [this]; exact UInt8.ofNat_toNat
def hexL (t : List UInt8) : List UInt8 := t.flatMap fun b => [hexc (b.toNat / 16), hexc (b.toNat % 16)]
def hexS (t : List UInt8) : List UInt8 := if t = [] then [45] else hexL t
theorem hexL_len (t : List UInt8) : (hexL t).length = 2 * t.length := by
  unfold hexL
  induction t with
  | nil => rfl
  | cons b t ih => rw [List.flatMap_cons, List.length_append, ih]; simp; omega
theorem hex_L {t : List UInt8} (ht : t.length ≤ 100000) : ∀ (r p : List UInt8) (f : Nat), t = p ++ r → r.length < f → console_hex_L0 t f (hexL p) (p.length : Int) = some (hexL t)
  | [], p, f + 1, h, _ => by
    rw [List.append_nil] at h
    rw [console_hex_L0]
    simp only [bndD, h, lt_len, bif_ff]
  | b :: r, p, f + 1, h, hf => by
    have hp : p.length + 1 ≤ 100000 := by rw [h] at ht; simp at ht; omega
    obtain ⟨⟨q, q1, q2⟩, q3, _⟩ := hexc_at b
    have hl := hexL_len p
    rw [console_hex_L0]
    simp only [bndD, lt_at h, bif_tt, gix_at h, bnoS, w_at h (show t.length ≤ 1000000 by omega), q1, q2, q3]
    rw [app_ok (by simp; omega) (by simp; omega), bnoS]
    have e : hexL p ++ [hexc (b.toNat / 16), hexc (b.toNat % 16)] = hexL (p ++ [b]) := by unfold hexL; rw [List.flatMap_append]; rfl
    rw [e]
    exact hex_L ht r (p ++ [b]) f (next_at h) (by simpa using hf)
theorem hex33 {t : List UInt8} (ht : t.length ≤ 100000) : console_hex t = some (hexS t) := by
  unfold console_hex hexS
  rw [bndD]
  by_cases h : t = []
  · rw [decide_eq_true h, bif_tt, if_pos h]
  · rw [decide_eq_false h, bif_ff, if_neg h]
    exact hex_L ht t [] fuel rfl (fuel_gt (by omega))
theorem unhex_back : ∀ (n : Nat) (w t : List UInt8), w.length ≤ n → w.length % 2 = 0 → unhexV w = some t → hexL t = w
  | _, [], t, _, _, h => by injection h with h; rw [← h]; rfl
  | _, [_], t, _, h2, h => absurd h2 (by simp)
  | n + 1, a :: b :: r, t, hn, h2, h => by
    rw [unhex_cons] at h
    cases ha : hexV a with
    | none => rw [ha] at h; cases h
    | some x =>
      cases hb : hexV b with
      | none => rw [ha, hb] at h; cases h
      | some y =>
        cases hr : unhexV r with
        | none => rw [ha, hb, hr] at h; cases h
        | some u =>
          rw [ha, hb, hr] at h
          injection h with h
          have hx := (hex_at a).2.2 x ha
          have hy := (hex_at b).2.2 y hb
          rw [← h]
          have ih := unhex_back n r u (by simp at hn; omega) (by simp at h2; omega) hr
          have e : (UInt8.ofNat (16 * x + y)).toNat = 16 * x + y := by rw [UInt8.toNat_ofNat']; omega
          show hexL (UInt8.ofNat (16 * x + y) :: u) = a :: b :: r
          unfold hexL at ih ⊢
          rw [List.flatMap_cons, ih, e, show (16 * x + y) / 16 = x by omega, show (16 * x + y) % 16 = y by omega, (hexc_at a).2.2 x ha, (hexc_at b).2.2 y hb]; rfl
theorem text_back {w t : List UInt8} (h : textV w = some t) : hexS t = w := by
  unfold textV at h
  by_cases h1 : w = [45]
  · rw [if_pos h1] at h
    injection h with h
    rw [← h, h1]; rfl
  · rw [if_neg h1] at h
    by_cases h2 : w = [] ∨ w.length % 2 = 1
    · rw [if_pos h2] at h; cases h
    · rw [if_neg h2] at h
      have hb := unhex_back w.length w t (Nat.le_refl _) (by omega) h
      unfold hexS
      by_cases h3 : t = []
      · subst h3
        exact absurd (.inl hb.symm) h2
      · rw [if_neg h3, hb]
/-! Fields. -/
def markS (b : Bool) : List UInt8 := bif b then [43] else [45]
def getF (s : S33) (c : UInt8) : Int × List UInt8 × Bool :=
  if c = 115 then (s.Side, [], false) else if c = 105 then (s.ID, [], false) else if c = 110 then (s.N, [], false) else if c = 109 then (s.M, [], false) else if c = 112 then (s.Path, [], false) else if c = 116 then (0, s.Text, false) else (0, [], s.Flag)
/-- A field, printed. -/
def shewF (c : UInt8) (v : Int × List UInt8 × Bool) : List UInt8 := if c = 116 then hexS v.2.1 else if c = 102 then markS v.2.2 else itoaF v.1
/-- A number that may stand in a field. -/
def okN (c : UInt8) (n : Int) : Prop := 0 ≤ n ∧ n ≤ 999999999 ∧ (c = 115 → n < 2)
theorem okN0 (c : UInt8) : okN c 0 := ⟨by decide, by decide, fun _ => by decide⟩
theorem put_get {c : UInt8} (hc : fieldC c) {w : List UInt8} {s s' : S33} (h : putV s c w = some s') : s'.Kind = s.Kind ∧ (∀ c', fieldC c' → c' ≠ c → getF s' c' = getF s c') ∧ shewF c (getF s' c) = w ∧ okN c (getF s' c).1 := by
  unfold putV at h
  by_cases h1 : c = 116
  · subst h1
    rw [if_pos rfl] at h
    cases ht : textV w with
    | none => rw [ht] at h; cases h
    | some t =>
      rw [ht] at h
      have h : some _ = some s' := h
      injection h with h
      subst h
      refine ⟨rfl, ?_, text_back ht, okN0 _⟩
      rintro c' (rfl | rfl | rfl | rfl | rfl | rfl | rfl) hn <;> first | rfl | exact absurd rfl hn
  · rw [if_neg h1] at h
    by_cases h2 : c = 102
    · subst h2
      rw [if_pos rfl] at h
      by_cases hw : w = [43] ∨ w = [45]
      · rw [if_pos hw] at h
        injection h with h
        subst h
        refine ⟨rfl, ?_, ?_, okN0 _⟩
        · rintro c' (rfl | rfl | rfl | rfl | rfl | rfl | rfl) hn <;> first | rfl | exact absurd rfl hn
        · rcases hw with rfl | rfl <;> rfl
      · rw [if_neg hw] at h; cases h
    · rw [if_neg h2] at h
      cases hv : numV w with
      | none => rw [hv] at h; cases h
      | some n =>
        rw [hv] at h
        have hi := itoa_num hv
        have hb := numV_bd hv
        have hk : ∀ c : UInt8, c ≠ 115 → okN c (n : Int) := fun c hc => ⟨by omega, by omega, fun e => absurd e hc⟩
        rcases hc with rfl | rfl | rfl | rfl | rfl | rfl | rfl
        · have h : (if n < 2 then some (⟨s.Kind, (n : Int), s.ID, s.N, s.M, s.Path, s.Text, s.Flag⟩ : S33) else none) = some s' := h
          by_cases hn2 : n < 2
          · rw [if_pos hn2] at h
            injection h with h
            subst h
            refine ⟨rfl, ?_, hi, ⟨Int.natCast_nonneg n, ?_, fun _ => ?_⟩⟩
            · rintro c' (rfl | rfl | rfl | rfl | rfl | rfl | rfl) hn <;> first | rfl | exact absurd rfl hn
            · show (n : Int) ≤ _; omega
            · show (n : Int) < _; omega
          · rw [if_neg hn2] at h; cases h
        · have h : some (⟨s.Kind, s.Side, (n : Int), s.N, s.M, s.Path, s.Text, s.Flag⟩ : S33) = some s' := h
          injection h with h
          subst h
          refine ⟨rfl, ?_, hi, hk _ (by decide)⟩
          rintro c' (rfl | rfl | rfl | rfl | rfl | rfl | rfl) hn <;> first | rfl | exact absurd rfl hn
        · have h : some (⟨s.Kind, s.Side, s.ID, (n : Int), s.M, s.Path, s.Text, s.Flag⟩ : S33) = some s' := h
          injection h with h
          subst h
          refine ⟨rfl, ?_, hi, hk _ (by decide)⟩
          rintro c' (rfl | rfl | rfl | rfl | rfl | rfl | rfl) hn <;> first | rfl | exact absurd rfl hn
        · have h : some (⟨s.Kind, s.Side, s.ID, s.N, (n : Int), s.Path, s.Text, s.Flag⟩ : S33) = some s' := h
          injection h with h
          subst h
          refine ⟨rfl, ?_, hi, hk _ (by decide)⟩
          rintro c' (rfl | rfl | rfl | rfl | rfl | rfl | rfl) hn <;> first | rfl | exact absurd rfl hn
        · have h : some (⟨s.Kind, s.Side, s.ID, s.N, s.M, (n : Int), s.Text, s.Flag⟩ : S33) = some s' := h
          injection h with h
          subst h
          refine ⟨rfl, ?_, hi, hk _ (by decide)⟩
          rintro c' (rfl | rfl | rfl | rfl | rfl | rfl | rfl) hn <;> first | rfl | exact absurd rfl hn
        · exact absurd rfl h1
        · exact absurd rfl h2
/-! Print. -/
def clrF (s : S33) (c : UInt8) : S33 :=
  if c = 115 then ⟨s.Kind, 0, s.ID, s.N, s.M, s.Path, s.Text, s.Flag⟩ else if c = 105 then ⟨s.Kind, s.Side, 0, s.N, s.M, s.Path, s.Text, s.Flag⟩
  else if c = 110 then ⟨s.Kind, s.Side, s.ID, 0, s.M, s.Path, s.Text, s.Flag⟩ else if c = 109 then ⟨s.Kind, s.Side, s.ID, s.N, 0, s.Path, s.Text, s.Flag⟩
  else if c = 112 then ⟨s.Kind, s.Side, s.ID, s.N, s.M, 0, s.Text, s.Flag⟩ else if c = 116 then ⟨s.Kind, s.Side, s.ID, s.N, s.M, s.Path, [], s.Flag⟩
  else ⟨s.Kind, s.Side, s.ID, s.N, s.M, s.Path, s.Text, false⟩
def zF : Int × List UInt8 × Bool := (0, [], false)
theorem clr_get {c : UInt8} (hc : fieldC c) (s : S33) : (clrF s c).Kind = s.Kind ∧ getF (clrF s c) c = zF ∧ ∀ d, fieldC d → d ≠ c → getF (clrF s c) d = getF s d := by
  rcases hc with rfl | rfl | rfl | rfl | rfl | rfl | rfl <;> refine ⟨rfl, rfl, ?_⟩ <;> rintro d (rfl | rfl | rfl | rfl | rfl | rfl | rfl) hn <;> first | rfl | exact absurd rfl hn
theorem clr_ok {c d : UInt8} (hc : fieldC c) (hd : fieldC d) {s : S33} (h : okN d (getF s d).1) : okN d (getF (clrF s c) d).1 := by
  obtain ⟨_, h1, h2⟩ := clr_get hc s
  by_cases e : d = c
  · rw [e, h1]; exact okN0 _
  · rw [h2 d hd e]; exact h
theorem clrs_get : ∀ (cs : List UInt8) (s : S33), (∀ c ∈ cs, fieldC c) → (cs.foldl clrF s).Kind = s.Kind ∧ ∀ d, fieldC d → (d ∈ cs ∨ getF s d = zF) → getF (cs.foldl clrF s) d = zF
  | [], s, _ => ⟨rfl, fun d _ h => h.elim (fun h => absurd h (by simp)) id⟩
  | c :: cs, s, hc => by
    obtain ⟨a1, a2, a3⟩ := clr_get (hc c (by simp)) s
    obtain ⟨b1, b2⟩ := clrs_get cs (clrF s c) (fun d hd => hc d (by simp [hd]))
    refine ⟨b1.trans a1, fun d hd h => b2 d hd ?_⟩
    by_cases e : d = c
    · rw [e]; exact .inr a2
    · rw [a3 d hd e]
      rcases h with h | h
      · exact .inl ((List.mem_cons.1 h).resolve_left e)
      · exact .inr h
theorem ok_dec {c : UInt8} {n : Int} (h : okN c n) : decide (0 ≤ n) = true ∧ decide (n ≤ 999999999) = true := ⟨decide_eq_true h.1, decide_eq_true h.2.1⟩
def bareL (x : S33) (F : List UInt8) (f : Nat) (i : Int) (s : S33) : Option (S33 × Bool) := console_bare_L0 x F f true i s.Side s.ID s.N s.M s.Path s.Text s.Flag
theorem bare_step {x : S33} {F p r : List UInt8} {c : UInt8} (hF : F = p ++ c :: r) (hl : F.length ≤ 1000) (hc : fieldC c) {s : S33} (hk : okN c (getF s c).1) (f : Nat) : bareL x F (f + 1) (p.length : Int) s = bareL x F f ((p ++ [c]).length : Int) (clrF s c) := by
  unfold bareL
  rw [console_bare_L0]
  rcases hc with rfl | rfl | rfl | rfl | rfl | rfl | rfl
  · have hk : okN 115 s.Side := hk
    obtain ⟨k1, k2⟩ := ok_dec hk
    simp only [bndD, lt_at hF, bif_tt, gix_at hF, bnoS, w_at hF (show F.length ≤ 1000000 by omega), show decide (((115 : UInt8).toNat : Int) = 115) = true from rfl, k1, k2, Bool.and_self, beq_self_eq_true, gdtt, Bool.not_true, Bool.false_or, decide_eq_true (hk.2.2 rfl)]
    rfl
  · have hk : okN 105 s.ID := hk
    obtain ⟨k1, k2⟩ := ok_dec hk
    simp only [bndD, lt_at hF, bif_tt, bif_ff, gix_at hF, bnoS, w_at hF (show F.length ≤ 1000000 by omega), show decide (((105 : UInt8).toNat : Int) = 115) = false from rfl, show decide (((105 : UInt8).toNat : Int) = 105) = true from rfl, k1, k2, Bool.and_self, beq_self_eq_true, gdtt, Bool.not_false, Bool.true_or]
    rfl
  · have hk : okN 110 s.N := hk
    obtain ⟨k1, k2⟩ := ok_dec hk
    simp only [bndD, lt_at hF, bif_tt, bif_ff, gix_at hF, bnoS, w_at hF (show F.length ≤ 1000000 by omega), show decide (((110 : UInt8).toNat : Int) = 115) = false from rfl, show decide (((110 : UInt8).toNat : Int) = 105) = false from rfl, show decide (((110 : UInt8).toNat : Int) = 110) = true from rfl, k1, k2, Bool.and_self, beq_self_eq_true, gdtt, Bool.not_false, Bool.true_or]
    rfl
  · have hk : okN 109 s.M := hk
    obtain ⟨k1, k2⟩ := ok_dec hk
    simp only [bndD, lt_at hF, bif_tt, bif_ff, gix_at hF, bnoS, w_at hF (show F.length ≤ 1000000 by omega), show decide (((109 : UInt8).toNat : Int) = 115) = false from rfl, show decide (((109 : UInt8).toNat : Int) = 105) = false from rfl, show decide (((109 : UInt8).toNat : Int) = 110) = false from rfl, show decide (((109 : UInt8).toNat : Int) = 109) = true from rfl, k1, k2, Bool.and_self, beq_self_eq_true, gdtt, Bool.not_false, Bool.true_or]
    rfl
  · have hk : okN 112 s.Path := hk
    obtain ⟨k1, k2⟩ := ok_dec hk
    simp only [bndD, lt_at hF, bif_tt, bif_ff, gix_at hF, bnoS, w_at hF (show F.length ≤ 1000000 by omega), show decide (((112 : UInt8).toNat : Int) = 115) = false from rfl, show decide (((112 : UInt8).toNat : Int) = 105) = false from rfl, show decide (((112 : UInt8).toNat : Int) = 110) = false from rfl, show decide (((112 : UInt8).toNat : Int) = 109) = false from rfl, show decide (((112 : UInt8).toNat : Int) = 112) = true from rfl, k1, k2, Bool.and_self, beq_self_eq_true, gdtt, Bool.not_false, Bool.true_or]
    rfl
  · simp only [bndD, lt_at hF, bif_tt, bif_ff, gix_at hF, bnoS, w_at hF (show F.length ≤ 1000000 by omega), show decide (((116 : UInt8).toNat : Int) = 115) = false from rfl, show decide (((116 : UInt8).toNat : Int) = 105) = false from rfl, show decide (((116 : UInt8).toNat : Int) = 110) = false from rfl, show decide (((116 : UInt8).toNat : Int) = 109) = false from rfl, show decide (((116 : UInt8).toNat : Int) = 112) = false from rfl, show decide (((116 : UInt8).toNat : Int) = 116) = true from rfl]
    rfl
  · simp only [bndD, lt_at hF, bif_tt, bif_ff, gix_at hF, bnoS, w_at hF (show F.length ≤ 1000000 by omega), show decide (((102 : UInt8).toNat : Int) = 115) = false from rfl, show decide (((102 : UInt8).toNat : Int) = 105) = false from rfl, show decide (((102 : UInt8).toNat : Int) = 110) = false from rfl, show decide (((102 : UInt8).toNat : Int) = 109) = false from rfl, show decide (((102 : UInt8).toNat : Int) = 112) = false from rfl, show decide (((102 : UInt8).toNat : Int) = 116) = false from rfl]
    rfl
theorem bare_L {x : S33} {F : List UInt8} (hl : F.length ≤ 1000) (hc : ∀ c ∈ F, fieldC c) : ∀ (r p : List UInt8) (s : S33) (f : Nat), F = p ++ r → r.length < f → s.Kind = x.Kind → (∀ c ∈ F, okN c (getF s c).1) → bareL x F f (p.length : Int) s = some (r.foldl clrF s, true)
  | [], p, s, f + 1, h, _, hk, _ => by
    rw [List.append_nil] at h
    unfold bareL
    rw [console_bare_L0]
    simp only [bndD, h, lt_len, bif_ff, ← hk]
    rfl
  | c :: r, p, s, f + 1, h, hf, hk, ho => by
    have hcm : c ∈ F := by rw [h]; simp
    rw [bare_step h hl (hc c hcm) (ho c hcm)]
    exact bare_L hl hc r (p ++ [c]) (clrF s c) f (next_at h) (by simpa using hf) ((clr_get (hc c hcm) s).1.trans hk) (fun d hd => clr_ok (hc c hcm) (hc d hd) (ho d hd))
theorem bare33 {x : S33} {F : List UInt8} (hl : F.length ≤ 1000) (hc : ∀ c ∈ F, fieldC c) (ho : ∀ c ∈ F, okN c (getF x c).1) : console_bare x F = some (F.foldl clrF x, true) := bare_L (x := x) hl hc F [] x fuel rfl (fuel_gt (by omega)) rfl ho
def shewn (x : S33) (c : UInt8) : List UInt8 := shewF c (getF x c)
theorem j_ok {n : Int} (h0 : 0 ≤ n) (h1 : n ≤ 999999999) : J64 n := by unfold J64; omega
theorem print_step {x : S33} {F : T_console_form} {p r : List UInt8} {c : UInt8} (hF : F.has = p ++ c :: r) (hl : F.has.length ≤ 1000) (hc : fieldC c) (hk : okN c (getF x c).1) (ht : x.Text.length ≤ 300) {d : List (List UInt8)} (hd : d.length ≤ 10000) (f : Nat) : console_Print_L1 x F (f + 1) d (p.length : Int) = console_Print_L1 x F f (d ++ [shewn x c]) ((p ++ [c]).length : Int) := by
  rw [console_Print_L1]
  have hap : ∀ w : List UInt8, app 16 d [w] = some (d ++ [w]) := fun w => app_ok (by simp; omega) (by simp; omega)
  rcases hc with rfl | rfl | rfl | rfl | rfl | rfl | rfl
  · have hk : okN 115 x.Side := hk
    simp only [bndD, lt_at hF, bif_tt, bif_ff, gix_at hF, bnoS, w_at hF (show F.has.length ≤ 1000000 by omega), show decide (((115 : UInt8).toNat : Int) = 115) = true from rfl, itoa33 (j_ok hk.1 hk.2.1), hap]
    rfl
  · have hk : okN 105 x.ID := hk
    simp only [bndD, lt_at hF, bif_tt, bif_ff, gix_at hF, bnoS, w_at hF (show F.has.length ≤ 1000000 by omega), show decide (((105 : UInt8).toNat : Int) = 115) = false from rfl, show decide (((105 : UInt8).toNat : Int) = 105) = true from rfl, itoa33 (j_ok hk.1 hk.2.1), hap]
    rfl
  · have hk : okN 110 x.N := hk
    simp only [bndD, lt_at hF, bif_tt, bif_ff, gix_at hF, bnoS, w_at hF (show F.has.length ≤ 1000000 by omega), show decide (((110 : UInt8).toNat : Int) = 115) = false from rfl, show decide (((110 : UInt8).toNat : Int) = 105) = false from rfl, show decide (((110 : UInt8).toNat : Int) = 110) = true from rfl, itoa33 (j_ok hk.1 hk.2.1), hap]
    rfl
  · have hk : okN 109 x.M := hk
    simp only [bndD, lt_at hF, bif_tt, bif_ff, gix_at hF, bnoS, w_at hF (show F.has.length ≤ 1000000 by omega), show decide (((109 : UInt8).toNat : Int) = 115) = false from rfl, show decide (((109 : UInt8).toNat : Int) = 105) = false from rfl, show decide (((109 : UInt8).toNat : Int) = 110) = false from rfl, show decide (((109 : UInt8).toNat : Int) = 109) = true from rfl, itoa33 (j_ok hk.1 hk.2.1), hap]
    rfl
  · have hk : okN 112 x.Path := hk
    simp only [bndD, lt_at hF, bif_tt, bif_ff, gix_at hF, bnoS, w_at hF (show F.has.length ≤ 1000000 by omega), show decide (((112 : UInt8).toNat : Int) = 115) = false from rfl, show decide (((112 : UInt8).toNat : Int) = 105) = false from rfl, show decide (((112 : UInt8).toNat : Int) = 110) = false from rfl, show decide (((112 : UInt8).toNat : Int) = 109) = false from rfl, show decide (((112 : UInt8).toNat : Int) = 112) = true from rfl, itoa33 (j_ok hk.1 hk.2.1), hap]
    rfl
  · simp only [bndD, lt_at hF, bif_tt, bif_ff, gix_at hF, bnoS, w_at hF (show F.has.length ≤ 1000000 by omega), show decide (((116 : UInt8).toNat : Int) = 115) = false from rfl, show decide (((116 : UInt8).toNat : Int) = 105) = false from rfl, show decide (((116 : UInt8).toNat : Int) = 110) = false from rfl, show decide (((116 : UInt8).toNat : Int) = 109) = false from rfl, show decide (((116 : UInt8).toNat : Int) = 112) = false from rfl, show decide (((116 : UInt8).toNat : Int) = 116) = true from rfl, hex33 (show x.Text.length ≤ 100000 by omega), hap]
    rfl
  · simp only [bndD, lt_at hF, bif_tt, bif_ff, gix_at hF, bnoS, w_at hF (show F.has.length ≤ 1000000 by omega), show decide (((102 : UInt8).toNat : Int) = 115) = false from rfl, show decide (((102 : UInt8).toNat : Int) = 105) = false from rfl, show decide (((102 : UInt8).toNat : Int) = 110) = false from rfl, show decide (((102 : UInt8).toNat : Int) = 109) = false from rfl, show decide (((102 : UInt8).toNat : Int) = 112) = false from rfl, show decide (((102 : UInt8).toNat : Int) = 116) = false from rfl]
    rw [show console_mark x.Flag = some (markS x.Flag) by unfold console_mark markS; cases x.Flag <;> rfl, bnoS, hap, bnoS]
    rfl
theorem print_L {x : S33} {F : T_console_form} (hl : F.has.length ≤ 1000) (hc : ∀ c ∈ F.has, fieldC c) (ho : ∀ c ∈ F.has, okN c (getF x c).1) (ht : x.Text.length ≤ 300) : ∀ (r p : List UInt8) (f : Nat), F.has = p ++ r → r.length < f → console_Print_L1 x F f (F.name :: p.map (shewn x)) (p.length : Int) = (strings_Join (F.name :: F.has.map (shewn x)) [32]).map fun t => (t, 0)
  | [], p, f + 1, h, _ => by
    rw [List.append_nil] at h
    rw [console_Print_L1]
    simp only [bndD, h, lt_len, bif_ff]
    cases strings_Join (F.name :: p.map (shewn x)) [32] <;> rfl
  | c :: r, p, f + 1, h, hf => by
    have hcm : c ∈ F.has := by rw [h]; simp
    have hpl : p.length ≤ 1000 := by rw [h] at hl; simp at hl; omega
    rw [print_step h hl (hc c hcm) (ho c hcm) ht (by simp; omega)]
    have := print_L hl hc ho ht r (p ++ [c]) f (next_at h) (by simpa using hf)
    rw [List.map_append] at this
    exact this
theorem print33 {x : S33} {k : Nat} (hk : k < 16) (hx : x.Kind = (k : Int)) (ho : ∀ c ∈ hasK k, okN c (getF x c).1) (hz : ∀ c, fieldC c → c ∉ hasK k → getF x c = zF) (ht : x.Text.length ≤ 300) : console_Print x = (strings_Join ((formK k).name :: (hasK k).map (shewn x)) [32]).map fun t => (t, 0) := by
  obtain ⟨_, f2, f3, f4, f5, _⟩ := fields_at hk
  unfold console_Print
  rw [forms_is, bnoS, bndD, hx, w64 (by omega) (by omega), forms_len, bndD, decide_eq_false (by omega), bif_ff, f2, bnoS]
  have hh : (formK k).has = hasK k := rfl
  rw [hh, bare33 (by omega) f4 ho, bnoS]
  obtain ⟨c1, c2⟩ := clrs_get (hasK k) x f4
  have hg : ∀ d, fieldC d → getF ((hasK k).foldl clrF x) d = zF := fun d hd => c2 d hd (by
    by_cases h : d ∈ hasK k
    · exact .inl h
    · exact .inr (hz d hd h))
  generalize (hasK k).foldl clrF x = y at c1 hg
  have g1 : y.Side = 0 := congrArg (·.1) (hg 115 (by decide))
  have g2 : y.ID = 0 := congrArg (·.1) (hg 105 (by decide))
  have g3 : y.N = 0 := congrArg (·.1) (hg 110 (by decide))
  have g4 : y.M = 0 := congrArg (·.1) (hg 109 (by decide))
  have g5 : y.Path = 0 := congrArg (·.1) (hg 112 (by decide))
  have g6 : y.Text = [] := congrArg (·.2.1) (hg 116 (by decide))
  have g7 : y.Flag = false := congrArg (·.2.2) (hg 102 (by decide))
  simp only [Bool.not_true, bif_ff, bndD, g1, g2, g3, g4, g5, g6, g7, c1, hx, decide_true, beq_self_eq_true, Bool.and_self]
  unfold console_Print_J0
  rw [bif_ff, bndD, decide_eq_false (by omega), bif_ff]
  exact print_L (F := formK k) (by rw [hh]; omega) f4 ho ht (hasK k) [] fuel rfl (fuel_gt (by omega))
end Go.Fn
set_option linter.unusedSimpArgs false
set_option linter.unusedVariables false
open Go Go.IL
namespace Go.Fn


def console_Lines_L0 (a0 : (List T_world_Step)) : Nat → Int → (List UInt8) → Option ((List UInt8) × Int)
  | 0, _, _ => none
  | n0 + 1, v19, v20 =>
    bnd (decide (v19 < (a0.length : Int))) fun x30 =>
    bif x30 then (
      bno (gix a0 v19) fun x32 =>
      bno (console_Print x32) fun x33 =>
      bnd (!decide (x33.2 = 0)) fun x34 =>
      bif x34 then (
        some ([], x33.2)
      ) else (
        bno (cat x33.1 ([10] : List UInt8)) fun x36 =>
        bno (app 1 v20 x36) fun x37 =>
        bnd (IntKind.wrap .i64 (v19 + 1)) fun x38 =>
        (console_Lines_L0 a0 n0) x38 x37
      )
    ) else (
      chk (v20.length ≠ 0) <|
      chk (v20.length ≤ 9223372036854775807) <|
      some (v20, 0)
    )
def console_Lines (a0 : (List T_world_Step)) : Option ((List UInt8) × Int) :=
  bnd (decide (0 < (a0.length : Int))) fun x1 =>
  bif x1 then (
    bno (gix a0 0) fun x3 =>
    bno (console_Print x3) fun x4 =>
    bnd (!decide (x4.2 = 0)) fun x5 =>
    bif x5 then (
      some ([], x4.2)
    ) else (
      bno (cat x4.1 ([10] : List UInt8)) fun x7 =>
      bno (app 1 ([] : (List UInt8)) x7) fun x8 =>
      bnd (IntKind.wrap .i64 (0 + 1)) fun x9 =>
      console_Lines_L0 a0 fuel x9 x8
    )
  ) else (
    some ([], 0)
  )

def sennitlaw33_ConsoleBack_L0 (a0 : (List T_world_Step)) : Nat → (List T_world_Step) → Int → Option Bool
  | 0, _, _ => none
  | n0 + 1, v25, v26 =>
    bnd (decide (v26 < (a0.length : Int))) fun x48 =>
    bif x48 then (
      bno (gix a0 v26) fun x50 =>
      bnd (decide (400 < (x50.Text.length : Int))) fun x51 =>
      bif x51 then (
        bno (sennitlaw33_awake) fun x53 =>
        some x53
      ) else (
        bno (gix a0 v26) fun x54 =>
        bno (console_Print x54) fun x55 =>
        bnd (!decide (x55.2 = 0)) fun x56 =>
        bif x56 then (
          bnd (!decide (x55.1 = ([] : List UInt8))) fun x58 =>
          bif x58 then (
            some false
          ) else (
            bnd (IntKind.wrap .i64 (v26 + 1)) fun x60 =>
            (sennitlaw33_ConsoleBack_L0 a0 n0) v25 x60
          )
        ) else (
          bno (console_Parse x55.1) fun x61 =>
          bnd (!decide (x61.2 = 0)) fun x62 =>
          bno (gd (x62 == false) (gix a0 v26) default) fun x63 =>
          bnd ((decide (x61.1.Kind = x63.Kind) && (decide (x61.1.Side = x63.Side) && (decide (x61.1.ID = x63.ID) && (decide (x61.1.N = x63.N) && (decide (x61.1.M = x63.M) && (decide (x61.1.Path = x63.Path) && (decide (x61.1.Text = x63.Text) && ((x61.1.Flag == x63.Flag) && true))))))))) fun x64 =>
          bnd (x62 || (!x64)) fun x65 =>
          bif x65 then (
            some false
          ) else (
            bno (app 72 v25 ([x61.1] : (List T_world_Step))) fun x67 =>
            bnd (IntKind.wrap .i64 (v26 + 1)) fun x68 =>
            (sennitlaw33_ConsoleBack_L0 a0 n0) x67 x68
          )
        )
      )
    ) else (
      bno (console_Lines v25) fun x69 =>
      bno (console_Script x69.1) fun x70 =>
      bnd (decide (x69.2 = 0)) fun x71 =>
      bnd (decide (x70.2.2 = 0)) fun x72 =>
      bnd (x71 && x72) fun x73 =>
      bnd (decide (x70.2.1 = 0)) fun x74 =>
      bnd (x73 && x74) fun x75 =>
      bno (gd (x75 == true) (sennitlaw33_back x70.1) default) fun x76 =>
      bno (gd (x75 == true) (sennitlaw33_back v25) default) fun x77 =>
      bno (gd (x75 == true) (sennitref33_SameSteps x76 x77) default) fun x78 =>
      bnd (x75 && x78) fun x79 =>
      bno (gd (x79 == true) (sennitlaw33_awake) default) fun x80 =>
      bnd (x79 && x80) fun x81 =>
      some x81
    )
def sennitlaw33_ConsoleBack (a0 : (List T_world_Step)) : Option Bool :=
  bnd (decide (20 < (a0.length : Int))) fun x1 =>
  bif x1 then (
    bno (sennitlaw33_awake) fun x3 =>
    some x3
  ) else (
    sennitlaw33_ConsoleBack_L0 a0 fuel ([] : (List T_world_Step)) 0
  )
end Go.Fn
set_option linter.unusedSimpArgs false
set_option linter.unusedVariables false
open Go Go.IL
namespace Go.Fn
/-! Console: both ways to print a step tell the same. -/
def okNb (c : UInt8) (n : Int) : Bool := decide (0 ≤ n) && decide (n ≤ 999999999) && (!decide (c = 115) || decide (n < 2))
theorem okNb_is {c : UInt8} {n : Int} : okNb c n = true ↔ okN c n := by
  unfold okNb okN
  simp only [Bool.and_eq_true, Bool.or_eq_true, Bool.not_eq_true', decide_eq_false_iff_not, decide_eq_true_iff]
  constructor
  · rintro ⟨⟨h1, h2⟩, h3⟩; exact ⟨h1, h2, fun h => h3.resolve_left (fun hn => hn h)⟩
  · rintro ⟨h1, h2, h3⟩
    refine ⟨⟨h1, h2⟩, ?_⟩
    by_cases h : c = 115
    · exact .inr (h3 h)
    · exact .inl h
def all7 : List UInt8 := [115, 105, 110, 109, 112, 116, 102]
theorem all7_is {c : UInt8} : c ∈ all7 ↔ fieldC c := by simp [all7, fieldC]
/-- Whether a step may be printed as one of kind k. -/
def okB (F : List UInt8) (x : S33) : Bool := F.all (fun c => okNb c (getF x c).1) && all7.all (fun c => F.contains c || decide (getF x c = zF))
theorem okB_is {F : List UInt8} {x : S33} : okB F x = true ↔ (∀ c ∈ F, okN c (getF x c).1) ∧ ∀ c, fieldC c → c ∉ F → getF x c = zF := by
  unfold okB
  rw [Bool.and_eq_true, List.all_eq_true, List.all_eq_true]
  constructor
  · rintro ⟨h1, h2⟩
    refine ⟨fun c hc => okNb_is.1 (h1 c hc), fun c hc hm => ?_⟩
    have h3 := h2 c (all7_is.2 hc)
    rw [Bool.or_eq_true, decide_eq_true_iff] at h3
    exact h3.resolve_left (fun h => hm (by simpa using h))
  · rintro ⟨h1, h2⟩
    refine ⟨fun c hc => okNb_is.2 (h1 c hc), fun c hc => ?_⟩
    rw [Bool.or_eq_true, decide_eq_true_iff]
    by_cases hm : c ∈ F
    · exact .inl (by simpa using hm)
    · exact .inr (h2 c (all7_is.1 hc) hm)
def bareB (x : S33) (F : List UInt8) (f : Nat) (b : Bool) (i : Int) (s : S33) : Option (S33 × Bool) := console_bare_L0 x F f b i s.Side s.ID s.N s.M s.Path s.Text s.Flag
theorem gdSome {α : Type} (q : Bool) (c z : α) : gd q (some c) z = some (bif q then c else z) := by cases q <;> rfl
theorem bareB_step {x : S33} {F p r : List UInt8} {c : UInt8} (hF : F = p ++ c :: r) (hl : F.length ≤ 1000) (hc : fieldC c) (s : S33) (b : Bool) (f : Nat) : bareB x F (f + 1) b (p.length : Int) s = bareB x F f (b && okNb c (getF s c).1) ((p ++ [c]).length : Int) (clrF s c) := by
  unfold bareB
  rw [console_bare_L0]
  have key : ∀ (b0 : Bool) (v : Int), (b0 && decide (0 ≤ v) && decide (v ≤ 999999999) && true) = (b0 && (decide (0 ≤ v) && decide (v ≤ 999999999) && true)) := fun b0 v => by
    cases b0 <;> rfl
  rcases hc with rfl | rfl | rfl | rfl | rfl | rfl | rfl
  · simp only [bndD, lt_at hF, bif_tt, gix_at hF, bnoS, w_at hF (show F.length ≤ 1000000 by omega), show decide (((115 : UInt8).toNat : Int) = 115) = true from rfl, gdSome]
    show console_bare_L0 x F f _ _ 0 s.ID s.N s.M s.Path s.Text s.Flag = console_bare_L0 x F f _ _ 0 s.ID s.N s.M s.Path s.Text s.Flag
    congr 1
    show _ = (b && (decide (0 ≤ s.Side) && decide (s.Side ≤ 999999999) && (!decide ((115 : UInt8) = 115) || decide (s.Side < 2))))
    generalize decide (0 ≤ s.Side) = b1
    generalize decide (s.Side ≤ 999999999) = b2
    generalize decide (s.Side < 2) = b3
    cases b <;> cases b1 <;> cases b2 <;> cases b3 <;> rfl
  · simp only [bndD, lt_at hF, bif_tt, bif_ff, gix_at hF, bnoS, w_at hF (show F.length ≤ 1000000 by omega), show decide (((105 : UInt8).toNat : Int) = 115) = false from rfl, show decide (((105 : UInt8).toNat : Int) = 105) = true from rfl, gdSome]
    show console_bare_L0 x F f _ _ s.Side 0 s.N s.M s.Path s.Text s.Flag = console_bare_L0 x F f _ _ s.Side 0 s.N s.M s.Path s.Text s.Flag
    congr 1
    show _ = (b && (decide (0 ≤ s.ID) && decide (s.ID ≤ 999999999) && (!decide ((105 : UInt8) = 115) || decide (s.ID < 2))))
    generalize decide (0 ≤ s.ID) = b1
    generalize decide (s.ID ≤ 999999999) = b2
    generalize decide (s.ID < 2) = b3
    cases b <;> cases b1 <;> cases b2 <;> cases b3 <;> rfl
  · simp only [bndD, lt_at hF, bif_tt, bif_ff, gix_at hF, bnoS, w_at hF (show F.length ≤ 1000000 by omega), show decide (((110 : UInt8).toNat : Int) = 115) = false from rfl, show decide (((110 : UInt8).toNat : Int) = 105) = false from rfl, show decide (((110 : UInt8).toNat : Int) = 110) = true from rfl, gdSome]
    show console_bare_L0 x F f _ _ s.Side s.ID 0 s.M s.Path s.Text s.Flag = console_bare_L0 x F f _ _ s.Side s.ID 0 s.M s.Path s.Text s.Flag
    congr 1
    show _ = (b && (decide (0 ≤ s.N) && decide (s.N ≤ 999999999) && (!decide ((110 : UInt8) = 115) || decide (s.N < 2))))
    generalize decide (0 ≤ s.N) = b1
    generalize decide (s.N ≤ 999999999) = b2
    generalize decide (s.N < 2) = b3
    cases b <;> cases b1 <;> cases b2 <;> cases b3 <;> rfl
  · simp only [bndD, lt_at hF, bif_tt, bif_ff, gix_at hF, bnoS, w_at hF (show F.length ≤ 1000000 by omega), show decide (((109 : UInt8).toNat : Int) = 115) = false from rfl, show decide (((109 : UInt8).toNat : Int) = 105) = false from rfl, show decide (((109 : UInt8).toNat : Int) = 110) = false from rfl, show decide (((109 : UInt8).toNat : Int) = 109) = true from rfl, gdSome]
    show console_bare_L0 x F f _ _ s.Side s.ID s.N 0 s.Path s.Text s.Flag = console_bare_L0 x F f _ _ s.Side s.ID s.N 0 s.Path s.Text s.Flag
    congr 1
    show _ = (b && (decide (0 ≤ s.M) && decide (s.M ≤ 999999999) && (!decide ((109 : UInt8) = 115) || decide (s.M < 2))))
    generalize decide (0 ≤ s.M) = b1
    generalize decide (s.M ≤ 999999999) = b2
    generalize decide (s.M < 2) = b3
    cases b <;> cases b1 <;> cases b2 <;> cases b3 <;> rfl
  · simp only [bndD, lt_at hF, bif_tt, bif_ff, gix_at hF, bnoS, w_at hF (show F.length ≤ 1000000 by omega), show decide (((112 : UInt8).toNat : Int) = 115) = false from rfl, show decide (((112 : UInt8).toNat : Int) = 105) = false from rfl, show decide (((112 : UInt8).toNat : Int) = 110) = false from rfl, show decide (((112 : UInt8).toNat : Int) = 109) = false from rfl, show decide (((112 : UInt8).toNat : Int) = 112) = true from rfl, gdSome]
    show console_bare_L0 x F f _ _ s.Side s.ID s.N s.M 0 s.Text s.Flag = console_bare_L0 x F f _ _ s.Side s.ID s.N s.M 0 s.Text s.Flag
    congr 1
    show _ = (b && (decide (0 ≤ s.Path) && decide (s.Path ≤ 999999999) && (!decide ((112 : UInt8) = 115) || decide (s.Path < 2))))
    generalize decide (0 ≤ s.Path) = b1
    generalize decide (s.Path ≤ 999999999) = b2
    generalize decide (s.Path < 2) = b3
    cases b <;> cases b1 <;> cases b2 <;> cases b3 <;> rfl
  · simp only [bndD, lt_at hF, bif_tt, bif_ff, gix_at hF, bnoS, w_at hF (show F.length ≤ 1000000 by omega), show decide (((116 : UInt8).toNat : Int) = 115) = false from rfl, show decide (((116 : UInt8).toNat : Int) = 105) = false from rfl, show decide (((116 : UInt8).toNat : Int) = 110) = false from rfl, show decide (((116 : UInt8).toNat : Int) = 109) = false from rfl, show decide (((116 : UInt8).toNat : Int) = 112) = false from rfl, show decide (((116 : UInt8).toNat : Int) = 116) = true from rfl]
    rw [show okNb 116 (getF s 116).1 = true from rfl, Bool.and_true]
    rfl
  · simp only [bndD, lt_at hF, bif_tt, bif_ff, gix_at hF, bnoS, w_at hF (show F.length ≤ 1000000 by omega), show decide (((102 : UInt8).toNat : Int) = 115) = false from rfl, show decide (((102 : UInt8).toNat : Int) = 105) = false from rfl, show decide (((102 : UInt8).toNat : Int) = 110) = false from rfl, show decide (((102 : UInt8).toNat : Int) = 109) = false from rfl, show decide (((102 : UInt8).toNat : Int) = 112) = false from rfl, show decide (((102 : UInt8).toNat : Int) = 116) = false from rfl]
    rw [show okNb 102 (getF s 102).1 = true from rfl, Bool.and_true]
    rfl
theorem bareB_L {x : S33} {F : List UInt8} (hl : F.length ≤ 1000) (hc : ∀ c ∈ F, fieldC c) (r : List UInt8) : ∀ (p : List UInt8) (s : S33) (b : Bool) (f : Nat), F = p ++ r → r.Nodup → r.length < f → s.Kind = x.Kind → bareB x F f b (p.length : Int) s = some (r.foldl clrF s, b && r.all (fun c => okNb c (getF s c).1)) := by
  induction r with
  | nil =>
    intro p s b f h _ hf hk
    obtain ⟨f, rfl⟩ : ∃ g, f = g + 1 := ⟨f - 1, by simp at hf; omega⟩
    rw [List.append_nil] at h
    unfold bareB
    rw [console_bare_L0]
    simp only [bndD, h, lt_len, bif_ff, ← hk, List.all_nil, Bool.and_true]
    rfl
  | cons c r ih =>
    intro p s b f h hn hf hk
    obtain ⟨f, rfl⟩ : ∃ g, f = g + 1 := ⟨f - 1, by simp at hf; omega⟩
    have hcm : c ∈ F := by rw [h]; simp
    have hn := List.nodup_cons.1 hn
    obtain ⟨k1, _, k3⟩ := clr_get (hc c hcm) s
    rw [bareB_step h hl (hc c hcm), ih (p ++ [c]) (clrF s c) _ f (next_at h) hn.2 (by simpa using hf) (k1.trans hk)]
    rw [List.all_cons, Bool.and_assoc]
    refine congrArg (fun q => some (List.foldl clrF s (c :: r), b && (okNb c (getF s c).1 && q))) (Bool.eq_iff_iff.2 ?_)
    rw [List.all_eq_true, List.all_eq_true]
    have he : ∀ d ∈ r, getF (clrF s c) d = getF s d := fun d hd => k3 d (hc d (by rw [h]; simp [hd])) (fun e => hn.1 (e ▸ hd))
    exact ⟨fun h d hd => by rw [← he d hd]; exact h d hd, fun h d hd => by rw [he d hd]; exact h d hd⟩
/-- What a step is printed as. -/
def printV (x : S33) : List UInt8 × Int :=
  if 16 ≤ x.Kind then ([], 12)
  else if okB (hasK x.Kind.toNat) x = true then (if 300 < x.Text.length then ([], 5) else (joinL 32 ((formK x.Kind.toNat).name :: (hasK x.Kind.toNat).map (shewn x)), 0))
  else ([], 2)
theorem shewn_len {x : S33} {c : UInt8} (ht : x.Text.length ≤ 300) : (shewn x c).length ≤ 700 := by
  unfold shewn shewF
  by_cases h1 : c = 116
  · subst h1
    rw [if_pos rfl]
    show (hexS x.Text).length ≤ 700
    unfold hexS
    split
    · simp
    · rw [hexL_len]; omega
  · rw [if_neg h1]
    split
    · unfold markS; cases (getF x c).2.2 <;> simp
    · have := itoaF_len (getF x c).1; omega
theorem join_len (c : UInt8) (m : Nat) : ∀ ws : List (List UInt8), (∀ w ∈ ws, w.length ≤ m) → (joinL c ws).length ≤ ws.length * (m + 1)
  | [], _ => by simp [joinL]
  | [w], h => by have := h w (by simp); simp [joinL]; omega
  | w :: v :: ws, h => by
    have h1 := h w (by simp)
    have h2 := join_len c m (v :: ws) (fun x hx => h x (by simp [hx]))
    rw [joinL_cons (by simp), List.length_append, List.length_cons]
    simp only [List.length_cons, Nat.add_mul, Nat.one_mul] at h2 ⊢
    omega
theorem name_rt : ((List.range 16).all fun k => decide ((formK k).name.length ≤ 6) && decide ((formK k).name ≠ []) && decide ((formK k).name.head? ≠ some 35) && (formK k).name.all (fun b => decide (43 ≤ b.toNat)) && decide (kx (formK k).name = k) && decide (sennitref33_Name (k : Int) = some (formK k).name)) = true := by kernel_rfl
theorem name_of {k : Nat} (hk : k < 16) : (formK k).name.length ≤ 6 ∧ (formK k).name ≠ [] ∧ (formK k).name.head? ≠ some 35 ∧ (∀ b ∈ (formK k).name, 43 ≤ b.toNat) ∧ kx (formK k).name = k ∧ sennitref33_Name (k : Int) = some (formK k).name := by
  have h := List.all_eq_true.1 name_rt k (List.mem_range.2 hk)
  simp only [Bool.and_eq_true, decide_eq_true_iff, List.all_eq_true] at h
  obtain ⟨⟨⟨⟨⟨h1, h2⟩, h3⟩, h4⟩, h5⟩, h6⟩ := h
  exact ⟨h1, h2, h3, h4, h5, h6⟩
theorem words_len {x : S33} {k : Nat} (hk : k < 16) (ht : x.Text.length ≤ 300) : (joinL 32 ((formK k).name :: (hasK k).map (shewn x))).length ≤ 4206 := by
  obtain ⟨_, _, f3, _, _, _⟩ := fields_at hk
  have h1 := (name_of hk).1
  have := join_len 32 700 ((formK k).name :: (hasK k).map (shewn x)) (fun w hw => by
    rcases List.mem_cons.1 hw with rfl | hw
    · omega
    · obtain ⟨c, _, rfl⟩ := List.mem_map.1 hw
      exact shewn_len ht)
  have h2 : ((formK k).name :: (hasK k).map (shewn x)).length ≤ 6 := by simp; omega
  have : ((formK k).name :: (hasK k).map (shewn x)).length * (700 + 1) ≤ 6 * 701 := Nat.mul_le_mul_right _ h2
  omega
theorem kind_nat {n : Int} (h0 : 0 ≤ n) (h1 : n < 16) : ∃ k : Nat, k < 16 ∧ n = (k : Int) := ⟨n.toNat, by omega, by omega⟩
theorem zero_ext {y : S33} (h : ∀ d, fieldC d → getF y d = zF) : y = ⟨y.Kind, 0, 0, 0, 0, 0, [], false⟩ := by
  have g1 : y.Side = 0 := congrArg (·.1) (h 115 (by decide))
  have g2 : y.ID = 0 := congrArg (·.1) (h 105 (by decide))
  have g3 : y.N = 0 := congrArg (·.1) (h 110 (by decide))
  have g4 : y.M = 0 := congrArg (·.1) (h 109 (by decide))
  have g5 : y.Path = 0 := congrArg (·.1) (h 112 (by decide))
  have g6 : y.Text = [] := congrArg (·.2.1) (h 116 (by decide))
  have g7 : y.Flag = false := congrArg (·.2.2) (h 102 (by decide))
  obtain ⟨a, b, c, d, e, f, g, i⟩ := y
  simp only at g1 g2 g3 g4 g5 g6 g7
  subst g1 g2 g3 g4 g5 g6 g7
  rfl
theorem prints33 {x : S33} (hk0 : 0 ≤ x.Kind) (hk1 : x.Kind ≤ 255) (ht : x.Text.length ≤ 100000) : console_Print x = some (printV x) := by
  by_cases hk : 16 ≤ x.Kind
  · unfold console_Print printV
    rw [forms_is, bnoS, bndD, w64 (by omega) (by omega), forms_len, bndD, decide_eq_true (by omega), bif_tt, if_pos hk]
  · obtain ⟨k, hk16, hkx⟩ := kind_nat hk0 (by omega)
    obtain ⟨_, f2, f3, f4, f5, f6⟩ := fields_at hk16
    have hkn : x.Kind.toNat = k := by omega
    unfold printV
    rw [if_neg hk, hkn]
    by_cases hok : okB (hasK k) x = true
    · rw [if_pos hok]
      obtain ⟨ho, hz⟩ := okB_is.1 hok
      by_cases ht3 : x.Text.length ≤ 300
      · rw [if_neg (by omega), print33 hk16 hkx ho hz ht3, join33 (by simp; omega) (by have := words_len hk16 ht3; omega)]; rfl
      · rw [if_pos (by omega)]
        unfold console_Print
        have hh : (formK k).has = hasK k := rfl
        rw [forms_is, bnoS, bndD, hkx, w64 (by omega) (by omega), forms_len, bndD, decide_eq_false (by omega), bif_ff, f2, bnoS, hh, bare33 (by omega) f4 ho, bnoS]
        obtain ⟨c1, c2⟩ := clrs_get (hasK k) x f4
        have hg : ∀ d, fieldC d → getF ((hasK k).foldl clrF x) d = zF := fun d hd => c2 d hd (by
          by_cases h : d ∈ hasK k
          · exact .inl h
          · exact .inr (hz d hd h))
        rw [zero_ext hg, c1]
        simp only [Bool.not_true, bif_ff, bndD, hkx, decide_true, beq_self_eq_true, Bool.and_self]
        unfold console_Print_J0
        rw [bif_ff, bndD, decide_eq_true (by omega), bif_tt]
    · rw [if_neg hok]
      unfold console_Print
      have hh : (formK k).has = hasK k := rfl
      have hb := bareB_L (x := x) (F := hasK k) (by omega) f4 (hasK k) [] x true fuel rfl f6 (fuel_gt (by omega)) rfl
      have hb : console_bare x (hasK k) = _ := hb
      rw [forms_is, bnoS, bndD, hkx, w64 (by omega) (by omega), forms_len, bndD, decide_eq_false (by omega), bif_ff, f2, bnoS, hh, hb, bnoS]
      simp only [Bool.true_and]
      by_cases ha : (hasK k).all (fun c => okNb c (getF x c).1) = true
      · rw [ha, Bool.not_true, bif_ff, bndD]
        obtain ⟨c1, c2⟩ := clrs_get (hasK k) x f4
        have hnz : ¬ ∀ d, fieldC d → getF ((hasK k).foldl clrF x) d = zF := fun hg => hok (by
          unfold okB
          rw [ha, Bool.true_and, List.all_eq_true]
          intro c hc
          rw [Bool.or_eq_true, decide_eq_true_iff]
          by_cases hm : c ∈ hasK k
          · exact .inl (by simpa using hm)
          · right
            rw [← hg c (all7_is.1 hc)]
            clear c1 c2 hg hb hok ha
            have : ∀ (l : List UInt8) (s : S33), (∀ d ∈ l, fieldC d) → c ∉ l → getF (l.foldl clrF s) c = getF s c := by
              intro l
              induction l with
              | nil => intro s _ _; rfl
              | cons d l ih =>
                intro s h1 h2
                rw [List.foldl_cons, ih (clrF s d) (fun e he => h1 e (by simp [he])) (fun e => h2 (by simp [e]))]
                exact (clr_get (h1 d (by simp)) s).2.2 c (all7_is.1 hc) (fun e => h2 (by simp [e]))
            exact (this (hasK k) x f4 hm).symm)
        generalize (hasK k).foldl clrF x = y at hnz
        have hf : (decide (y.Kind = (k : Int)) && (decide (y.Side = 0) && (decide (y.ID = 0) && (decide (y.N = 0) && (decide (y.M = 0) && (decide (y.Path = 0) && (decide (y.Text = ([] : List UInt8)) && ((y.Flag == false) && true)))))))) = false := by
          rw [← Bool.not_eq_true]
          intro h
          simp only [Bool.and_eq_true, decide_eq_true_iff, beq_iff_eq] at h
          obtain ⟨_, g1, g2, g3, g4, g5, g6, g7, _⟩ := h
          refine hnz ?_
          rintro d (rfl | rfl | rfl | rfl | rfl | rfl | rfl)
          · show (y.Side, _, _) = zF; rw [g1]; rfl
          · show (y.ID, _, _) = zF; rw [g2]; rfl
          · show (y.N, _, _) = zF; rw [g3]; rfl
          · show (y.M, _, _) = zF; rw [g4]; rfl
          · show (y.Path, _, _) = zF; rw [g5]; rfl
          · show ((0 : Int), y.Text, _) = zF; rw [g6]; rfl
          · show ((0 : Int), ([] : List UInt8), y.Flag) = zF; rw [g7]; rfl
        rw [hf]; rfl
      · rw [Bool.not_eq_true] at ha
        rw [ha]; rfl
/-! The document's way. -/
theorem join_flat (c : UInt8) : ∀ (w : List UInt8) (ws : List (List UInt8)), joinL c (w :: ws) = w ++ ws.flatMap (fun v => c :: v)
  | w, [] => by simp [joinL]
  | w, v :: ws => by rw [joinL_cons (by simp), join_flat c v ws]; simp
end Go.Fn
set_option linter.unusedSimpArgs false
set_option linter.unusedVariables false
open Go Go.IL
namespace Go.Fn
/-! Console: all lines; what is told; ConsolePrints. -/
def linesV : List S33 → List UInt8 → List UInt8 × Int
  | [], acc => (acc, 0)
  | x :: l, acc => if (printV x).2 = 0 then linesV l (acc ++ ((printV x).1 ++ [10])) else ([], (printV x).2)
def fineS (x : S33) : Prop := (0 ≤ x.Kind ∧ x.Kind ≤ 255) ∧ x.Text.length ≤ 100000
theorem printV_len {x : S33} (h0 : 0 ≤ x.Kind) : (printV x).1.length ≤ 4206 := by
  unfold printV
  by_cases h : 16 ≤ x.Kind
  · rw [if_pos h]; simp
  · rw [if_neg h]
    split
    · split
      · simp
      · exact words_len (by omega) (by omega)
    · simp
theorem lines_L {l : List S33} (hl : l.length ≤ 1000) (hx : ∀ x ∈ l, fineS x) (r : List S33) : ∀ (p : List S33) (acc : List UInt8) (f : Nat), l = p ++ r → r.length < f → acc ≠ [] → acc.length ≤ p.length * 5000 → console_Lines_L0 l f (p.length : Int) acc = some (linesV r acc) := by
  induction r with
  | nil =>
    intro p acc f h hf h0 ha
    obtain ⟨f, rfl⟩ : ∃ g, f = g + 1 := ⟨f - 1, by simp at hf; omega⟩
    rw [List.append_nil] at h
    have hp : p.length * 5000 ≤ 1000 * 5000 := Nat.mul_le_mul_right _ (by rw [← h]; exact hl)
    rw [console_Lines_L0]
    rw [bndD, h, lt_len, bif_ff]
    rw [chk, if_pos (by rw [Ne, List.length_eq_zero_iff]; exact h0), chk, if_pos (by omega)]; rfl
  | cons x r ih =>
    intro p acc f h hf h0 ha
    obtain ⟨f, rfl⟩ : ∃ g, f = g + 1 := ⟨f - 1, by simp at hf; omega⟩
    obtain ⟨⟨k0, k1⟩, k2⟩ := hx x (by rw [h]; simp)
    have hpl : p.length + 1 ≤ 1000 := by rw [h] at hl; simp at hl; omega
    have hlen := printV_len k0
    rw [console_Lines_L0]
    rw [bndD, lt_at h, bif_tt, gix_at h, bnoS, prints33 k0 k1 k2, bnoS, bndD]
    show _ = some (if (printV x).2 = 0 then _ else _)
    by_cases h2 : (printV x).2 = 0
    · rw [decide_eq_true h2, Bool.not_true, bif_ff, if_pos h2, cat_ok (by simp; omega), bnoS, app_ok (by simp; omega) (by simp; omega), bnoS, bndD, w_at h (by omega)]
      exact ih (p ++ [x]) _ f (next_at h) (by simpa using hf) (by simp) (by simp; omega)
    · rw [decide_eq_false h2, Bool.not_false, bif_tt, if_neg h2]
theorem lines33 {l : List S33} (hl : l.length ≤ 1000) (hx : ∀ x ∈ l, fineS x) : console_Lines l = some (linesV l []) := by
  unfold console_Lines
  rw [bndD]
  cases l with
  | nil => rfl
  | cons x l =>
    obtain ⟨⟨k0, k1⟩, k2⟩ := hx x (by simp)
    have hlen := printV_len k0
    rw [decide_eq_true (show (0 : Int) < ((x :: l).length : Int) by rw [List.length_cons]; omega), bif_tt, show gix (x :: l) 0 = some x from rfl, bnoS, prints33 k0 k1 k2, bnoS, bndD]
    show _ = some (if (printV x).2 = 0 then _ else _)
    by_cases h2 : (printV x).2 = 0
    · rw [decide_eq_true h2, Bool.not_true, bif_ff, if_pos h2, cat_ok (by simp; omega), bnoS, app_ok (by simp; omega) (by simp; omega), bnoS, bndD, show IntKind.wrap .i64 (0 + 1) = (([x] : List S33).length : Int) from rfl]
      have hl' : l.length ≤ 1000 := by simp at hl; omega
      exact lines_L hl hx l [x] _ fuel rfl (fuel_gt (by omega)) (by simp) (by simp; omega)
    · rw [decide_eq_false h2, Bool.not_false, bif_tt, if_neg h2]
/-! What is told. -/
/-! ConsolePrints. -/
end Go.Fn
set_option linter.unusedSimpArgs false
set_option linter.unusedVariables false
open Go Go.IL
namespace Go.Fn
/-! Console: what is printed is read as it was; ConsoleBack. -/
theorem split_join {c : UInt8} {ws : List (List UInt8)} (h0 : ws ≠ []) (hc : ∀ w ∈ ws, c ∉ w) (hl : (joinL c ws).length ≤ 900000) : splitL c (joinL c ws) = ws := by
  have h1 := split35 h0 hc hl
  rw [splitA hl] at h1
  exact Option.some.inj h1
/-! Words back. -/
theorem num_itoa {n : Int} (h0 : 0 ≤ n) (h1 : n ≤ 999999999) : numV (itoaF n) = some n.toNat := by
  have h8 : n.toNat < 10 ^ (8 + 1) := by
    have : (10 : Nat) ^ (8 + 1) = 1000000000 := by decide
    omega
  have he := itoaF_of h0 8 h8 (by decide)
  have hv := decF_val 8 n.toNat h8
  have hd := decF_dig 8 n.toNat h8
  have hl := decF_len 8 n.toNat
  have hne := decF_ne 8 n.toNat
  unfold numV
  have hB : numB (itoaF n) = true := by
    unfold numB
    rw [he, decide_eq_false hne, decide_eq_true (show (decF 8 n.toNat).length ≤ 9 by omega), Bool.not_false, Bool.true_and, Bool.true_and, Bool.and_eq_true]
    refine ⟨?_, List.all_eq_true.2 fun b hb => digB_is.2 (hd b hb)⟩
    rw [Bool.not_eq_true', Bool.and_eq_false_iff, decide_eq_false_iff_not, decide_eq_false_iff_not]
    by_cases hn : n.toNat = 0
    · left
      rw [hn, decF_one (by decide)]; simp
    · right
      exact decF_head 8 n.toNat (by omega) h8
  rw [hB, cond_true, he, hv]
theorem hexv_all : ((List.range 16).all fun d => decide (hexV (hexc d) = some d) && decide (43 ≤ (hexc d).toNat)) = true := by kernel_rfl
theorem hexv_at {d : Nat} (h : d < 16) : hexV (hexc d) = some d ∧ 43 ≤ (hexc d).toNat := by
  have := List.all_eq_true.1 hexv_all d (List.mem_range.2 h)
  rwa [Bool.and_eq_true, decide_eq_true_iff, decide_eq_true_iff] at this
theorem hex_back : ∀ t : List UInt8, unhexV (hexL t) = some t
  | [] => rfl
  | b :: t => by
    have ih := hex_back t
    have hb := u8_lt b
    have e : hexL (b :: t) = hexc (b.toNat / 16) :: hexc (b.toNat % 16) :: hexL t := by unfold hexL; rw [List.flatMap_cons]; rfl
    rw [e, unhex_cons, (hexv_at (show b.toNat / 16 < 16 by omega)).1, (hexv_at (show b.toNat % 16 < 16 by omega)).1, ih]
    show some (UInt8.ofNat (16 * (b.toNat / 16) + b.toNat % 16) :: t) = _
    rw [show 16 * (b.toNat / 16) + b.toNat % 16 = b.toNat by omega]
    rw [UInt8.ofNat_toNat]
theorem text_hex (t : List UInt8) : textV (hexS t) = some t := by
  unfold textV hexS
  by_cases h : t = []
  · rw [if_pos h, if_pos rfl, h]
  · rw [if_neg h]
    have hl := hexL_len t
    have h0 : 0 < t.length := List.length_pos_iff.2 h
    rw [if_neg (fun e => by rw [e] at hl; simp at hl; omega), if_neg (fun e => by
      rcases e with e | e
      · rw [e] at hl; simp at hl; omega
      · omega), hex_back t]
theorem shewn_byte {x : S33} {c : UInt8} (hc : fieldC c) (ho : okN c (getF x c).1) : ∀ b ∈ shewn x c, 43 ≤ b.toNat := by
  have hnum : ∀ n : Int, 0 ≤ n → n ≤ 999999999 → ∀ b ∈ itoaF n, 43 ≤ b.toNat := fun n h0 h1 b hb => by
    have := (itoaF_dig h0 (by omega) b hb).1; omega
  rcases hc with rfl | rfl | rfl | rfl | rfl | rfl | rfl
  · exact hnum x.Side ho.1 ho.2.1
  · exact hnum x.ID ho.1 ho.2.1
  · exact hnum x.N ho.1 ho.2.1
  · exact hnum x.M ho.1 ho.2.1
  · exact hnum x.Path ho.1 ho.2.1
  · intro b hb
    have hb : b ∈ hexS x.Text := hb
    unfold hexS at hb
    split at hb
    · rw [List.mem_singleton.1 hb]; decide
    · unfold hexL at hb
      obtain ⟨a, _, hb⟩ := List.mem_flatMap.1 hb
      have ha := u8_lt a
      simp only [List.mem_cons, List.not_mem_nil, or_false] at hb
      rcases hb with rfl | rfl
      · exact (hexv_at (by omega)).2
      · exact (hexv_at (by omega)).2
  · intro b hb
    have hb : b ∈ markS x.Flag := hb
    revert hb
    cases x.Flag
    · intro hb
      have hb : b ∈ ([45] : List UInt8) := hb
      rw [List.mem_singleton.1 hb]; decide
    · intro hb
      have hb : b ∈ ([43] : List UInt8) := hb
      rw [List.mem_singleton.1 hb]; decide
/-- What is shown of a field is put back. -/
theorem put_back {x s : S33} {c : UInt8} (hc : fieldC c) (ho : okN c (getF x c).1) : ∃ s', putV s c (shewn x c) = some s' ∧ s'.Kind = s.Kind ∧ getF s' c = getF x c ∧ ∀ d, fieldC d → d ≠ c → getF s' d = getF s d := by
  have hput : ∃ s', putV s c (shewn x c) = some s' ∧ getF s' c = getF x c := by
    have nat : ∀ n : Int, 0 ≤ n → ((n.toNat : Nat) : Int) = n := fun n h => by omega
    rcases hc with rfl | rfl | rfl | rfl | rfl | rfl | rfl
    · have ho : okN 115 x.Side := ho
      refine ⟨⟨s.Kind, x.Side, s.ID, s.N, s.M, s.Path, s.Text, s.Flag⟩, ?_, rfl⟩
      have h2 := ho.2.2 rfl
      have h0 := ho.1
      show (match numV (itoaF x.Side) with | none => none | some n => if n < 2 then some (⟨s.Kind, (n : Int), s.ID, s.N, s.M, s.Path, s.Text, s.Flag⟩ : S33) else none) = _
      rw [num_itoa ho.1 ho.2.1]
      show (if x.Side.toNat < 2 then _ else _) = _
      rw [if_pos (by omega), nat _ ho.1]
    · have ho : okN 105 x.ID := ho
      refine ⟨⟨s.Kind, s.Side, x.ID, s.N, s.M, s.Path, s.Text, s.Flag⟩, ?_, rfl⟩
      show (match numV (itoaF x.ID) with | none => none | some n => some (⟨s.Kind, s.Side, (n : Int), s.N, s.M, s.Path, s.Text, s.Flag⟩ : S33)) = _
      rw [num_itoa ho.1 ho.2.1]
      show some _ = some _
      rw [nat _ ho.1]
    · have ho : okN 110 x.N := ho
      refine ⟨⟨s.Kind, s.Side, s.ID, x.N, s.M, s.Path, s.Text, s.Flag⟩, ?_, rfl⟩
      show (match numV (itoaF x.N) with | none => none | some n => some (⟨s.Kind, s.Side, s.ID, (n : Int), s.M, s.Path, s.Text, s.Flag⟩ : S33)) = _
      rw [num_itoa ho.1 ho.2.1]
      show some _ = some _
      rw [nat _ ho.1]
    · have ho : okN 109 x.M := ho
      refine ⟨⟨s.Kind, s.Side, s.ID, s.N, x.M, s.Path, s.Text, s.Flag⟩, ?_, rfl⟩
      show (match numV (itoaF x.M) with | none => none | some n => some (⟨s.Kind, s.Side, s.ID, s.N, (n : Int), s.Path, s.Text, s.Flag⟩ : S33)) = _
      rw [num_itoa ho.1 ho.2.1]
      show some _ = some _
      rw [nat _ ho.1]
    · have ho : okN 112 x.Path := ho
      refine ⟨⟨s.Kind, s.Side, s.ID, s.N, s.M, x.Path, s.Text, s.Flag⟩, ?_, rfl⟩
      show (match numV (itoaF x.Path) with | none => none | some n => some (⟨s.Kind, s.Side, s.ID, s.N, s.M, (n : Int), s.Text, s.Flag⟩ : S33)) = _
      rw [num_itoa ho.1 ho.2.1]
      show some _ = some _
      rw [nat _ ho.1]
    · refine ⟨⟨s.Kind, s.Side, s.ID, s.N, s.M, s.Path, x.Text, s.Flag⟩, ?_, rfl⟩
      show (textV (hexS x.Text)).map _ = _
      rw [text_hex]; rfl
    · refine ⟨⟨s.Kind, s.Side, s.ID, s.N, s.M, s.Path, s.Text, x.Flag⟩, ?_, rfl⟩
      show (if markS x.Flag = [43] ∨ markS x.Flag = [45] then some (⟨s.Kind, s.Side, s.ID, s.N, s.M, s.Path, s.Text, decide (markS x.Flag = [43])⟩ : S33) else none) = _
      cases x.Flag <;> rfl
  obtain ⟨s', h1, h2⟩ := hput
  obtain ⟨g1, g2, _⟩ := put_get hc h1
  exact ⟨s', h1, g1, h2, g2⟩
theorem par_back (x : S33) (cs : List UInt8) : ∀ (s : S33), cs.Nodup → (∀ c ∈ cs, fieldC c) → (∀ c ∈ cs, okN c (getF x c).1) → ∃ y, parF cs (cs.map (shewn x)) s = some y ∧ y.Kind = s.Kind ∧ ∀ d, fieldC d → getF y d = if d ∈ cs then getF x d else getF s d := by
  induction cs with
  | nil => intro s _ _ _; exact ⟨s, rfl, rfl, fun d _ => by simp⟩
  | cons c cs ih =>
    intro s hn hc ho
    obtain ⟨s', h1, h2, h3, h4⟩ := put_back (s := s) (hc c (by simp)) (ho c (by simp))
    have hn := List.nodup_cons.1 hn
    obtain ⟨y, y1, y2, y3⟩ := ih s' hn.2 (fun d hd => hc d (by simp [hd])) (fun d hd => ho d (by simp [hd]))
    refine ⟨y, ?_, y2.trans h2, fun d hd => ?_⟩
    · show (putV s c (shewn x c)).bind (parF cs (cs.map (shewn x))) = some y
      rw [h1]; exact y1
    · rw [y3 d hd]
      by_cases hdc : d = c
      · subst hdc
        rw [if_neg hn.1, if_pos (by simp), h3]
      · rw [h4 d hd hdc]
        by_cases hm : d ∈ cs
        · rw [if_pos hm, if_pos (by simp [hm])]
        · rw [if_neg hm, if_neg (by simp [hm, hdc])]
theorem getF_ext {x y : S33} (hk : x.Kind = y.Kind) (h : ∀ d, fieldC d → getF x d = getF y d) : x = y := by
  have g1 : x.Side = y.Side := congrArg (·.1) (h 115 (by decide))
  have g2 : x.ID = y.ID := congrArg (·.1) (h 105 (by decide))
  have g3 : x.N = y.N := congrArg (·.1) (h 110 (by decide))
  have g4 : x.M = y.M := congrArg (·.1) (h 109 (by decide))
  have g5 : x.Path = y.Path := congrArg (·.1) (h 112 (by decide))
  have g6 : x.Text = y.Text := congrArg (·.2.1) (h 116 (by decide))
  have g7 : x.Flag = y.Flag := congrArg (·.2.2) (h 102 (by decide))
  obtain ⟨a, b, c, d, e, f, g, i⟩ := x
  obtain ⟨a', b', c', d', e', f', g', i'⟩ := y
  simp only at hk g1 g2 g3 g4 g5 g6 g7
  subst hk g1 g2 g3 g4 g5 g6 g7
  rfl
/-- What is printed is one line, and read as it was. -/
theorem parse_print {x : S33} (h0 : 0 ≤ x.Kind) (h : (printV x).2 = 0) : parseS (printV x).1 = (x, 0) ∧ (10 : UInt8) ∉ (printV x).1 ∧ (printV x).1 ≠ [] := by
  by_cases hk : 16 ≤ x.Kind
  · unfold printV at h; rw [if_pos hk] at h; cases h
  · obtain ⟨k, hk16, hkx⟩ := kind_nat h0 (by omega)
    have hkn : x.Kind.toNat = k := by omega
    obtain ⟨f1, f2, f3, f4, f5, f6⟩ := fields_at hk16
    obtain ⟨n1, n2, n3, n4, n5, n6⟩ := name_of hk16
    unfold printV at h ⊢
    rw [if_neg hk, hkn] at h ⊢
    by_cases hok : okB (hasK k) x = true
    · rw [if_pos hok] at h ⊢
      by_cases ht : 300 < x.Text.length
      · rw [if_pos ht] at h; cases h
      · rw [if_neg ht] at h ⊢
        obtain ⟨o1, o2⟩ := okB_is.1 hok
        have hlen := words_len (x := x) hk16 (by omega)
        have hby : ∀ w ∈ (formK k).name :: (hasK k).map (shewn x), ∀ b ∈ w, 43 ≤ b.toNat := fun w hw => by
          rcases List.mem_cons.1 hw with rfl | hw
          · exact n4
          · obtain ⟨c, hc, rfl⟩ := List.mem_map.1 hw
            exact shewn_byte (f4 c hc) (o1 c hc)
        have hsp := split_join (c := 32) (ws := (formK k).name :: (hasK k).map (shewn x)) (by simp) (fun w hw hm => by have := hby w hw 32 hm; revert this; decide) (by omega)
        have hjf := join_flat 32 (formK k).name ((hasK k).map (shewn x))
        have hne : joinL 32 ((formK k).name :: (hasK k).map (shewn x)) ≠ [] := by rw [hjf]; simp [n2]
        refine ⟨?_, ?_, hne⟩
        · show parseS (joinL 32 ((formK k).name :: (hasK k).map (shewn x))) = (x, 0)
          unfold parseS
          have hh : (joinL 32 ((formK k).name :: (hasK k).map (shewn x))).head? ≠ some 35 := by
            rw [hjf]
            cases hn : (formK k).name with
            | nil => exact absurd hn n2
            | cons b u => rw [hn] at n3; exact n3
          rw [if_neg (fun h => h.elim hne hh), hsp]
          show (if kx (formK k).name = 16 then (S0, (12 : Int)) else if ((formK k).name :: (hasK k).map (shewn x)).length ≠ (hasK (kx (formK k).name)).length + 1 then (S0, 60) else fin33 (parF (hasK (kx (formK k).name)) ((hasK k).map (shewn x)) ⟨(kx (formK k).name : Int), 0, 0, 0, 0, 0, [], false⟩)) = (x, 0)
          rw [n5, if_neg (by omega), if_neg (by simp)]
          obtain ⟨y, y1, y2, y3⟩ := par_back x (hasK k) ⟨(k : Int), 0, 0, 0, 0, 0, [], false⟩ f6 f4 o1
          rw [y1]
          have hyx : y = x := getF_ext (y2.trans hkx.symm) (fun d hd => by
            rw [y3 d hd]
            by_cases hm : d ∈ hasK k
            · rw [if_pos hm]
            · rw [if_neg hm, o2 d hd hm]
              rcases hd with rfl | rfl | rfl | rfl | rfl | rfl | rfl <;> rfl)
          rw [hyx]
          unfold fin33
          simp only [if_neg ht]
        · show (10 : UInt8) ∉ joinL 32 ((formK k).name :: (hasK k).map (shewn x))
          rw [hjf]
          intro hm
          rcases List.mem_append.1 hm with hm | hm
          · have := n4 10 hm; revert this; decide
          · obtain ⟨w, hw, hm⟩ := List.mem_flatMap.1 hm
            rcases List.mem_cons.1 hm with hm | hm
            · revert hm; decide
            · have := hby w (by simp [List.mem_map.1 hw]) 10 hm; revert this; decide
    · rw [if_neg hok] at h; cases h
theorem print_empty {x : S33} (h : (printV x).2 ≠ 0) : (printV x).1 = [] := by
  unfold printV at h ⊢
  split
  · rfl
  · rename_i hk
    rw [if_neg hk] at h
    split
    · rename_i ho
      rw [if_pos ho] at h
      split
      · rfl
      · rename_i ht
        rw [if_neg ht] at h
        exact absurd rfl h
    · rfl
/-! All lines at once. -/
def goodS (x : S33) : Prop := (0 ≤ x.Kind ∧ x.Kind ≤ 255) ∧ x.Text.length ≤ 400 ∧ (printV x).2 = 0
theorem linesV_good : ∀ (l : List S33) (acc : List UInt8), (∀ x ∈ l, goodS x) → linesV l acc = (acc ++ joinL 10 (l.map (fun x => (printV x).1) ++ [[]]), 0)
  | [], acc, _ => by simp [linesV, joinL]
  | x :: l, acc, h => by
    show (if (printV x).2 = 0 then linesV l (acc ++ ((printV x).1 ++ [10])) else ([], (printV x).2)) = _
    rw [if_pos (h x (by simp)).2.2, linesV_good l _ (fun y hy => h y (by simp [hy])), List.map_cons, List.cons_append, joinL_cons (by simp)]
    simp
theorem linesL_good : ∀ (ws : List (List UInt8)), linesL (ws ++ [[]]) = ws
  | [] => rfl
  | w :: ws => by rw [List.cons_append, lines_cons (by simp), linesL_good ws]
theorem script_good : ∀ (l : List S33) (acc : List S33) (n : Nat), (∀ x ∈ l, goodS x) → scriptL (l.map (fun x => (printV x).1)) acc n = (acc ++ l, 0, 0)
  | [], acc, n, _ => by simp [scriptL]
  | x :: l, acc, n, h => by
    have hp := (parse_print (h x (by simp)).1.1 (h x (by simp)).2.2).1
    show (if (parseS (printV x).1).2 = 0 then scriptL (l.map (fun x => (printV x).1)) (acc ++ [(parseS (printV x).1).1]) (n + 1) else _) = _
    rw [hp, if_pos rfl, script_good l _ (n + 1) (fun y hy => h y (by simp [hy]))]
    simp
theorem back_end {v : List S33} (hl : v.length ≤ 20) (h : ∀ x ∈ v, goodS x) : ∃ t, console_Lines v = some (t, 0) ∧ console_Script t = some (v, 0, 0) := by
  have h1 := lines33 (l := v) (by omega) (fun x hx => ⟨(h x hx).1, by have := (h x hx).2.1; omega⟩)
  rw [linesV_good v [] h] at h1
  refine ⟨_, h1, ?_⟩
  rw [List.nil_append]
  have hlen : (joinL 10 (v.map (fun x => (printV x).1) ++ [[]])).length ≤ 100000 := by
    have := join_len 10 4206 (v.map (fun x => (printV x).1) ++ [[]]) (fun w hw => by
      rcases List.mem_append.1 hw with hw | hw
      · obtain ⟨x, hx, rfl⟩ := List.mem_map.1 hw
        exact printV_len (h x hx).1.1
      · rw [List.mem_singleton.1 hw]; simp)
    have h2 : (v.map (fun x => (printV x).1) ++ [[]]).length ≤ 21 := by simp; omega
    have h3 : (v.map (fun x => (printV x).1) ++ [[]]).length * (4206 + 1) ≤ 21 * 4207 := Nat.mul_le_mul_right _ h2
    omega
  rw [script33 hlen, split_join (by simp) (fun w hw => by
    rcases List.mem_append.1 hw with hw | hw
    · obtain ⟨x, hx, rfl⟩ := List.mem_map.1 hw
      exact (parse_print (h x hx).1.1 (h x hx).2.2).2.1
    · rw [List.mem_singleton.1 hw]; simp) (by omega), linesL_good, script_good v [] 1 h]; rfl
theorem step_eq (x : S33) : (decide (x.Kind = x.Kind) && (decide (x.Side = x.Side) && (decide (x.ID = x.ID) && (decide (x.N = x.N) && (decide (x.M = x.M) && (decide (x.Path = x.Path) && (decide (x.Text = x.Text) && ((x.Flag == x.Flag) && true)))))))) = true := by simp
theorem back_L0 {l : List S33} (hl : l.length ≤ 20) (hk : ∀ x ∈ l, 0 ≤ x.Kind ∧ x.Kind ≤ 255) (r : List S33) : ∀ (p v : List S33) (f : Nat), l = p ++ r → r.length < f → v.length ≤ p.length → (∀ x ∈ v, goodS x) → sennitlaw33_ConsoleBack_L0 l f v (p.length : Int) = some true := by
  induction r with
  | nil =>
    intro p v f h hf hv hg
    obtain ⟨f, rfl⟩ : ∃ g, f = g + 1 := ⟨f - 1, by simp at hf; omega⟩
    rw [List.append_nil] at h
    subst h
    obtain ⟨t, t1, t2⟩ := back_end (v := v) (by omega) hg
    have hvl : v.length ≤ 1000000 := by omega
    rw [sennitlaw33_ConsoleBack_L0, bndD, lt_len, bif_ff, t1, bnoS, t2, bnoS, bndD, bndD, bndD, bndD, bndD, decide_eq_true rfl]
    rw [Bool.and_self, Bool.and_self, beq_self_eq_true, gdtt, show sennitlaw33_back v = some v from back_L hvl v [] fuel rfl (fuel_gt (Nat.lt_of_le_of_lt hvl (by decide))), bnoS, bnoS, gdtt, same33 hvl, bnoS]
    simp only [bndD, Bool.and_self, beq_self_eq_true, gdtt, awake33, bnoS]
  | cons x r ih =>
    intro p v f h hf hv hg
    obtain ⟨f, rfl⟩ : ∃ g, f = g + 1 := ⟨f - 1, by simp at hf; omega⟩
    obtain ⟨k0, k1⟩ := hk x (by rw [h]; simp)
    have hpl : p.length + 1 ≤ 20 := by rw [h] at hl; simp at hl; omega
    rw [sennitlaw33_ConsoleBack_L0, bndD, lt_at h, bif_tt, gix_at h, bnoS, bndD]
    by_cases h4 : x.Text.length ≤ 400
    · rw [decide_eq_false (by omega), bif_ff, bnoS, prints33 k0 k1 (by omega), bnoS, bndD]
      by_cases h5 : (printV x).2 = 0
      · obtain ⟨p1, p2, p3⟩ := parse_print k0 h5
        have hpl2 := printV_len k0
        rw [decide_eq_true h5, Bool.not_true, bif_ff, parse33 (by omega), bnoS, p1, bndD]
        rw [show (!decide ((x, (0 : Int)).2 = 0)) = false from rfl, show ((false == false) : Bool) = true from rfl, gdtt, bnoS, bndD]
        rw [show (decide ((x, (0 : Int)).1.Kind = x.Kind) && (decide ((x, (0 : Int)).1.Side = x.Side) && (decide ((x, (0 : Int)).1.ID = x.ID) && (decide ((x, (0 : Int)).1.N = x.N) && (decide ((x, (0 : Int)).1.M = x.M) && (decide ((x, (0 : Int)).1.Path = x.Path) && (decide ((x, (0 : Int)).1.Text = x.Text) && (((x, (0 : Int)).1.Flag == x.Flag) && true)))))))) = true from step_eq x]
        rw [bndD, Bool.not_true, Bool.or_self, bif_ff, app_ok (by simp; omega) (by simp; omega), bnoS, bndD, w_at h (by omega)]
        exact ih (p ++ [x]) (v ++ [x]) f (next_at h) (by simpa using hf) (by simp; omega) (fun y hy => by
          rcases List.mem_append.1 hy with hy | hy
          · exact hg y hy
          · rw [List.mem_singleton.1 hy]; exact ⟨⟨k0, k1⟩, h4, h5⟩)
      · rw [decide_eq_false h5, Bool.not_false, bif_tt, bndD, print_empty h5, decide_eq_true rfl, Bool.not_true, bif_ff, bndD, w_at h (by omega)]
        exact ih (p ++ [x]) v f (next_at h) (by simpa using hf) (by simp; omega) hg
    · rw [decide_eq_true (by omega), bif_tt, awake33]; rfl
theorem consoleBack {l : List S33} (hk : ∀ x ∈ l, 0 ≤ x.Kind ∧ x.Kind ≤ 255) : sennitlaw33_ConsoleBack l = some true := by
  unfold sennitlaw33_ConsoleBack
  rw [bndD]
  by_cases h1 : l.length ≤ 20
  · rw [decide_eq_false (by omega), bif_ff]
    exact back_L0 h1 hk l [] [] fuel rfl (fuel_gt (by omega)) (by simp) (fun x hx => absurd hx (by simp))
  · rw [decide_eq_true (by omega), bif_tt, awake33]; rfl
end Go.Fn
namespace Go.IL
section
variable {P : Program} {O : Origin} {N : Nat} {S S' : St} {o : Oper} {t : Nat} {Q : Exit → St → Prop}
/-! Short names. -/
theorem lb {a b : Nat} (h : Nat.ble (a + 1) b = true) : a < b := Nat.le_of_ble_eq_true h
theorem svI {x : Operand} {k : IntKind} {n : Int} (h : S.op x = .int k n) : SV S x (.int k n) := sv h
theorem svB {x : Operand} {n : Bool} (h : S.op x = .bool n) : SV S x (.bool n) := sv h
theorem svR {x : Operand} {i j : Nat} (h : S.op x = .ref i j) : SV S x (.ref i j) := sv h
theorem svL {x : Operand} {f : Bool} {l : List D} (h : S.op x = .slice f l) : SV S x (.slice f l) := sv h
theorem svA {x : Operand} (l : List D) (h : S.op x = .agg l) : SV S x (.agg l) := sv h
theorem svcI {x : Operand} {b : Bool} {k : IntKind} {n : Int} (h : S.op x = .cnd b (.int k n)) (hb : b = true) : SV S x (.int k n) := svc h hb
theorem svcB {x : Operand} {b n : Bool} (h : S.op x = .cnd b (.bool n)) (hb : b = true) : SV S x (.bool n) := svc h hb
theorem svcR {x : Operand} {b : Bool} {i j : Nat} (h : S.op x = .cnd b (.ref i j)) (hb : b = true) : SV S x (.ref i j) := svc h hb
theorem svcL {x : Operand} {b : Bool} {f : Bool} {l : List D} (h : S.op x = .cnd b (.slice f l)) (hb : b = true) : SV S x (.slice f l) := svc h hb
theorem mvI {x : Operand} {k : IntKind} {n : Int} (ho : o.op = .move x) (hd : o.dst = some t) (ht : Nat.ble (t + 1) N = true) (hx : S.op x = .int k n) : IOp P O N o S (S.set t (.int k n)) := iop_move ho hd (lb ht) (sv hx)
theorem mvB {x : Operand} {n : Bool} (ho : o.op = .move x) (hd : o.dst = some t) (ht : Nat.ble (t + 1) N = true) (hx : S.op x = .bool n) : IOp P O N o S (S.set t (.bool n)) := iop_move ho hd (lb ht) (sv hx)
theorem mvR {x : Operand} {i j : Nat} (ho : o.op = .move x) (hd : o.dst = some t) (ht : Nat.ble (t + 1) N = true) (hx : S.op x = .ref i j) : IOp P O N o S (S.set t (.ref i j)) := iop_move ho hd (lb ht) (sv hx)
theorem mvL {x : Operand} {f : Bool} {l : List D} (ho : o.op = .move x) (hd : o.dst = some t) (ht : Nat.ble (t + 1) N = true) (hx : S.op x = .slice f l) : IOp P O N o S (S.set t (.slice f l)) := iop_move ho hd (lb ht) (sv hx)
theorem asI {x : Operand} {k : IntKind} {n : Int} (ho : o.op = .assign x) (hd : o.dst = some t) (ht : Nat.ble (t + 1) N = true) (hx : S.op x = .int k n) : IOp P O N o S (S.set t (.int k n)) := iop_assign ho hd (lb ht) (sv hx)
theorem asB {x : Operand} {n : Bool} (ho : o.op = .assign x) (hd : o.dst = some t) (ht : Nat.ble (t + 1) N = true) (hx : S.op x = .bool n) : IOp P O N o S (S.set t (.bool n)) := iop_assign ho hd (lb ht) (sv hx)
def LA (P : Program) (T : TypeId) (u : TypeDesc) (z : Option Value) (size bytes : Nat) (g : Bool) : Prop := P.underlying T = some u ∧ aggOf P T = g ∧ TI P T z size bytes ∧ 0 < size
theorem LA.mk {T : TypeId} {u : TypeDesc} {z : Option Value} {size bytes : Nat} {g : Bool} (h1 : P.underlying T = some u) (h2 : aggOf P T = g) (h3 : TI P T z size bytes) (h4 : 0 < size) : LA P T u z size bytes g := ⟨h1, h2, h3, h4⟩
theorem lra {T : TypeId} {x : Operand} {u : TypeDesc} {z : Option Value} {size bytes : Nat} {id off : Nat} {e : TypeId} {ds : List D} (cs : List D) (l : LA P T u z size bytes true) (ho : o.op = .load T x) (hd : o.dst = some t) (ht : Nat.ble (t + 1) N = true)
    (hx : S.op x = .ref id off) (he : S.ent id = .blk e ds) (hn : off + size ≤ ds.length) (hdd : (ds.drop off).take size = cs) : IOp P O N o S (S.set t (.agg cs)) := iop_load_ra ho hd (lb ht) l.1 l.2.1 l.2.2.1 l.2.2.2 (sv hx) he hn hdd
theorem lrL {T : TypeId} {x : Operand} {u : TypeDesc} {z : Option Value} {size bytes : Nat} {id off : Nat} {e : TypeId} {ds r : List D} {f : Bool} {m : List D} (l : LA P T u z size bytes false) (ho : o.op = .load T x) (hd : o.dst = some t) (ht : Nat.ble (t + 1) N = true)
    (hx : S.op x = .ref id off) (he : S.ent id = .blk e ds) (hn : off + size ≤ ds.length) (hdd : ds.drop off = .slice f m :: r) : IOp P O N o S (S.set t (.slice f m)) := iop_load_rs ho hd (lb ht) l.1 l.2.1 l.2.2.1 l.2.2.2 (sv hx) he hn hdd
theorem rva {x : Nat} {T : TypeId} {id off : Nat} {e : TypeId} {ds cs : List D} {u : TypeDesc} {z : Option Value} {size bytes : Nat} (l : LA P T u z size bytes true) (hx : S.get x = .ref id off) (he : S.ent id = .blk e ds)
    (hn : off + size ≤ ds.length) (hd : (ds.drop off).take size = cs) : ResV P S (.cell x T) (.agg cs) := resv_a hx he l.1 l.2.1 l.2.2.1 l.2.2.2 hn hd
theorem stA {T : TypeId} {x y : Operand} {z : Option Value} {size bytes : Nat} {id off : Nat} {e : TypeId} {ds : List D} (c ds' : List D) (hi : TI P T z size bytes) (ho : o.op = .store T x y) (hd : o.dst = none)
    (hx : S.op x = .ref id off) (he : S.ent id = .blk e ds) (hy : S.op y = .agg c) (hb : (D.agg c).boxable = true) (hsz : (D.agg c).cells.length = size) (h1 : (D.agg c).cells.all D.one = true)
    (hn : off + size ≤ ds.length) (hds : splice ds off (D.agg c).cells = ds') : IOp P O N o S (S.setE id (.blk e ds')) := iop_store ho hd hi (sv hx) he (sv hy) hb hsz h1 hn hds
theorem faR {T : TypeId} {x : Operand} {i : Nat} {fs : Array Field} {F : Field} {z : Option Value} {size bytes : Nat} {id off : Nat} (off' : Nat) (ho : o.op = .fieldAddr T x i) (hd : o.dst = some t) (ht : Nat.ble (t + 1) N = true)
    (hu : P.underlying T = some (.struct fs)) (hf : fs[i]? = some F) (hi : TI P F.type z size bytes) (hs : 0 < size) (hx : S.op x = .ref id off) (ho' : off + F.offset = off') : IOp P O N o S (S.set t (.ref id off')) :=
  iop_fieldAddr_ref ho hd (lb ht) hu hf hi hs (sv hx) ho'
theorem svaI {n : Node} {S0 : St} {s : Nat} {k : IntKind} {m : Int} (hA : Agree n S S0) (hm : n.rs.elem s = true) (h : S0.get s = .int k m) : SV S (.tmp s) (.int k m) := sv (agr hA hm h)
theorem svaB {n : Node} {S0 : St} {s : Nat} {m : Bool} (hA : Agree n S S0) (hm : n.rs.elem s = true) (h : S0.get s = .bool m) : SV S (.tmp s) (.bool m) := sv (agr hA hm h)
theorem svaR {n : Node} {S0 : St} {s i j : Nat} (hA : Agree n S S0) (hm : n.rs.elem s = true) (h : S0.get s = .ref i j) : SV S (.tmp s) (.ref i j) := sv (agr hA hm h)
theorem svaL {n : Node} {S0 : St} {s : Nat} {f : Bool} {l : List D} (hA : Agree n S S0) (hm : n.rs.elem s = true) (h : S0.get s = .slice f l) : SV S (.tmp s) (.slice f l) := sv (agr hA hm h)
theorem svaA {n : Node} {S0 : St} {s : Nat} (l : List D) (hA : Agree n S S0) (hm : n.rs.elem s = true) (h : S0.get s = .agg l) : SV S (.tmp s) (.agg l) := sv (agr hA hm h)
theorem AllW.s {ρ : Nat → Nat} {t : Nat} {d : D} {l : List (Nat × D)} (h : S.get t = d.ren ρ) (hr : d.refsIn S'.okn = true) (k : AllW (SlW S S' ρ) l) : AllW (SlW S S' ρ) ((t, d) :: l) := .cons (.same h hr) k
theorem AllW.sames {ρ : Nat → Nat} : ∀ {l : List (Nat × D)}, l.map (fun p => S.get p.1) = l.map (fun p => p.2.ren ρ) → (l.all fun p => p.2.refsIn S'.okn) = true → AllW (SlW S S' ρ) l
  | [], _, _ => .nil
  | (t, d) :: l, h, hr => by
    simp only [List.map_cons, List.cons.injEq] at h
    simp only [List.all_cons, Bool.and_eq_true] at hr
    exact .cons (.same h.1 hr.1) (AllW.sames h.2 hr.2)
end
theorem SubL.k {d : D} {ds ds' : List D} (t : SubL ds ds') : SubL (d :: ds) (d :: ds') := .cons (.refl d) t
theorem FDL.k {S : St} {d : D} {ds ds' : List D} (t : FDL S ds ds') : FDL S (d :: ds) (d :: ds') := .cons (.refl d) t
theorem SubL.all : ∀ (l : List D), SubL l l
  | [] => .nil
  | d :: l => .cons (.refl d) (SubL.all l)
theorem FDL.all {S : St} (l : List D) : FDL S l l := fdl_refl l
end Go.IL
namespace Go.IL
/-! Pointers: compared with nil, and with themselves. -/
section
variable {P : Program} {O : Origin} {N : Nat} {S S' : St} {o : Oper} {t : Nat}
theorem pointee_of {T e : TypeId} (h : P.underlying T = some (.pointer e)) : P.underlying T = some (.pointer (P.pointee T)) := by
  unfold Program.pointee; rw [h]
theorem nilp_ev {E : Env} {β : Names} {a : Act} {y : Operand} (hr : Rel O N S E β a) (hy : SV S y .nilp) : a.eval y = .pointer none := by
  have := hy.rd hr
  generalize a.eval y = v at this
  cases this; rfl
theorem run_eqnil {T e : TypeId} {p : Option Addr} (hu : P.underlying T = some (.pointer e)) (w : World) (neq : Bool) : (binOp (if neq then .neq else .eql) T (.pointer p) (.pointer none)).run P w = .ok (.bool (if neq then !p.isNone else p.isNone)) w := by
  cases neq
  · exact run_eql_pointer_nil w T p (pointee_of hu)
  · exact run_neq_pointer_nil w T p (pointee_of hu)
theorem iop_pnil_core {T T2 e : TypeId} {x y : Operand} {neq r : Bool} (ho : o.op = .binOp (if neq then .neq else .eql) T x y T2) (hd : o.dst = some t) (ht : t < N) (hu : P.underlying T = some (.pointer e))
    (hx : ∀ E β a, Rel O N S E β a → ∃ p, a.eval x = .pointer p ∧ (if neq then !p.isNone else p.isNone) = r) (hy : SV S y .nilp) : IOp P O N o S (S.set t (.bool r)) :=
  iop_of hd ht fun E β a hr => by
    obtain ⟨p, hp, hq⟩ := hx E β a hr
    have hyv := nilp_ev hr hy
    have h1 := run_eqnil (p := p) hu E.w neq
    rw [hq] at h1
    exact ⟨_, by simp [execOp, ho, hp, hyv, eqGuard, h1], .bool _ _⟩
theorem iop_eqn {T T2 e : TypeId} {x y : Operand} {id off : Nat} (ho : o.op = .binOp .eql T x y T2) (hd : o.dst = some t) (ht : t < N) (hu : P.underlying T = some (.pointer e)) (hx : SV S x (.ref id off)) (hy : SV S y .nilp) : IOp P O N o S (S.set t (.bool false)) :=
  iop_pnil_core (neq := false) ho hd ht hu (fun E β a hr => by obtain ⟨b, _, h⟩ := rd_ref (hx.rd hr); exact ⟨_, h, rfl⟩) hy
theorem iop_nen {T T2 e : TypeId} {x y : Operand} {id off : Nat} (ho : o.op = .binOp .neq T x y T2) (hd : o.dst = some t) (ht : t < N) (hu : P.underlying T = some (.pointer e)) (hx : SV S x (.ref id off)) (hy : SV S y .nilp) : IOp P O N o S (S.set t (.bool true)) :=
  iop_pnil_core (neq := true) ho hd ht hu (fun E β a hr => by obtain ⟨b, _, h⟩ := rd_ref (hx.rd hr); exact ⟨_, h, rfl⟩) hy
theorem iop_eqnn {T T2 e : TypeId} {x y : Operand} (ho : o.op = .binOp .eql T x y T2) (hd : o.dst = some t) (ht : t < N) (hu : P.underlying T = some (.pointer e)) (hx : SV S x .nilp) (hy : SV S y .nilp) : IOp P O N o S (S.set t (.bool true)) :=
  iop_pnil_core (neq := false) ho hd ht hu (fun E β a hr => ⟨_, nilp_ev hr hx, rfl⟩) hy
theorem iop_nenn {T T2 e : TypeId} {x y : Operand} (ho : o.op = .binOp .neq T x y T2) (hd : o.dst = some t) (ht : t < N) (hu : P.underlying T = some (.pointer e)) (hx : SV S x .nilp) (hy : SV S y .nilp) : IOp P O N o S (S.set t (.bool false)) :=
  iop_pnil_core (neq := true) ho hd ht hu (fun E β a hr => ⟨_, nilp_ev hr hx, rfl⟩) hy
theorem run_ne_ptr_same {T e : TypeId} {j : TypeInfo} (a : Addr) (w : World) (hu : P.underlying T = some (.pointer e)) (hj : P.info? e = some j) : (binOp .neq T (.pointer (some a)) (.pointer (some a))).run P w = .ok (.bool false) w := by
  have h : ∀ d : Nat, (Op.equalIn (d + 1) T (.pointer (some a)) (.pointer (some a))).run P w = .ok true w := fun d => by
    simp [Op.equalIn, run_underlying hu, sizeOf, typeInfo, hj, run_sameAddr_same]
  simp only [binOp]
  simp [Op.equal, Op.maxDepth, h 9999]
theorem iop_nes1 {T T2 e : TypeId} {x y : Operand} {id off : Nat} {z : Option Value} {size bytes : Nat} (ho : o.op = .binOp .neq T x y T2) (hd : o.dst = some t) (ht : t < N) (hu : P.underlying T = some (.pointer e)) (hi : TI P e z size bytes) (hx : SV S x (.ref id off)) (hy : SV S y (.ref id off)) : IOp P O N o S (S.set t (.bool false)) :=
  iop_of hd ht fun E β a hr => by
    obtain ⟨b, hb, h1⟩ := rd_ref (hx.rd hr)
    obtain ⟨b', hb', h2⟩ := rd_ref (hy.rd hr)
    obtain rfl := Option.some.inj (hb.symm.trans hb')
    obtain ⟨i, hi1, _⟩ := hi.at
    have h3 := run_ne_ptr_same ⟨b, off, none⟩ E.w hu hi1
    exact ⟨_, by simp [execOp, ho, h1, h2, eqGuard, h3], .bool _ _⟩
end
end Go.IL
