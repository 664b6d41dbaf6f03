/-
  A part of the proof: rules and plain facts. No condition.
-/
import Derived.Test.YtmidijokooidcaaDoorIlP108
import Derived.Laws.Pointers
import Derived.LaidEqlPtr
set_option linter.all false
set_option linter.unusedSimpArgs false
set_option linter.unusedVariables false
open Go Go.IL
namespace Go.Fn
/-! Console: what is read prints back; ConsoleAgain. -/
theorem join_is (c : UInt8) : ∀ l : List (List UInt8), Lib.join l [c] = joinL c l
  | [] => rfl
  | [w] => by show List.intercalate [c] [w] = w; simp [List.intercalate]
  | w :: v :: l => by
    rw [joinL_cons (by simp), ← join_is c (v :: l)]
    show List.intercalate [c] (w :: v :: l) = w ++ c :: List.intercalate [c] (v :: l)
    simp [List.intercalate, List.intersperse]
theorem join33 {l : List (List UInt8)} {c : UInt8} (h : l.length ≤ 1000000) (h2 : (joinL c l).length ≤ 1000000) : strings_Join l [c] = some (joinL c l) := by
  unfold strings_Join joinS
  rw [join_is, decide_eq_true (by omega), decide_eq_true (by omega)]; rfl
/-! Numbers. -/
theorem dig_b {b : UInt8} (h : isDig b) (m : Nat) : dig (10 * m + (b.toNat - 48)) = b := by
  obtain ⟨h0, h1⟩ := h
  unfold dig
  rw [show 48 + (10 * m + (b.toNat - 48)) % 10 = b.toNat by omega]
  exact UInt8.ofNat_toNat
theorem decF_of : ∀ (k : Nat) (w : List UInt8), w.length = k + 1 → (∀ b ∈ w, isDig b) → (w[0]? ≠ some 48 ∨ k = 0) → decF k (valS w) = w
  | 0, w, hl, hd, _ => by
    obtain ⟨b, rfl⟩ := List.length_eq_one_iff.1 hl
    have hb := hd b (by simp)
    have e : valS [b] = 10 * 0 + (b.toNat - 48) := rfl
    rw [e, decF_one (by unfold isDig at hb; omega), dig_b hb]
  | k + 1, w, hl, hd, h0 => by
    obtain ⟨p, b, rfl⟩ : ∃ p b, w = p ++ [b] := ⟨w.dropLast, w.getLast (by intro e; rw [e] at hl; cases hl), (List.dropLast_concat_getLast _).symm⟩
    have hpl : p.length = k + 1 := by simpa using hl
    have h0 : (p ++ [b])[0]? ≠ some 48 := h0.resolve_right (by omega)
    rw [List.getElem?_append_left (by omega)] at h0
    have hb := hd b (by simp)
    have hpd : ∀ c ∈ p, isDig c := fun c hc => hd c (by simp [hc])
    have ih := decF_of k p hpl hpd (.inl h0)
    have hpos : 0 < valS p := by
      refine Nat.pos_of_ne_zero fun e => ?_
      rw [e] at ih
      rw [decF_one (by decide)] at ih
      rw [← ih] at h0
      exact h0 rfl
    have hbd : b.toNat - 48 < 10 := by unfold isDig at hb; omega
    rw [valS_app, decF_step (by omega), show (10 * valS p + (b.toNat - 48)) / 10 = valS p by omega, ih, dig_b hb]
theorem itoa_num {w : List UInt8} {n : Nat} (h : numV w = some n) : itoaF (n : Int) = w := by
  unfold numV at h
  cases hB : numB w with
  | false => rw [hB] at h; cases h
  | true =>
    rw [hB] at h
    have h : some (valS w) = some n := h
    injection h with h
    subst h
    unfold numB at hB
    simp only [Bool.and_eq_true, Bool.not_eq_true', decide_eq_false_iff_not, decide_eq_true_iff] at hB
    obtain ⟨⟨⟨h1, h2⟩, h3⟩, h4⟩ := hB
    have hd := all_dig h4
    have hl : 0 < w.length := List.length_pos_iff.2 h1
    obtain ⟨k, hk⟩ : ∃ k, w.length = k + 1 := ⟨w.length - 1, by omega⟩
    have hv := valS_bd w.length w rfl hd
    rw [itoaF_of (by omega) k (by rw [← hk]; simpa using hv) (by omega), Int.toNat_natCast]
    refine decF_of k w hk hd ?_
    by_cases e : k = 0
    · exact .inr e
    · refine .inl fun e2 => ?_
      rw [e2, decide_eq_true (show 1 < w.length by omega)] at h3
      simp at h3
/-! Texts. -/
def hexc (d : Nat) : UInt8 := ([48, 49, 50, 51, 52, 53, 54, 55, 56, 57, 97, 98, 99, 100, 101, 102] : List UInt8).getD d 0
theorem hexc_all : ((List.range 256).all fun n => (match shrI .u8 (n : Int) 4 with | some r => decide (gix ([48, 49, 50, 51, 52, 53, 54, 55, 56, 57, 97, 98, 99, 100, 101, 102] : List UInt8) r = some (hexc (n / 16))) | none => false) && decide (gix ([48, 49, 50, 51, 52, 53, 54, 55, 56, 57, 97, 98, 99, 100, 101, 102] : List UInt8) (andI .u8 (n : Int) 15) = some (hexc (n % 16))) && (match hexD n with | some d => decide (hexc d = UInt8.ofNat n) | none => true)) = true := by kernel_rfl
theorem u8_lt (b : UInt8) : b.toNat < 256 := UInt8.toNat_lt b
theorem hexc_at (b : UInt8) : (∃ r, shrI .u8 (b.toNat : Int) 4 = some r ∧ gix ([48, 49, 50, 51, 52, 53, 54, 55, 56, 57, 97, 98, 99, 100, 101, 102] : List UInt8) r = some (hexc (b.toNat / 16))) ∧ gix ([48, 49, 50, 51, 52, 53, 54, 55, 56, 57, 97, 98, 99, 100, 101, 102] : List UInt8) (andI .u8 (b.toNat : Int) 15) = some (hexc (b.toNat % 16)) ∧ ∀ d, hexV b = some d → hexc d = b := by
  have h := List.all_eq_true.1 hexc_all b.toNat (List.mem_range.2 (u8_lt b))
  simp only [Bool.and_eq_true, decide_eq_true_iff] at h
  obtain ⟨⟨h1, h2⟩, h3⟩ := h
  refine ⟨?_, h2, ?_⟩
  · revert h1
    cases shrI .u8 (b.toNat : Int) 4 with
    | none => intro h; cases h
    | some r => intro h; exact ⟨r, rfl, of_decide_eq_true h⟩
  · intro d hd
    unfold hexV at hd
    rw [hd] at h3
    have := of_decide_eq_true h3
    rw [this]; exact UInt8.ofNat_toNat
def hexL (t : List UInt8) : List UInt8 := t.flatMap fun b => [hexc (b.toNat / 16), hexc (b.toNat % 16)]
def hexS (t : List UInt8) : List UInt8 := if t = [] then [45] else hexL t
theorem hexL_len (t : List UInt8) : (hexL t).length = 2 * t.length := by
  unfold hexL
  induction t with
  | nil => rfl
  | cons b t ih => rw [List.flatMap_cons, List.length_append, ih]; simp; omega
theorem hex_L {t : List UInt8} (ht : t.length ≤ 100000) : ∀ (r p : List UInt8) (f : Nat), t = p ++ r → r.length < f → console_hex_L0 t f (hexL p) (p.length : Int) = some (hexL t)
  | [], p, f + 1, h, _ => by
    rw [List.append_nil] at h
    rw [console_hex_L0]
    simp only [bndD, h, lt_len, bif_ff]
  | b :: r, p, f + 1, h, hf => by
    have hp : p.length + 1 ≤ 100000 := by rw [h] at ht; simp at ht; omega
    obtain ⟨⟨q, q1, q2⟩, q3, _⟩ := hexc_at b
    have hl := hexL_len p
    rw [console_hex_L0]
    simp only [bndD, lt_at h, bif_tt, gix_at h, bnoS, w_at h (show t.length ≤ 1000000 by omega), q1, q2, q3]
    rw [app_ok (by simp; omega) (by simp; omega), bnoS]
    have e : hexL p ++ [hexc (b.toNat / 16), hexc (b.toNat % 16)] = hexL (p ++ [b]) := by unfold hexL; rw [List.flatMap_append]; rfl
    rw [e]
    exact hex_L ht r (p ++ [b]) f (next_at h) (by simpa using hf)
theorem hex33 {t : List UInt8} (ht : t.length ≤ 100000) : console_hex t = some (hexS t) := by
  unfold console_hex hexS
  rw [bndD]
  by_cases h : t = []
  · rw [decide_eq_true h, bif_tt, if_pos h]
  · rw [decide_eq_false h, bif_ff, if_neg h]
    exact hex_L ht t [] fuel rfl (fuel_gt (by omega))
theorem unhex_back : ∀ (n : Nat) (w t : List UInt8), w.length ≤ n → w.length % 2 = 0 → unhexV w = some t → hexL t = w
  | _, [], t, _, _, h => by injection h with h; rw [← h]; rfl
  | _, [_], t, _, h2, h => absurd h2 (by simp)
  | n + 1, a :: b :: r, t, hn, h2, h => by
    rw [unhex_cons] at h
    cases ha : hexV a with
    | none => rw [ha] at h; cases h
    | some x =>
      cases hb : hexV b with
      | none => rw [ha, hb] at h; cases h
      | some y =>
        cases hr : unhexV r with
        | none => rw [ha, hb, hr] at h; cases h
        | some u =>
          rw [ha, hb, hr] at h
          injection h with h
          have hx := (hex_at a).2.2 x ha
          have hy := (hex_at b).2.2 y hb
          rw [← h]
          have ih := unhex_back n r u (by simp at hn; omega) (by simp at h2; omega) hr
          have e : (UInt8.ofNat (16 * x + y)).toNat = 16 * x + y := by rw [UInt8.toNat_ofNat']; omega
          show hexL (UInt8.ofNat (16 * x + y) :: u) = a :: b :: r
          unfold hexL at ih ⊢
          rw [List.flatMap_cons, ih, e, show (16 * x + y) / 16 = x by omega, show (16 * x + y) % 16 = y by omega, (hexc_at a).2.2 x ha, (hexc_at b).2.2 y hb]; rfl
theorem text_back {w t : List UInt8} (h : textV w = some t) : hexS t = w := by
  unfold textV at h
  by_cases h1 : w = [45]
  · rw [if_pos h1] at h
    injection h with h
    rw [← h, h1]; rfl
  · rw [if_neg h1] at h
    by_cases h2 : w = [] ∨ w.length % 2 = 1
    · rw [if_pos h2] at h; cases h
    · rw [if_neg h2] at h
      have hb := unhex_back w.length w t (Nat.le_refl _) (by omega) h
      unfold hexS
      by_cases h3 : t = []
      · subst h3
        exact absurd (.inl hb.symm) h2
      · rw [if_neg h3, hb]
/-! Fields. -/
def markS (b : Bool) : List UInt8 := bif b then [43] else [45]
def getF (s : S33) (c : UInt8) : Int × List UInt8 × Bool :=
  if c = 115 then (s.Side, [], false) else if c = 105 then (s.ID, [], false) else if c = 110 then (s.N, [], false) else if c = 109 then (s.M, [], false) else if c = 112 then (s.Path, [], false) else if c = 116 then (0, s.Text, false) else (0, [], s.Flag)
/-- A field, printed. -/
def shewF (c : UInt8) (v : Int × List UInt8 × Bool) : List UInt8 := if c = 116 then hexS v.2.1 else if c = 102 then markS v.2.2 else itoaF v.1
/-- A number that may stand in a field. -/
def okN (c : UInt8) (n : Int) : Prop := 0 ≤ n ∧ n ≤ 999999999 ∧ (c = 115 → n < 2)
theorem okN0 (c : UInt8) : okN c 0 := ⟨by decide, by decide, fun _ => by decide⟩
theorem put_get {c : UInt8} (hc : fieldC c) {w : List UInt8} {s s' : S33} (h : putV s c w = some s') : s'.Kind = s.Kind ∧ (∀ c', fieldC c' → c' ≠ c → getF s' c' = getF s c') ∧ shewF c (getF s' c) = w ∧ okN c (getF s' c).1 := by
  unfold putV at h
  by_cases h1 : c = 116
  · subst h1
    rw [if_pos rfl] at h
    cases ht : textV w with
    | none => rw [ht] at h; cases h
    | some t =>
      rw [ht] at h
      have h : some _ = some s' := h
      injection h with h
      subst h
      refine ⟨rfl, ?_, text_back ht, okN0 _⟩
      rintro c' (rfl | rfl | rfl | rfl | rfl | rfl | rfl) hn <;> first | rfl | exact absurd rfl hn
  · rw [if_neg h1] at h
    by_cases h2 : c = 102
    · subst h2
      rw [if_pos rfl] at h
      by_cases hw : w = [43] ∨ w = [45]
      · rw [if_pos hw] at h
        injection h with h
        subst h
        refine ⟨rfl, ?_, ?_, okN0 _⟩
        · rintro c' (rfl | rfl | rfl | rfl | rfl | rfl | rfl) hn <;> first | rfl | exact absurd rfl hn
        · rcases hw with rfl | rfl <;> rfl
      · rw [if_neg hw] at h; cases h
    · rw [if_neg h2] at h
      cases hv : numV w with
      | none => rw [hv] at h; cases h
      | some n =>
        rw [hv] at h
        have hi := itoa_num hv
        have hb := numV_bd hv
        have hk : ∀ c : UInt8, c ≠ 115 → okN c (n : Int) := fun c hc => ⟨by omega, by omega, fun e => absurd e hc⟩
        rcases hc with rfl | rfl | rfl | rfl | rfl | rfl | rfl
        · have h : (if n < 2 then some (⟨s.Kind, (n : Int), s.ID, s.N, s.M, s.Path, s.Text, s.Flag⟩ : S33) else none) = some s' := h
          by_cases hn2 : n < 2
          · rw [if_pos hn2] at h
            injection h with h
            subst h
            refine ⟨rfl, ?_, hi, ⟨Int.natCast_nonneg n, ?_, fun _ => ?_⟩⟩
            · rintro c' (rfl | rfl | rfl | rfl | rfl | rfl | rfl) hn <;> first | rfl | exact absurd rfl hn
            · show (n : Int) ≤ _; omega
            · show (n : Int) < _; omega
          · rw [if_neg hn2] at h; cases h
        · have h : some (⟨s.Kind, s.Side, (n : Int), s.N, s.M, s.Path, s.Text, s.Flag⟩ : S33) = some s' := h
          injection h with h
          subst h
          refine ⟨rfl, ?_, hi, hk _ (by decide)⟩
          rintro c' (rfl | rfl | rfl | rfl | rfl | rfl | rfl) hn <;> first | rfl | exact absurd rfl hn
        · have h : some (⟨s.Kind, s.Side, s.ID, (n : Int), s.M, s.Path, s.Text, s.Flag⟩ : S33) = some s' := h
          injection h with h
          subst h
          refine ⟨rfl, ?_, hi, hk _ (by decide)⟩
          rintro c' (rfl | rfl | rfl | rfl | rfl | rfl | rfl) hn <;> first | rfl | exact absurd rfl hn
        · have h : some (⟨s.Kind, s.Side, s.ID, s.N, (n : Int), s.Path, s.Text, s.Flag⟩ : S33) = some s' := h
          injection h with h
          subst h
          refine ⟨rfl, ?_, hi, hk _ (by decide)⟩
          rintro c' (rfl | rfl | rfl | rfl | rfl | rfl | rfl) hn <;> first | rfl | exact absurd rfl hn
        · have h : some (⟨s.Kind, s.Side, s.ID, s.N, s.M, (n : Int), s.Text, s.Flag⟩ : S33) = some s' := h
          injection h with h
          subst h
          refine ⟨rfl, ?_, hi, hk _ (by decide)⟩
          rintro c' (rfl | rfl | rfl | rfl | rfl | rfl | rfl) hn <;> first | rfl | exact absurd rfl hn
        · exact absurd rfl h1
        · exact absurd rfl h2
theorem par_get (cs : List UInt8) : ∀ (ws : List (List UInt8)) (s x : S33), cs.Nodup → (∀ c ∈ cs, fieldC c) → cs.length = ws.length → parF cs ws s = some x → x.Kind = s.Kind ∧ (∀ c, fieldC c → c ∉ cs → getF x c = getF s c) ∧ cs.map (fun c => shewF c (getF x c)) = ws ∧ ∀ c ∈ cs, okN c (getF x c).1 := by
  induction cs with
  | nil =>
    intro ws s x _ _ hl h
    have hws : ws = [] := List.length_eq_zero_iff.1 hl.symm
    subst hws
    have h : some s = some x := h
    injection h with h
    subst h
    exact ⟨rfl, fun _ _ _ => rfl, rfl, fun c hc => absurd hc (by simp)⟩
  | cons c cs ih =>
    intro ws s x hn hc hl h
    obtain ⟨w, ws, rfl⟩ : ∃ w ws', ws = w :: ws' := List.exists_cons_of_ne_nil (by intro e; rw [e] at hl; cases hl)
    have h : (putV s c w).bind (parF cs ws) = some x := h
    cases hp : putV s c w with
    | none => rw [hp] at h; cases h
    | some s' =>
      rw [hp] at h
      obtain ⟨a1, a2, a3, a4⟩ := put_get (hc c (by simp)) hp
      have hn := List.nodup_cons.1 hn
      obtain ⟨b1, b2, b3, b4⟩ := ih ws s' x hn.2 (fun d hd => hc d (by simp [hd])) (by simpa using hl) h
      have hcx := b2 c (hc c (by simp)) hn.1
      refine ⟨b1.trans a1, ?_, ?_, ?_⟩
      · intro d hd hm
        rw [b2 d hd (fun e => hm (by simp [e])), a2 d hd (fun e => hm (by simp [e]))]
      · rw [List.map_cons, b3, hcx, a3]
      · intro d hd
        rcases List.mem_cons.1 hd with rfl | hd
        · rw [hcx]; exact a4
        · exact b4 d hd
/-! Print. -/
def clrF (s : S33) (c : UInt8) : S33 :=
  if c = 115 then ⟨s.Kind, 0, s.ID, s.N, s.M, s.Path, s.Text, s.Flag⟩ else if c = 105 then ⟨s.Kind, s.Side, 0, s.N, s.M, s.Path, s.Text, s.Flag⟩
  else if c = 110 then ⟨s.Kind, s.Side, s.ID, 0, s.M, s.Path, s.Text, s.Flag⟩ else if c = 109 then ⟨s.Kind, s.Side, s.ID, s.N, 0, s.Path, s.Text, s.Flag⟩
  else if c = 112 then ⟨s.Kind, s.Side, s.ID, s.N, s.M, 0, s.Text, s.Flag⟩ else if c = 116 then ⟨s.Kind, s.Side, s.ID, s.N, s.M, s.Path, [], s.Flag⟩
  else ⟨s.Kind, s.Side, s.ID, s.N, s.M, s.Path, s.Text, false⟩
def zF : Int × List UInt8 × Bool := (0, [], false)
theorem clr_get {c : UInt8} (hc : fieldC c) (s : S33) : (clrF s c).Kind = s.Kind ∧ getF (clrF s c) c = zF ∧ ∀ d, fieldC d → d ≠ c → getF (clrF s c) d = getF s d := by
  rcases hc with rfl | rfl | rfl | rfl | rfl | rfl | rfl <;> refine ⟨rfl, rfl, ?_⟩ <;> rintro d (rfl | rfl | rfl | rfl | rfl | rfl | rfl) hn <;> first | rfl | exact absurd rfl hn
theorem clr_ok {c d : UInt8} (hc : fieldC c) (hd : fieldC d) {s : S33} (h : okN d (getF s d).1) : okN d (getF (clrF s c) d).1 := by
  obtain ⟨_, h1, h2⟩ := clr_get hc s
  by_cases e : d = c
  · rw [e, h1]; exact okN0 _
  · rw [h2 d hd e]; exact h
theorem clrs_get : ∀ (cs : List UInt8) (s : S33), (∀ c ∈ cs, fieldC c) → (cs.foldl clrF s).Kind = s.Kind ∧ ∀ d, fieldC d → (d ∈ cs ∨ getF s d = zF) → getF (cs.foldl clrF s) d = zF
  | [], s, _ => ⟨rfl, fun d _ h => h.elim (fun h => absurd h (by simp)) id⟩
  | c :: cs, s, hc => by
    obtain ⟨a1, a2, a3⟩ := clr_get (hc c (by simp)) s
    obtain ⟨b1, b2⟩ := clrs_get cs (clrF s c) (fun d hd => hc d (by simp [hd]))
    refine ⟨b1.trans a1, fun d hd h => b2 d hd ?_⟩
    by_cases e : d = c
    · rw [e]; exact .inr a2
    · rw [a3 d hd e]
      rcases h with h | h
      · exact .inl ((List.mem_cons.1 h).resolve_left e)
      · exact .inr h
theorem ok_dec {c : UInt8} {n : Int} (h : okN c n) : decide (0 ≤ n) = true ∧ decide (n ≤ 999999999) = true := ⟨decide_eq_true h.1, decide_eq_true h.2.1⟩
def bareL (x : S33) (F : List UInt8) (f : Nat) (i : Int) (s : S33) : Option (S33 × Bool) := console_bare_L0 x F f true i s.Side s.ID s.N s.M s.Path s.Text s.Flag
theorem bare_step {x : S33} {F p r : List UInt8} {c : UInt8} (hF : F = p ++ c :: r) (hl : F.length ≤ 1000) (hc : fieldC c) {s : S33} (hk : okN c (getF s c).1) (f : Nat) : bareL x F (f + 1) (p.length : Int) s = bareL x F f ((p ++ [c]).length : Int) (clrF s c) := by
  unfold bareL
  rw [console_bare_L0]
  rcases hc with rfl | rfl | rfl | rfl | rfl | rfl | rfl
  · have hk : okN 115 s.Side := hk
    obtain ⟨k1, k2⟩ := ok_dec hk
    simp only [bndD, lt_at hF, bif_tt, gix_at hF, bnoS, w_at hF (show F.length ≤ 1000000 by omega), show decide (((115 : UInt8).toNat : Int) = 115) = true from rfl, k1, k2, Bool.and_self, beq_self_eq_true, gdtt, Bool.not_true, Bool.false_or, decide_eq_true (hk.2.2 rfl)]
    rfl
  · have hk : okN 105 s.ID := hk
    obtain ⟨k1, k2⟩ := ok_dec hk
    simp only [bndD, lt_at hF, bif_tt, bif_ff, gix_at hF, bnoS, w_at hF (show F.length ≤ 1000000 by omega), show decide (((105 : UInt8).toNat : Int) = 115) = false from rfl, show decide (((105 : UInt8).toNat : Int) = 105) = true from rfl, k1, k2, Bool.and_self, beq_self_eq_true, gdtt, Bool.not_false, Bool.true_or]
    rfl
  · have hk : okN 110 s.N := hk
    obtain ⟨k1, k2⟩ := ok_dec hk
    simp only [bndD, lt_at hF, bif_tt, bif_ff, gix_at hF, bnoS, w_at hF (show F.length ≤ 1000000 by omega), show decide (((110 : UInt8).toNat : Int) = 115) = false from rfl, show decide (((110 : UInt8).toNat : Int) = 105) = false from rfl, show decide (((110 : UInt8).toNat : Int) = 110) = true from rfl, k1, k2, Bool.and_self, beq_self_eq_true, gdtt, Bool.not_false, Bool.true_or]
    rfl
  · have hk : okN 109 s.M := hk
    obtain ⟨k1, k2⟩ := ok_dec hk
    simp only [bndD, lt_at hF, bif_tt, bif_ff, gix_at hF, bnoS, w_at hF (show F.length ≤ 1000000 by omega), show decide (((109 : UInt8).toNat : Int) = 115) = false from rfl, show decide (((109 : UInt8).toNat : Int) = 105) = false from rfl, show decide (((109 : UInt8).toNat : Int) = 110) = false from rfl, show decide (((109 : UInt8).toNat : Int) = 109) = true from rfl, k1, k2, Bool.and_self, beq_self_eq_true, gdtt, Bool.not_false, Bool.true_or]
    rfl
  · have hk : okN 112 s.Path := hk
    obtain ⟨k1, k2⟩ := ok_dec hk
    simp only [bndD, lt_at hF, bif_tt, bif_ff, gix_at hF, bnoS, w_at hF (show F.length ≤ 1000000 by omega), show decide (((112 : UInt8).toNat : Int) = 115) = false from rfl, show decide (((112 : UInt8).toNat : Int) = 105) = false from rfl, show decide (((112 : UInt8).toNat : Int) = 110) = false from rfl, show decide (((112 : UInt8).toNat : Int) = 109) = false from rfl, show decide (((112 : UInt8).toNat : Int) = 112) = true from rfl, k1, k2, Bool.and_self, beq_self_eq_true, gdtt, Bool.not_false, Bool.true_or]
    rfl
  · simp only [bndD, lt_at hF, bif_tt, bif_ff, gix_at hF, bnoS, w_at hF (show F.length ≤ 1000000 by omega), show decide (((116 : UInt8).toNat : Int) = 115) = false from rfl, show decide (((116 : UInt8).toNat : Int) = 105) = false from rfl, show decide (((116 : UInt8).toNat : Int) = 110) = false from rfl, show decide (((116 : UInt8).toNat : Int) = 109) = false from rfl, show decide (((116 : UInt8).toNat : Int) = 112) = false from rfl, show decide (((116 : UInt8).toNat : Int) = 116) = true from rfl]
    rfl
  · simp only [bndD, lt_at hF, bif_tt, bif_ff, gix_at hF, bnoS, w_at hF (show F.length ≤ 1000000 by omega), show decide (((102 : UInt8).toNat : Int) = 115) = false from rfl, show decide (((102 : UInt8).toNat : Int) = 105) = false from rfl, show decide (((102 : UInt8).toNat : Int) = 110) = false from rfl, show decide (((102 : UInt8).toNat : Int) = 109) = false from rfl, show decide (((102 : UInt8).toNat : Int) = 112) = false from rfl, show decide (((102 : UInt8).toNat : Int) = 116) = false from rfl]
    rfl
theorem bare_L {x : S33} {F : List UInt8} (hl : F.length ≤ 1000) (hc : ∀ c ∈ F, fieldC c) : ∀ (r p : List UInt8) (s : S33) (f : Nat), F = p ++ r → r.length < f → s.Kind = x.Kind → (∀ c ∈ F, okN c (getF s c).1) → bareL x F f (p.length : Int) s = some (r.foldl clrF s, true)
  | [], p, s, f + 1, h, _, hk, _ => by
    rw [List.append_nil] at h
    unfold bareL
    rw [console_bare_L0]
    simp only [bndD, h, lt_len, bif_ff, ← hk]
    rfl
  | c :: r, p, s, f + 1, h, hf, hk, ho => by
    have hcm : c ∈ F := by rw [h]; simp
    rw [bare_step h hl (hc c hcm) (ho c hcm)]
    exact bare_L hl hc r (p ++ [c]) (clrF s c) f (next_at h) (by simpa using hf) ((clr_get (hc c hcm) s).1.trans hk) (fun d hd => clr_ok (hc c hcm) (hc d hd) (ho d hd))
theorem bare33 {x : S33} {F : List UInt8} (hl : F.length ≤ 1000) (hc : ∀ c ∈ F, fieldC c) (ho : ∀ c ∈ F, okN c (getF x c).1) : console_bare x F = some (F.foldl clrF x, true) := bare_L (x := x) hl hc F [] x fuel rfl (fuel_gt (by omega)) rfl ho
def shewn (x : S33) (c : UInt8) : List UInt8 := shewF c (getF x c)
theorem j_ok {n : Int} (h0 : 0 ≤ n) (h1 : n ≤ 999999999) : J64 n := by unfold J64; omega
theorem print_step {x : S33} {F : T_console_form} {p r : List UInt8} {c : UInt8} (hF : F.has = p ++ c :: r) (hl : F.has.length ≤ 1000) (hc : fieldC c) (hk : okN c (getF x c).1) (ht : x.Text.length ≤ 300) {d : List (List UInt8)} (hd : d.length ≤ 10000) (f : Nat) : console_Print_L1 x F (f + 1) d (p.length : Int) = console_Print_L1 x F f (d ++ [shewn x c]) ((p ++ [c]).length : Int) := by
  rw [console_Print_L1]
  have hap : ∀ w : List UInt8, app 16 d [w] = some (d ++ [w]) := fun w => app_ok (by simp; omega) (by simp; omega)
  rcases hc with rfl | rfl | rfl | rfl | rfl | rfl | rfl
  · have hk : okN 115 x.Side := hk
    simp only [bndD, lt_at hF, bif_tt, bif_ff, gix_at hF, bnoS, w_at hF (show F.has.length ≤ 1000000 by omega), show decide (((115 : UInt8).toNat : Int) = 115) = true from rfl, itoa33 (j_ok hk.1 hk.2.1), hap]
    rfl
  · have hk : okN 105 x.ID := hk
    simp only [bndD, lt_at hF, bif_tt, bif_ff, gix_at hF, bnoS, w_at hF (show F.has.length ≤ 1000000 by omega), show decide (((105 : UInt8).toNat : Int) = 115) = false from rfl, show decide (((105 : UInt8).toNat : Int) = 105) = true from rfl, itoa33 (j_ok hk.1 hk.2.1), hap]
    rfl
  · have hk : okN 110 x.N := hk
    simp only [bndD, lt_at hF, bif_tt, bif_ff, gix_at hF, bnoS, w_at hF (show F.has.length ≤ 1000000 by omega), show decide (((110 : UInt8).toNat : Int) = 115) = false from rfl, show decide (((110 : UInt8).toNat : Int) = 105) = false from rfl, show decide (((110 : UInt8).toNat : Int) = 110) = true from rfl, itoa33 (j_ok hk.1 hk.2.1), hap]
    rfl
  · have hk : okN 109 x.M := hk
    simp only [bndD, lt_at hF, bif_tt, bif_ff, gix_at hF, bnoS, w_at hF (show F.has.length ≤ 1000000 by omega), show decide (((109 : UInt8).toNat : Int) = 115) = false from rfl, show decide (((109 : UInt8).toNat : Int) = 105) = false from rfl, show decide (((109 : UInt8).toNat : Int) = 110) = false from rfl, show decide (((109 : UInt8).toNat : Int) = 109) = true from rfl, itoa33 (j_ok hk.1 hk.2.1), hap]
    rfl
  · have hk : okN 112 x.Path := hk
    simp only [bndD, lt_at hF, bif_tt, bif_ff, gix_at hF, bnoS, w_at hF (show F.has.length ≤ 1000000 by omega), show decide (((112 : UInt8).toNat : Int) = 115) = false from rfl, show decide (((112 : UInt8).toNat : Int) = 105) = false from rfl, show decide (((112 : UInt8).toNat : Int) = 110) = false from rfl, show decide (((112 : UInt8).toNat : Int) = 109) = false from rfl, show decide (((112 : UInt8).toNat : Int) = 112) = true from rfl, itoa33 (j_ok hk.1 hk.2.1), hap]
    rfl
  · simp only [bndD, lt_at hF, bif_tt, bif_ff, gix_at hF, bnoS, w_at hF (show F.has.length ≤ 1000000 by omega), show decide (((116 : UInt8).toNat : Int) = 115) = false from rfl, show decide (((116 : UInt8).toNat : Int) = 105) = false from rfl, show decide (((116 : UInt8).toNat : Int) = 110) = false from rfl, show decide (((116 : UInt8).toNat : Int) = 109) = false from rfl, show decide (((116 : UInt8).toNat : Int) = 112) = false from rfl, show decide (((116 : UInt8).toNat : Int) = 116) = true from rfl, hex33 (show x.Text.length ≤ 100000 by omega), hap]
    rfl
  · simp only [bndD, lt_at hF, bif_tt, bif_ff, gix_at hF, bnoS, w_at hF (show F.has.length ≤ 1000000 by omega), show decide (((102 : UInt8).toNat : Int) = 115) = false from rfl, show decide (((102 : UInt8).toNat : Int) = 105) = false from rfl, show decide (((102 : UInt8).toNat : Int) = 110) = false from rfl, show decide (((102 : UInt8).toNat : Int) = 109) = false from rfl, show decide (((102 : UInt8).toNat : Int) = 112) = false from rfl, show decide (((102 : UInt8).toNat : Int) = 116) = false from rfl]
    rw [show console_mark x.Flag = some (markS x.Flag) by unfold console_mark markS; cases x.Flag <;> rfl, bnoS, hap, bnoS]
    rfl
theorem print_L {x : S33} {F : T_console_form} (hl : F.has.length ≤ 1000) (hc : ∀ c ∈ F.has, fieldC c) (ho : ∀ c ∈ F.has, okN c (getF x c).1) (ht : x.Text.length ≤ 300) : ∀ (r p : List UInt8) (f : Nat), F.has = p ++ r → r.length < f → console_Print_L1 x F f (F.name :: p.map (shewn x)) (p.length : Int) = (strings_Join (F.name :: F.has.map (shewn x)) [32]).map fun t => (t, 0)
  | [], p, f + 1, h, _ => by
    rw [List.append_nil] at h
    rw [console_Print_L1]
    simp only [bndD, h, lt_len, bif_ff]
    cases strings_Join (F.name :: p.map (shewn x)) [32] <;> rfl
  | c :: r, p, f + 1, h, hf => by
    have hcm : c ∈ F.has := by rw [h]; simp
    have hpl : p.length ≤ 1000 := by rw [h] at hl; simp at hl; omega
    rw [print_step h hl (hc c hcm) (ho c hcm) ht (by simp; omega)]
    have := print_L hl hc ho ht r (p ++ [c]) f (next_at h) (by simpa using hf)
    rw [List.map_append] at this
    exact this
theorem print33 {x : S33} {k : Nat} (hk : k < 16) (hx : x.Kind = (k : Int)) (ho : ∀ c ∈ hasK k, okN c (getF x c).1) (hz : ∀ c, fieldC c → c ∉ hasK k → getF x c = zF) (ht : x.Text.length ≤ 300) : console_Print x = (strings_Join ((formK k).name :: (hasK k).map (shewn x)) [32]).map fun t => (t, 0) := by
  obtain ⟨_, f2, f3, f4, f5, _⟩ := fields_at hk
  unfold console_Print
  rw [forms_is, bnoS, bndD, hx, w64 (by omega) (by omega), forms_len, bndD, decide_eq_false (by omega), bif_ff, f2, bnoS]
  have hh : (formK k).has = hasK k := rfl
  rw [hh, bare33 (by omega) f4 ho, bnoS]
  obtain ⟨c1, c2⟩ := clrs_get (hasK k) x f4
  have hg : ∀ d, fieldC d → getF ((hasK k).foldl clrF x) d = zF := fun d hd => c2 d hd (by
    by_cases h : d ∈ hasK k
    · exact .inl h
    · exact .inr (hz d hd h))
  generalize (hasK k).foldl clrF x = y at c1 hg
  have g1 : y.Side = 0 := congrArg (·.1) (hg 115 (by decide))
  have g2 : y.ID = 0 := congrArg (·.1) (hg 105 (by decide))
  have g3 : y.N = 0 := congrArg (·.1) (hg 110 (by decide))
  have g4 : y.M = 0 := congrArg (·.1) (hg 109 (by decide))
  have g5 : y.Path = 0 := congrArg (·.1) (hg 112 (by decide))
  have g6 : y.Text = [] := congrArg (·.2.1) (hg 116 (by decide))
  have g7 : y.Flag = false := congrArg (·.2.2) (hg 102 (by decide))
  simp only [Bool.not_true, bif_ff, bndD, g1, g2, g3, g4, g5, g6, g7, c1, hx, decide_true, beq_self_eq_true, Bool.and_self]
  unfold console_Print_J0
  rw [bif_ff, bndD, decide_eq_false (by omega), bif_ff]
  exact print_L (F := formK k) (by rw [hh]; omega) f4 ho ht (hasK k) [] fuel rfl (fuel_gt (by omega))
theorem form_name {k : Nat} (hk : k < 16) : names33[k]? = some (formK k).name := by
  have : k < forms33.length := hk
  unfold names33 formK
  rw [List.getElem?_map, List.getElem?_eq_getElem this, List.getD_eq_getElem?_getD, List.getElem?_eq_getElem this]; rfl
theorem parse_zero {s : List UInt8} {x : S33} {e : Int} (h : parseS s = (x, e)) (he : e ≠ 0) : x = S0 := by
  unfold parseS at h
  split at h
  · exact (congrArg (·.1) h).symm
  · split at h
    · exact (congrArg (·.1) h).symm
    · split at h
      · exact (congrArg (·.1) h).symm
      · revert h
        cases parF _ _ _ with
        | none => intro h; exact (congrArg (·.1) h).symm
        | some y =>
          unfold fin33
          intro h
          by_cases ht : 300 < y.Text.length
          · simp only [if_pos ht] at h; exact (congrArg (·.1) h).symm
          · simp only [if_neg ht] at h; exact absurd (congrArg (·.2) h).symm he
theorem print_parse {s : List UInt8} (hs : s.length ≤ 100000) {x : S33} (h : parseS s = (x, 0)) : console_Print x = some (s, 0) := by
  unfold parseS at h
  split at h
  · cases h
  · split at h
    · cases h
    · rename_i hk
      split at h
      · cases h
      · rename_i hl
        have hk := Nat.lt_of_le_of_ne (kx_le _) hk
        have hl : (splitL 32 s).length = (hasK (kx ((splitL 32 s).headD []))).length + 1 := Decidable.not_not.1 hl
        have hjs := join_split 32 s
        have hcn := split_cnt 32 s
        cases hW : splitL 32 s with
        | nil => exact absurd hW (splitL_ne _ _)
        | cons w ws =>
          rw [hW] at h hl hk hjs hcn
          have hk : kx w < 16 := hk
          have hl : ws.length = (hasK (kx w)).length := by simpa using hl
          have h : fin33 (parF (hasK (kx w)) ws ⟨(kx w : Int), 0, 0, 0, 0, 0, [], false⟩) = (x, 0) := h
          obtain ⟨_, f2, f3, f4, f5, f6⟩ := fields_at hk
          cases hp : parF (hasK (kx w)) ws ⟨(kx w : Int), 0, 0, 0, 0, 0, [], false⟩ with
          | none => rw [hp] at h; cases h
          | some y =>
            rw [hp] at h
            unfold fin33 at h
            by_cases ht : 300 < y.Text.length
            · simp only [if_pos ht] at h; cases h
            · simp only [if_neg ht] at h
              injection h with h
              subst h
              obtain ⟨p1, p2, p3, p4⟩ := par_get _ _ _ _ f6 f4 hl.symm hp
              have hz : ∀ c, fieldC c → c ∉ hasK (kx w) → getF y c = zF := fun c hc hm => by
                rw [p2 c hc hm]
                rcases hc with rfl | rfl | rfl | rfl | rfl | rfl | rfl <;> rfl
              rw [print33 hk p1 p4 hz (by omega)]
              have hn : (formK (kx w)).name = w := by
                have h1 := form_name hk
                rw [name_kx hk] at h1
                injection h1 with h1
                exact h1.symm
              have hm : (hasK (kx w)).map (shewn y) = ws := p3
              rw [hn, hm, join33 (by omega) (by rw [hjs]; omega), hjs]; rfl
theorem consoleAgain (s : List UInt8) : sennitlaw33_ConsoleAgain s = some true := by
  unfold sennitlaw33_ConsoleAgain
  rw [bndD]
  by_cases h : 700 < s.length
  · rw [decide_eq_true (by omega), bif_tt, awake33]; rfl
  · have hs : s.length ≤ 100000 := by omega
    rw [decide_eq_false (by omega), bif_ff, parse33 hs, bnoS, bndD]
    cases hp : parseS s with
    | mk x e =>
      by_cases he : e = 0
      · subst he
        simp only [decide_true, Bool.not_true, bif_ff]
        rw [print_parse hs hp, bnoS]
        simp only [bndD, decide_true, Bool.and_self, beq_self_eq_true, gdtt, awake33, bnoS]
      · simp only [decide_eq_false he, Bool.not_false, bif_tt]
        have hx := parse_zero hp he
        subst hx
        rfl
end Go.Fn
namespace Go.IL
section
variable {P : Program} {O : Origin} {N : Nat} {S S' : St} {o : Oper} {t : Nat} {Q : Exit → St → Prop}
/-! Short names. -/
theorem lb {a b : Nat} (h : Nat.ble (a + 1) b = true) : a < b := Nat.le_of_ble_eq_true h
theorem svI {x : Operand} {k : IntKind} {n : Int} (h : S.op x = .int k n) : SV S x (.int k n) := sv h
theorem svB {x : Operand} {n : Bool} (h : S.op x = .bool n) : SV S x (.bool n) := sv h
theorem svR {x : Operand} {i j : Nat} (h : S.op x = .ref i j) : SV S x (.ref i j) := sv h
theorem svL {x : Operand} {f : Bool} {l : List D} (h : S.op x = .slice f l) : SV S x (.slice f l) := sv h
theorem svA {x : Operand} (l : List D) (h : S.op x = .agg l) : SV S x (.agg l) := sv h
theorem svcI {x : Operand} {b : Bool} {k : IntKind} {n : Int} (h : S.op x = .cnd b (.int k n)) (hb : b = true) : SV S x (.int k n) := svc h hb
theorem svcB {x : Operand} {b n : Bool} (h : S.op x = .cnd b (.bool n)) (hb : b = true) : SV S x (.bool n) := svc h hb
theorem svcR {x : Operand} {b : Bool} {i j : Nat} (h : S.op x = .cnd b (.ref i j)) (hb : b = true) : SV S x (.ref i j) := svc h hb
theorem svcL {x : Operand} {b : Bool} {f : Bool} {l : List D} (h : S.op x = .cnd b (.slice f l)) (hb : b = true) : SV S x (.slice f l) := svc h hb
theorem mvI {x : Operand} {k : IntKind} {n : Int} (ho : o.op = .move x) (hd : o.dst = some t) (ht : Nat.ble (t + 1) N = true) (hx : S.op x = .int k n) : IOp P O N o S (S.set t (.int k n)) := iop_move ho hd (lb ht) (sv hx)
theorem mvB {x : Operand} {n : Bool} (ho : o.op = .move x) (hd : o.dst = some t) (ht : Nat.ble (t + 1) N = true) (hx : S.op x = .bool n) : IOp P O N o S (S.set t (.bool n)) := iop_move ho hd (lb ht) (sv hx)
theorem mvR {x : Operand} {i j : Nat} (ho : o.op = .move x) (hd : o.dst = some t) (ht : Nat.ble (t + 1) N = true) (hx : S.op x = .ref i j) : IOp P O N o S (S.set t (.ref i j)) := iop_move ho hd (lb ht) (sv hx)
theorem mvL {x : Operand} {f : Bool} {l : List D} (ho : o.op = .move x) (hd : o.dst = some t) (ht : Nat.ble (t + 1) N = true) (hx : S.op x = .slice f l) : IOp P O N o S (S.set t (.slice f l)) := iop_move ho hd (lb ht) (sv hx)
theorem asI {x : Operand} {k : IntKind} {n : Int} (ho : o.op = .assign x) (hd : o.dst = some t) (ht : Nat.ble (t + 1) N = true) (hx : S.op x = .int k n) : IOp P O N o S (S.set t (.int k n)) := iop_assign ho hd (lb ht) (sv hx)
theorem asB {x : Operand} {n : Bool} (ho : o.op = .assign x) (hd : o.dst = some t) (ht : Nat.ble (t + 1) N = true) (hx : S.op x = .bool n) : IOp P O N o S (S.set t (.bool n)) := iop_assign ho hd (lb ht) (sv hx)
def LA (P : Program) (T : TypeId) (u : TypeDesc) (z : Option Value) (size bytes : Nat) (g : Bool) : Prop := P.underlying T = some u ∧ aggOf P T = g ∧ TI P T z size bytes ∧ 0 < size
theorem LA.mk {T : TypeId} {u : TypeDesc} {z : Option Value} {size bytes : Nat} {g : Bool} (h1 : P.underlying T = some u) (h2 : aggOf P T = g) (h3 : TI P T z size bytes) (h4 : 0 < size) : LA P T u z size bytes g := ⟨h1, h2, h3, h4⟩
theorem lra {T : TypeId} {x : Operand} {u : TypeDesc} {z : Option Value} {size bytes : Nat} {id off : Nat} {e : TypeId} {ds : List D} (cs : List D) (l : LA P T u z size bytes true) (ho : o.op = .load T x) (hd : o.dst = some t) (ht : Nat.ble (t + 1) N = true)
    (hx : S.op x = .ref id off) (he : S.ent id = .blk e ds) (hn : off + size ≤ ds.length) (hdd : (ds.drop off).take size = cs) : IOp P O N o S (S.set t (.agg cs)) := iop_load_ra ho hd (lb ht) l.1 l.2.1 l.2.2.1 l.2.2.2 (sv hx) he hn hdd
theorem lrL {T : TypeId} {x : Operand} {u : TypeDesc} {z : Option Value} {size bytes : Nat} {id off : Nat} {e : TypeId} {ds r : List D} {f : Bool} {m : List D} (l : LA P T u z size bytes false) (ho : o.op = .load T x) (hd : o.dst = some t) (ht : Nat.ble (t + 1) N = true)
    (hx : S.op x = .ref id off) (he : S.ent id = .blk e ds) (hn : off + size ≤ ds.length) (hdd : ds.drop off = .slice f m :: r) : IOp P O N o S (S.set t (.slice f m)) := iop_load_rs ho hd (lb ht) l.1 l.2.1 l.2.2.1 l.2.2.2 (sv hx) he hn hdd
theorem rva {x : Nat} {T : TypeId} {id off : Nat} {e : TypeId} {ds cs : List D} {u : TypeDesc} {z : Option Value} {size bytes : Nat} (l : LA P T u z size bytes true) (hx : S.get x = .ref id off) (he : S.ent id = .blk e ds)
    (hn : off + size ≤ ds.length) (hd : (ds.drop off).take size = cs) : ResV P S (.cell x T) (.agg cs) := resv_a hx he l.1 l.2.1 l.2.2.1 l.2.2.2 hn hd
theorem stA {T : TypeId} {x y : Operand} {z : Option Value} {size bytes : Nat} {id off : Nat} {e : TypeId} {ds : List D} (c ds' : List D) (hi : TI P T z size bytes) (ho : o.op = .store T x y) (hd : o.dst = none)
    (hx : S.op x = .ref id off) (he : S.ent id = .blk e ds) (hy : S.op y = .agg c) (hb : (D.agg c).boxable = true) (hsz : (D.agg c).cells.length = size) (h1 : (D.agg c).cells.all D.one = true)
    (hn : off + size ≤ ds.length) (hds : splice ds off (D.agg c).cells = ds') : IOp P O N o S (S.setE id (.blk e ds')) := iop_store ho hd hi (sv hx) he (sv hy) hb hsz h1 hn hds
theorem faR {T : TypeId} {x : Operand} {i : Nat} {fs : Array Field} {F : Field} {z : Option Value} {size bytes : Nat} {id off : Nat} (off' : Nat) (ho : o.op = .fieldAddr T x i) (hd : o.dst = some t) (ht : Nat.ble (t + 1) N = true)
    (hu : P.underlying T = some (.struct fs)) (hf : fs[i]? = some F) (hi : TI P F.type z size bytes) (hs : 0 < size) (hx : S.op x = .ref id off) (ho' : off + F.offset = off') : IOp P O N o S (S.set t (.ref id off')) :=
  iop_fieldAddr_ref ho hd (lb ht) hu hf hi hs (sv hx) ho'
theorem svaI {n : Node} {S0 : St} {s : Nat} {k : IntKind} {m : Int} (hA : Agree n S S0) (hm : n.rs.elem s = true) (h : S0.get s = .int k m) : SV S (.tmp s) (.int k m) := sv (agr hA hm h)
theorem svaB {n : Node} {S0 : St} {s : Nat} {m : Bool} (hA : Agree n S S0) (hm : n.rs.elem s = true) (h : S0.get s = .bool m) : SV S (.tmp s) (.bool m) := sv (agr hA hm h)
theorem svaR {n : Node} {S0 : St} {s i j : Nat} (hA : Agree n S S0) (hm : n.rs.elem s = true) (h : S0.get s = .ref i j) : SV S (.tmp s) (.ref i j) := sv (agr hA hm h)
theorem svaL {n : Node} {S0 : St} {s : Nat} {f : Bool} {l : List D} (hA : Agree n S S0) (hm : n.rs.elem s = true) (h : S0.get s = .slice f l) : SV S (.tmp s) (.slice f l) := sv (agr hA hm h)
theorem AllW.s {ρ : Nat → Nat} {t : Nat} {d : D} {l : List (Nat × D)} (h : S.get t = d.ren ρ) (hr : d.refsIn S'.okn = true) (k : AllW (SlW S S' ρ) l) : AllW (SlW S S' ρ) ((t, d) :: l) := .cons (.same h hr) k
theorem AllW.sames {ρ : Nat → Nat} : ∀ {l : List (Nat × D)}, l.map (fun p => S.get p.1) = l.map (fun p => p.2.ren ρ) → (l.all fun p => p.2.refsIn S'.okn) = true → AllW (SlW S S' ρ) l
  | [], _, _ => .nil
  | (t, d) :: l, h, hr => by
    simp only [List.map_cons, List.cons.injEq] at h
    simp only [List.all_cons, Bool.and_eq_true] at hr
    exact .cons (.same h.1 hr.1) (AllW.sames h.2 hr.2)
end
theorem SubL.k {d : D} {ds ds' : List D} (t : SubL ds ds') : SubL (d :: ds) (d :: ds') := .cons (.refl d) t
theorem FDL.k {S : St} {d : D} {ds ds' : List D} (t : FDL S ds ds') : FDL S (d :: ds) (d :: ds') := .cons (.refl d) t
theorem SubL.all : ∀ (l : List D), SubL l l
  | [] => .nil
  | d :: l => .cons (.refl d) (SubL.all l)
theorem FDL.all {S : St} (l : List D) : FDL S l l := fdl_refl l
end Go.IL
namespace Go.IL
/-! Pointers: compared with nil, and with themselves. -/
section
variable {P : Program} {O : Origin} {N : Nat} {S S' : St} {o : Oper} {t : Nat}
theorem pointee_of {T e : TypeId} (h : P.underlying T = some (.pointer e)) : P.underlying T = some (.pointer (P.pointee T)) := by
  unfold Program.pointee; rw [h]
theorem nilp_ev {E : Env} {β : Names} {a : Act} {y : Operand} (hr : Rel O N S E β a) (hy : SV S y .nilp) : a.eval y = .pointer none := by
  have := hy.rd hr
  generalize a.eval y = v at this
  cases this; rfl
theorem run_eqnil {T e : TypeId} {p : Option Addr} (hu : P.underlying T = some (.pointer e)) (w : World) (neq : Bool) : (binOp (if neq then .neq else .eql) T (.pointer p) (.pointer none)).run P w = .ok (.bool (if neq then !p.isNone else p.isNone)) w := by
  cases neq
  · exact run_eql_pointer_nil w T p (pointee_of hu)
  · exact run_neq_pointer_nil w T p (pointee_of hu)
theorem iop_pnil_core {T T2 e : TypeId} {x y : Operand} {neq r : Bool} (ho : o.op = .binOp (if neq then .neq else .eql) T x y T2) (hd : o.dst = some t) (ht : t < N) (hu : P.underlying T = some (.pointer e))
    (hx : ∀ E β a, Rel O N S E β a → ∃ p, a.eval x = .pointer p ∧ (if neq then !p.isNone else p.isNone) = r) (hy : SV S y .nilp) : IOp P O N o S (S.set t (.bool r)) :=
  iop_of hd ht fun E β a hr => by
    obtain ⟨p, hp, hq⟩ := hx E β a hr
    have hyv := nilp_ev hr hy
    have h1 := run_eqnil (p := p) hu E.w neq
    rw [hq] at h1
    exact ⟨_, by simp [execOp, ho, hp, hyv, eqGuard, h1], .bool _ _⟩
theorem iop_nen {T T2 e : TypeId} {x y : Operand} {id off : Nat} (ho : o.op = .binOp .neq T x y T2) (hd : o.dst = some t) (ht : t < N) (hu : P.underlying T = some (.pointer e)) (hx : SV S x (.ref id off)) (hy : SV S y .nilp) : IOp P O N o S (S.set t (.bool true)) :=
  iop_pnil_core (neq := true) ho hd ht hu (fun E β a hr => by obtain ⟨b, _, h⟩ := rd_ref (hx.rd hr); exact ⟨_, h, rfl⟩) hy
theorem iop_nenn {T T2 e : TypeId} {x y : Operand} (ho : o.op = .binOp .neq T x y T2) (hd : o.dst = some t) (ht : t < N) (hu : P.underlying T = some (.pointer e)) (hx : SV S x .nilp) (hy : SV S y .nilp) : IOp P O N o S (S.set t (.bool false)) :=
  iop_pnil_core (neq := true) ho hd ht hu (fun E β a hr => ⟨_, nilp_ev hr hx, rfl⟩) hy
end
end Go.IL
