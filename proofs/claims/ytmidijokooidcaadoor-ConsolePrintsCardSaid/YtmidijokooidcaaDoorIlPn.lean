/-
  A part of the proof: rules and plain facts. No condition.
-/
import Derived.Test.YtmidijokooidcaaDoorIlA33bD
import Derived.Laws.Pointers
import Derived.LaidEqlPtr
set_option linter.all false
set_option linter.unusedSimpArgs false
set_option linter.unusedVariables false
open Go Go.IL
namespace Go.Fn
/-! Console: both ways to print a step tell the same. -/
def okNb (c : UInt8) (n : Int) : Bool := decide (0 ≤ n) && decide (n ≤ 999999999) && (!decide (c = 115) || decide (n < 2))
theorem okNb_is {c : UInt8} {n : Int} : okNb c n = true ↔ okN c n := by
  unfold okNb okN
  simp only [Bool.and_eq_true, Bool.or_eq_true, Bool.not_eq_true', decide_eq_false_iff_not, decide_eq_true_iff]
  constructor
  · rintro ⟨⟨h1, h2⟩, h3⟩; exact ⟨h1, h2, fun h => h3.resolve_left (fun hn => hn h)⟩
  · rintro ⟨h1, h2, h3⟩
    refine ⟨⟨h1, h2⟩, ?_⟩
    by_cases h : c = 115
    · exact .inr (h3 h)
    · exact .inl h
def all7 : List UInt8 := [115, 105, 110, 109, 112, 116, 102]
theorem all7_is {c : UInt8} : c ∈ all7 ↔ fieldC c := by simp [all7, fieldC]
/-- Whether a step may be printed as one of kind k. -/
def okB (F : List UInt8) (x : S33) : Bool := F.all (fun c => okNb c (getF x c).1) && all7.all (fun c => F.contains c || decide (getF x c = zF))
theorem okB_is {F : List UInt8} {x : S33} : okB F x = true ↔ (∀ c ∈ F, okN c (getF x c).1) ∧ ∀ c, fieldC c → c ∉ F → getF x c = zF := by
  unfold okB
  rw [Bool.and_eq_true, List.all_eq_true, List.all_eq_true]
  constructor
  · rintro ⟨h1, h2⟩
    refine ⟨fun c hc => okNb_is.1 (h1 c hc), fun c hc hm => ?_⟩
    have h3 := h2 c (all7_is.2 hc)
    rw [Bool.or_eq_true, decide_eq_true_iff] at h3
    exact h3.resolve_left (fun h => hm (by simpa using h))
  · rintro ⟨h1, h2⟩
    refine ⟨fun c hc => okNb_is.2 (h1 c hc), fun c hc => ?_⟩
    rw [Bool.or_eq_true, decide_eq_true_iff]
    by_cases hm : c ∈ F
    · exact .inl (by simpa using hm)
    · exact .inr (h2 c (all7_is.1 hc) hm)
def bareB (x : S33) (F : List UInt8) (f : Nat) (b : Bool) (i : Int) (s : S33) : Option (S33 × Bool) := console_bare_L0 x F f b i s.Side s.ID s.N s.M s.Path s.Text s.Flag
theorem gdSome {α : Type} (q : Bool) (c z : α) : gd q (some c) z = some (bif q then c else z) := by cases q <;> rfl
theorem bareB_step {x : S33} {F p r : List UInt8} {c : UInt8} (hF : F = p ++ c :: r) (hl : F.length ≤ 1000) (hc : fieldC c) (s : S33) (b : Bool) (f : Nat) : bareB x F (f + 1) b (p.length : Int) s = bareB x F f (b && okNb c (getF s c).1) ((p ++ [c]).length : Int) (clrF s c) := by
  unfold bareB
  rw [console_bare_L0]
  have key : ∀ (b0 : Bool) (v : Int), (b0 && decide (0 ≤ v) && decide (v ≤ 999999999) && true) = (b0 && (decide (0 ≤ v) && decide (v ≤ 999999999) && true)) := fun b0 v => by
    cases b0 <;> rfl
  rcases hc with rfl | rfl | rfl | rfl | rfl | rfl | rfl
  · simp only [bndD, lt_at hF, bif_tt, gix_at hF, bnoS, w_at hF (show F.length ≤ 1000000 by omega), show decide (((115 : UInt8).toNat : Int) = 115) = true from rfl, gdSome]
    show console_bare_L0 x F f _ _ 0 s.ID s.N s.M s.Path s.Text s.Flag = console_bare_L0 x F f _ _ 0 s.ID s.N s.M s.Path s.Text s.Flag
    congr 1
    show _ = (b && (decide (0 ≤ s.Side) && decide (s.Side ≤ 999999999) && (!decide ((115 : UInt8) = 115) || decide (s.Side < 2))))
    generalize decide (0 ≤ s.Side) = b1
    generalize decide (s.Side ≤ 999999999) = b2
    generalize decide (s.Side < 2) = b3
    cases b <;> cases b1 <;> cases b2 <;> cases b3 <;> rfl
  · simp only [bndD, lt_at hF, bif_tt, bif_ff, gix_at hF, bnoS, w_at hF (show F.length ≤ 1000000 by omega), show decide (((105 : UInt8).toNat : Int) = 115) = false from rfl, show decide (((105 : UInt8).toNat : Int) = 105) = true from rfl, gdSome]
    show console_bare_L0 x F f _ _ s.Side 0 s.N s.M s.Path s.Text s.Flag = console_bare_L0 x F f _ _ s.Side 0 s.N s.M s.Path s.Text s.Flag
    congr 1
    show _ = (b && (decide (0 ≤ s.ID) && decide (s.ID ≤ 999999999) && (!decide ((105 : UInt8) = 115) || decide (s.ID < 2))))
    generalize decide (0 ≤ s.ID) = b1
    generalize decide (s.ID ≤ 999999999) = b2
    generalize decide (s.ID < 2) = b3
    cases b <;> cases b1 <;> cases b2 <;> cases b3 <;> rfl
  · simp only [bndD, lt_at hF, bif_tt, bif_ff, gix_at hF, bnoS, w_at hF (show F.length ≤ 1000000 by omega), show decide (((110 : UInt8).toNat : Int) = 115) = false from rfl, show decide (((110 : UInt8).toNat : Int) = 105) = false from rfl, show decide (((110 : UInt8).toNat : Int) = 110) = true from rfl, gdSome]
    show console_bare_L0 x F f _ _ s.Side s.ID 0 s.M s.Path s.Text s.Flag = console_bare_L0 x F f _ _ s.Side s.ID 0 s.M s.Path s.Text s.Flag
    congr 1
    show _ = (b && (decide (0 ≤ s.N) && decide (s.N ≤ 999999999) && (!decide ((110 : UInt8) = 115) || decide (s.N < 2))))
    generalize decide (0 ≤ s.N) = b1
    generalize decide (s.N ≤ 999999999) = b2
    generalize decide (s.N < 2) = b3
    cases b <;> cases b1 <;> cases b2 <;> cases b3 <;> rfl
  · simp only [bndD, lt_at hF, bif_tt, bif_ff, gix_at hF, bnoS, w_at hF (show F.length ≤ 1000000 by omega), show decide (((109 : UInt8).toNat : Int) = 115) = false from rfl, show decide (((109 : UInt8).toNat : Int) = 105) = false from rfl, show decide (((109 : UInt8).toNat : Int) = 110) = false from rfl, show decide (((109 : UInt8).toNat : Int) = 109) = true from rfl, gdSome]
    show console_bare_L0 x F f _ _ s.Side s.ID s.N 0 s.Path s.Text s.Flag = console_bare_L0 x F f _ _ s.Side s.ID s.N 0 s.Path s.Text s.Flag
    congr 1
    show _ = (b && (decide (0 ≤ s.M) && decide (s.M ≤ 999999999) && (!decide ((109 : UInt8) = 115) || decide (s.M < 2))))
    generalize decide (0 ≤ s.M) = b1
    generalize decide (s.M ≤ 999999999) = b2
    generalize decide (s.M < 2) = b3
    cases b <;> cases b1 <;> cases b2 <;> cases b3 <;> rfl
  · simp only [bndD, lt_at hF, bif_tt, bif_ff, gix_at hF, bnoS, w_at hF (show F.length ≤ 1000000 by omega), show decide (((112 : UInt8).toNat : Int) = 115) = false from rfl, show decide (((112 : UInt8).toNat : Int) = 105) = false from rfl, show decide (((112 : UInt8).toNat : Int) = 110) = false from rfl, show decide (((112 : UInt8).toNat : Int) = 109) = false from rfl, show decide (((112 : UInt8).toNat : Int) = 112) = true from rfl, gdSome]
    show console_bare_L0 x F f _ _ s.Side s.ID s.N s.M 0 s.Text s.Flag = console_bare_L0 x F f _ _ s.Side s.ID s.N s.M 0 s.Text s.Flag
    congr 1
    show _ = (b && (decide (0 ≤ s.Path) && decide (s.Path ≤ 999999999) && (!decide ((112 : UInt8) = 115) || decide (s.Path < 2))))
    generalize decide (0 ≤ s.Path) = b1
    generalize decide (s.Path ≤ 999999999) = b2
    generalize decide (s.Path < 2) = b3
    cases b <;> cases b1 <;> cases b2 <;> cases b3 <;> rfl
  · simp only [bndD, lt_at hF, bif_tt, bif_ff, gix_at hF, bnoS, w_at hF (show F.length ≤ 1000000 by omega), show decide (((116 : UInt8).toNat : Int) = 115) = false from rfl, show decide (((116 : UInt8).toNat : Int) = 105) = false from rfl, show decide (((116 : UInt8).toNat : Int) = 110) = false from rfl, show decide (((116 : UInt8).toNat : Int) = 109) = false from rfl, show decide (((116 : UInt8).toNat : Int) = 112) = false from rfl, show decide (((116 : UInt8).toNat : Int) = 116) = true from rfl]
    rw [show okNb 116 (getF s 116).1 = true from rfl, Bool.and_true]
    rfl
  · simp only [bndD, lt_at hF, bif_tt, bif_ff, gix_at hF, bnoS, w_at hF (show F.length ≤ 1000000 by omega), show decide (((102 : UInt8).toNat : Int) = 115) = false from rfl, show decide (((102 : UInt8).toNat : Int) = 105) = false from rfl, show decide (((102 : UInt8).toNat : Int) = 110) = false from rfl, show decide (((102 : UInt8).toNat : Int) = 109) = false from rfl, show decide (((102 : UInt8).toNat : Int) = 112) = false from rfl, show decide (((102 : UInt8).toNat : Int) = 116) = false from rfl]
    rw [show okNb 102 (getF s 102).1 = true from rfl, Bool.and_true]
    rfl
theorem bareB_L {x : S33} {F : List UInt8} (hl : F.length ≤ 1000) (hc : ∀ c ∈ F, fieldC c) (r : List UInt8) : ∀ (p : List UInt8) (s : S33) (b : Bool) (f : Nat), F = p ++ r → r.Nodup → r.length < f → s.Kind = x.Kind → bareB x F f b (p.length : Int) s = some (r.foldl clrF s, b && r.all (fun c => okNb c (getF s c).1)) := by
  induction r with
  | nil =>
    intro p s b f h _ hf hk
    obtain ⟨f, rfl⟩ : ∃ g, f = g + 1 := ⟨f - 1, by simp at hf; omega⟩
    rw [List.append_nil] at h
    unfold bareB
    rw [console_bare_L0]
    simp only [bndD, h, lt_len, bif_ff, ← hk, List.all_nil, Bool.and_true]
    rfl
  | cons c r ih =>
    intro p s b f h hn hf hk
    obtain ⟨f, rfl⟩ : ∃ g, f = g + 1 := ⟨f - 1, by simp at hf; omega⟩
    have hcm : c ∈ F := by rw [h]; simp
    have hn := List.nodup_cons.1 hn
    obtain ⟨k1, _, k3⟩ := clr_get (hc c hcm) s
    rw [bareB_step h hl (hc c hcm), ih (p ++ [c]) (clrF s c) _ f (next_at h) hn.2 (by simpa using hf) (k1.trans hk)]
    rw [List.all_cons, Bool.and_assoc]
    refine congrArg (fun q => some (List.foldl clrF s (c :: r), b && (okNb c (getF s c).1 && q))) (Bool.eq_iff_iff.2 ?_)
    rw [List.all_eq_true, List.all_eq_true]
    have he : ∀ d ∈ r, getF (clrF s c) d = getF s d := fun d hd => k3 d (hc d (by rw [h]; simp [hd])) (fun e => hn.1 (e ▸ hd))
    exact ⟨fun h d hd => by rw [← he d hd]; exact h d hd, fun h d hd => by rw [he d hd]; exact h d hd⟩
/-- What a step is printed as. -/
def printV (x : S33) : List UInt8 × Int :=
  if 16 ≤ x.Kind then ([], 12)
  else if okB (hasK x.Kind.toNat) x = true then (if 300 < x.Text.length then ([], 5) else (joinL 32 ((formK x.Kind.toNat).name :: (hasK x.Kind.toNat).map (shewn x)), 0))
  else ([], 2)
theorem shewn_len {x : S33} {c : UInt8} (ht : x.Text.length ≤ 300) : (shewn x c).length ≤ 700 := by
  unfold shewn shewF
  by_cases h1 : c = 116
  · subst h1
    rw [if_pos rfl]
    show (hexS x.Text).length ≤ 700
    unfold hexS
    split
    · simp
    · rw [hexL_len]; omega
  · rw [if_neg h1]
    split
    · unfold markS; cases (getF x c).2.2 <;> simp
    · have := itoaF_len (getF x c).1; omega
theorem join_len (c : UInt8) (m : Nat) : ∀ ws : List (List UInt8), (∀ w ∈ ws, w.length ≤ m) → (joinL c ws).length ≤ ws.length * (m + 1)
  | [], _ => by simp [joinL]
  | [w], h => by have := h w (by simp); simp [joinL]; omega
  | w :: v :: ws, h => by
    have h1 := h w (by simp)
    have h2 := join_len c m (v :: ws) (fun x hx => h x (by simp [hx]))
    rw [joinL_cons (by simp), List.length_append, List.length_cons]
    simp only [List.length_cons, Nat.add_mul, Nat.one_mul] at h2 ⊢
    omega
theorem name_rt : ((List.range 16).all fun k => decide ((formK k).name.length ≤ 6) && decide ((formK k).name ≠ []) && decide ((formK k).name.head? ≠ some 35) && (formK k).name.all (fun b => decide (43 ≤ b.toNat)) && decide (kx (formK k).name = k) && decide (sennitref33_Name (k : Int) = some (formK k).name)) = true := by kernel_rfl
theorem name_of {k : Nat} (hk : k < 16) : (formK k).name.length ≤ 6 ∧ (formK k).name ≠ [] ∧ (formK k).name.head? ≠ some 35 ∧ (∀ b ∈ (formK k).name, 43 ≤ b.toNat) ∧ kx (formK k).name = k ∧ sennitref33_Name (k : Int) = some (formK k).name := by
  have h := List.all_eq_true.1 name_rt k (List.mem_range.2 hk)
  simp only [Bool.and_eq_true, decide_eq_true_iff, List.all_eq_true] at h
  obtain ⟨⟨⟨⟨⟨h1, h2⟩, h3⟩, h4⟩, h5⟩, h6⟩ := h
  exact ⟨h1, h2, h3, h4, h5, h6⟩
theorem words_len {x : S33} {k : Nat} (hk : k < 16) (ht : x.Text.length ≤ 300) : (joinL 32 ((formK k).name :: (hasK k).map (shewn x))).length ≤ 4206 := by
  obtain ⟨_, _, f3, _, _, _⟩ := fields_at hk
  have h1 := (name_of hk).1
  have := join_len 32 700 ((formK k).name :: (hasK k).map (shewn x)) (fun w hw => by
    rcases List.mem_cons.1 hw with rfl | hw
    · omega
    · obtain ⟨c, _, rfl⟩ := List.mem_map.1 hw
      exact shewn_len ht)
  have h2 : ((formK k).name :: (hasK k).map (shewn x)).length ≤ 6 := by simp; omega
  have : ((formK k).name :: (hasK k).map (shewn x)).length * (700 + 1) ≤ 6 * 701 := Nat.mul_le_mul_right _ h2
  omega
theorem kind_nat {n : Int} (h0 : 0 ≤ n) (h1 : n < 16) : ∃ k : Nat, k < 16 ∧ n = (k : Int) := ⟨n.toNat, by omega, by omega⟩
theorem zero_ext {y : S33} (h : ∀ d, fieldC d → getF y d = zF) : y = ⟨y.Kind, 0, 0, 0, 0, 0, [], false⟩ := by
  have g1 : y.Side = 0 := congrArg (·.1) (h 115 (by decide))
  have g2 : y.ID = 0 := congrArg (·.1) (h 105 (by decide))
  have g3 : y.N = 0 := congrArg (·.1) (h 110 (by decide))
  have g4 : y.M = 0 := congrArg (·.1) (h 109 (by decide))
  have g5 : y.Path = 0 := congrArg (·.1) (h 112 (by decide))
  have g6 : y.Text = [] := congrArg (·.2.1) (h 116 (by decide))
  have g7 : y.Flag = false := congrArg (·.2.2) (h 102 (by decide))
  obtain ⟨a, b, c, d, e, f, g, i⟩ := y
  simp only at g1 g2 g3 g4 g5 g6 g7
  subst g1 g2 g3 g4 g5 g6 g7
  rfl
theorem prints33 {x : S33} (hk0 : 0 ≤ x.Kind) (hk1 : x.Kind ≤ 255) (ht : x.Text.length ≤ 100000) : console_Print x = some (printV x) := by
  by_cases hk : 16 ≤ x.Kind
  · unfold console_Print printV
    rw [forms_is, bnoS, bndD, w64 (by omega) (by omega), forms_len, bndD, decide_eq_true (by omega), bif_tt, if_pos hk]
  · obtain ⟨k, hk16, hkx⟩ := kind_nat hk0 (by omega)
    obtain ⟨_, f2, f3, f4, f5, f6⟩ := fields_at hk16
    have hkn : x.Kind.toNat = k := by omega
    unfold printV
    rw [if_neg hk, hkn]
    by_cases hok : okB (hasK k) x = true
    · rw [if_pos hok]
      obtain ⟨ho, hz⟩ := okB_is.1 hok
      by_cases ht3 : x.Text.length ≤ 300
      · rw [if_neg (by omega), print33 hk16 hkx ho hz ht3, join33 (by simp; omega) (by have := words_len hk16 ht3; omega)]; rfl
      · rw [if_pos (by omega)]
        unfold console_Print
        have hh : (formK k).has = hasK k := rfl
        rw [forms_is, bnoS, bndD, hkx, w64 (by omega) (by omega), forms_len, bndD, decide_eq_false (by omega), bif_ff, f2, bnoS, hh, bare33 (by omega) f4 ho, bnoS]
        obtain ⟨c1, c2⟩ := clrs_get (hasK k) x f4
        have hg : ∀ d, fieldC d → getF ((hasK k).foldl clrF x) d = zF := fun d hd => c2 d hd (by
          by_cases h : d ∈ hasK k
          · exact .inl h
          · exact .inr (hz d hd h))
        rw [zero_ext hg, c1]
        simp only [Bool.not_true, bif_ff, bndD, hkx, decide_true, beq_self_eq_true, Bool.and_self]
        unfold console_Print_J0
        rw [bif_ff, bndD, decide_eq_true (by omega), bif_tt]
    · rw [if_neg hok]
      unfold console_Print
      have hh : (formK k).has = hasK k := rfl
      have hb := bareB_L (x := x) (F := hasK k) (by omega) f4 (hasK k) [] x true fuel rfl f6 (fuel_gt (by omega)) rfl
      have hb : console_bare x (hasK k) = _ := hb
      rw [forms_is, bnoS, bndD, hkx, w64 (by omega) (by omega), forms_len, bndD, decide_eq_false (by omega), bif_ff, f2, bnoS, hh, hb, bnoS]
      simp only [Bool.true_and]
      by_cases ha : (hasK k).all (fun c => okNb c (getF x c).1) = true
      · rw [ha, Bool.not_true, bif_ff, bndD]
        obtain ⟨c1, c2⟩ := clrs_get (hasK k) x f4
        have hnz : ¬ ∀ d, fieldC d → getF ((hasK k).foldl clrF x) d = zF := fun hg => hok (by
          unfold okB
          rw [ha, Bool.true_and, List.all_eq_true]
          intro c hc
          rw [Bool.or_eq_true, decide_eq_true_iff]
          by_cases hm : c ∈ hasK k
          · exact .inl (by simpa using hm)
          · right
            rw [← hg c (all7_is.1 hc)]
            clear c1 c2 hg hb hok ha
            have : ∀ (l : List UInt8) (s : S33), (∀ d ∈ l, fieldC d) → c ∉ l → getF (l.foldl clrF s) c = getF s c := by
              intro l
              induction l with
              | nil => intro s _ _; rfl
              | cons d l ih =>
                intro s h1 h2
                rw [List.foldl_cons, ih (clrF s d) (fun e he => h1 e (by simp [he])) (fun e => h2 (by simp [e]))]
                exact (clr_get (h1 d (by simp)) s).2.2 c (all7_is.1 hc) (fun e => h2 (by simp [e]))
            exact (this (hasK k) x f4 hm).symm)
        generalize (hasK k).foldl clrF x = y at hnz
        have hf : (decide (y.Kind = (k : Int)) && (decide (y.Side = 0) && (decide (y.ID = 0) && (decide (y.N = 0) && (decide (y.M = 0) && (decide (y.Path = 0) && (decide (y.Text = ([] : List UInt8)) && ((y.Flag == false) && true)))))))) = false := by
          rw [← Bool.not_eq_true]
          intro h
          simp only [Bool.and_eq_true, decide_eq_true_iff, beq_iff_eq] at h
          obtain ⟨_, g1, g2, g3, g4, g5, g6, g7, _⟩ := h
          refine hnz ?_
          rintro d (rfl | rfl | rfl | rfl | rfl | rfl | rfl)
          · show (y.Side, _, _) = zF; rw [g1]; rfl
          · show (y.ID, _, _) = zF; rw [g2]; rfl
          · show (y.N, _, _) = zF; rw [g3]; rfl
          · show (y.M, _, _) = zF; rw [g4]; rfl
          · show (y.Path, _, _) = zF; rw [g5]; rfl
          · show ((0 : Int), y.Text, _) = zF; rw [g6]; rfl
          · show ((0 : Int), ([] : List UInt8), y.Flag) = zF; rw [g7]; rfl
        rw [hf]; rfl
      · rw [Bool.not_eq_true] at ha
        rw [ha]; rfl
/-! The document's way. -/
theorem has_L {l : List UInt8} (hl : l.length ≤ 1000) (c : UInt8) (r : List UInt8) : ∀ (p : List UInt8) (f : Nat), l = p ++ r → r.length < f → sennitref33_has_L0 l (c.toNat : Int) f (p.length : Int) = some (r.contains c) := by
  induction r with
  | nil =>
    intro p f h hf
    obtain ⟨f, rfl⟩ : ∃ g, f = g + 1 := ⟨f - 1, by simp at hf; omega⟩
    rw [List.append_nil] at h
    rw [sennitref33_has_L0]
    simp only [bndD, h, lt_len, bif_ff]; rfl
  | cons b r ih =>
    intro p f h hf
    obtain ⟨f, rfl⟩ : ∃ g, f = g + 1 := ⟨f - 1, by simp at hf; omega⟩
    rw [sennitref33_has_L0]
    simp only [bndD, lt_at h, bif_tt, gix_at h, bnoS, w_at h (show l.length ≤ 1000000 by omega)]
    by_cases hb : b = c
    · subst hb
      rw [decide_eq_true rfl, bif_tt]; simp
    · rw [decide_eq_false (fun e => hb (UInt8.toNat_inj.1 (by omega))), bif_ff, ih (p ++ [b]) f (next_at h) (by simpa using hf)]
      have : (b :: r).contains c = r.contains c := by
        rw [List.contains_cons, show (c == b) = false from beq_false_of_ne (fun e => hb e.symm), Bool.false_or]
      rw [this]
theorem has33 {l : List UInt8} (hl : l.length ≤ 1000) (c : UInt8) : sennitref33_has l (c.toNat : Int) = some (l.contains c) := has_L hl c l [] fuel rfl (fuel_gt (by omega))
def num5 : List UInt8 := [115, 105, 110, 109, 112]
theorem value33 {c : UInt8} (hc : c ∈ num5) (x : S33) : sennitref33_value x (c.toNat : Int) = some (getF x c).1 := by
  have hc : c = 115 ∨ c = 105 ∨ c = 110 ∨ c = 109 ∨ c = 112 := by simpa [num5] using hc
  rcases hc with rfl | rfl | rfl | rfl | rfl <;> rfl
def badB (F : List UInt8) (x : S33) (c : UInt8) : Bool := (decide ((getF x c).1 < 0) || decide (999999999 < (getF x c).1)) || (!decide ((getF x c).1 = 0) && !F.contains c)
def badE (F : List UInt8) (x : S33) : Bool := (decide (1 < x.Side) || (!decide (x.Text = []) && !F.contains 116)) || (x.Flag && !F.contains 102)
theorem gdc {o : Option UInt8} {q : Bool} {c : UInt8} (h : o = some c) {z : UInt8} : gd q o z = some (bif q then c else z) := by
  cases q <;> rw [h] <;> rfl
theorem odd_L {F : List UInt8} (hF : F.length ≤ 1000) (x : S33) (r : List UInt8) : ∀ (p : List UInt8) (f : Nat), num5 = p ++ r → r.length < f → sennitref33_odd_L0 x F f (p.length : Int) = some (r.any (badB F x) || badE F x) := by
  induction r with
  | nil =>
    intro p f h hf
    obtain ⟨f, rfl⟩ : ∃ g, f = g + 1 := ⟨f - 1, by simp at hf; omega⟩
    rw [List.append_nil] at h
    subst h
    rw [sennitref33_odd_L0, bndD, show ([115, 105, 110, 109, 112] : List UInt8) = num5 from rfl, lt_len, bif_ff, bndD, bndD]
    have h116 : sennitref33_has F 116 = some (F.contains 116) := by
      have h := has33 hF 116
      rwa [show (((116 : UInt8).toNat : Nat) : Int) = 116 from rfl] at h
    have h102 : sennitref33_has F 102 = some (F.contains 102) := by
      have h := has33 hF 102
      rwa [show (((102 : UInt8).toNat : Nat) : Int) = 102 from rfl] at h
    rw [h116, gdSome, bnoS, bndD, bndD, h102, gdSome, bnoS, bndD, bndD]
    simp only [List.any_nil, Bool.false_or]
    unfold badE
    congr 1
    generalize decide (1 < x.Side) = b1
    generalize decide (x.Text = []) = b2
    generalize F.contains 116 = b3
    generalize F.contains 102 = b4
    generalize x.Flag = b5
    show _ = _
    cases b1 <;> cases b2 <;> cases b3 <;> cases b4 <;> cases b5 <;> rfl
  | cons c r ih =>
    intro p f h hf
    obtain ⟨f, rfl⟩ : ∃ g, f = g + 1 := ⟨f - 1, by simp at hf; omega⟩
    have hcm : c ∈ num5 := by rw [h]; simp
    rw [sennitref33_odd_L0, bndD, show ([115, 105, 110, 109, 112] : List UInt8) = num5 from rfl, lt_at h, bif_tt, gix_at h, bnoS, value33 hcm, bnoS, bndD, bndD, bndD, bndD]
    rw [gdc rfl, bnoS]
    have e : gd ((decide ((getF x c).fst < 0) || decide (999999999 < (getF x c).fst)) == false && (!decide ((getF x c).fst = 0)) == true) (sennitref33_has F ((bif ((decide ((getF x c).fst < 0) || decide (999999999 < (getF x c).fst)) == false && (!decide ((getF x c).fst = 0)) == true) then c else 0).toNat : Int)) default = some (bif ((decide ((getF x c).fst < 0) || decide (999999999 < (getF x c).fst)) == false && (!decide ((getF x c).fst = 0)) == true) then F.contains c else false) := by
      generalize ((decide ((getF x c).fst < 0) || decide (999999999 < (getF x c).fst)) == false && (!decide ((getF x c).fst = 0)) == true) = q
      cases q
      · rw [gdff]; rfl
      · rw [gdtt, cond_true, cond_true, has33 hF c]
    rw [e, bnoS, bndD, bndD, bndD, w_at h (show num5.length ≤ 1000000 by simp [num5])]
    have hbad : ((decide ((getF x c).fst < 0) || decide (999999999 < (getF x c).fst)) || ((!decide ((getF x c).fst = 0)) && !(bif ((decide ((getF x c).fst < 0) || decide (999999999 < (getF x c).fst)) == false && (!decide ((getF x c).fst = 0)) == true) then F.contains c else false))) = badB F x c := by
      unfold badB
      generalize decide ((getF x c).fst < 0) = b1
      generalize decide (999999999 < (getF x c).fst) = b2
      generalize decide ((getF x c).fst = 0) = b3
      generalize F.contains c = b4
      cases b1 <;> cases b2 <;> cases b3 <;> cases b4 <;> rfl
    rw [hbad, List.any_cons]
    cases badB F x c
    · rw [bif_ff, Bool.false_or]
      exact ih (p ++ [c]) f (next_at h) (by simpa using hf)
    · rfl
theorem bad_ok {F : List UInt8} (x : S33) : (num5.any (badB F x) || badE F x) = !okB F x := by
  have key : (num5.any (badB F x) || badE F x) = false ↔ okB F x = true := by
    rw [okB_is, Bool.or_eq_false_iff, List.any_eq_false]
    have hb : ∀ c, ¬ badB F x c = true ↔ (0 ≤ (getF x c).1 ∧ (getF x c).1 ≤ 999999999) ∧ ((getF x c).1 = 0 ∨ c ∈ F) := fun c => by
      unfold badB
      simp only [Bool.not_eq_true, Bool.or_eq_false_iff, decide_eq_false_iff_not, Bool.and_eq_false_iff, Bool.not_eq_false', decide_eq_true_iff, List.contains_iff_mem]
      constructor
      · rintro ⟨⟨h1, h2⟩, h3⟩; exact ⟨⟨by omega, by omega⟩, h3⟩
      · rintro ⟨⟨h1, h2⟩, h3⟩; exact ⟨⟨by omega, by omega⟩, h3⟩
    have he : badE F x = false ↔ (x.Side ≤ 1 ∧ (x.Text = [] ∨ (116 : UInt8) ∈ F)) ∧ (x.Flag = false ∨ (102 : UInt8) ∈ F) := by
      unfold badE
      simp only [Bool.or_eq_false_iff, decide_eq_false_iff_not, Bool.and_eq_false_iff, Bool.not_eq_false', decide_eq_true_iff, List.contains_iff_mem]
      constructor
      · rintro ⟨⟨h1, h2⟩, h3⟩; exact ⟨⟨by omega, h2⟩, h3⟩
      · rintro ⟨⟨h1, h2⟩, h3⟩; exact ⟨⟨by omega, h2⟩, h3⟩
    rw [he]
    constructor
    · rintro ⟨h1, ⟨h2, h3⟩, h4⟩
      have hn := fun c hc => (hb c).1 (h1 c hc)
      refine ⟨fun c hc => ?_, ?_⟩
      · by_cases h5 : c ∈ num5
        · obtain ⟨⟨a, b⟩, _⟩ := hn c h5
          refine ⟨a, b, ?_⟩
          rintro rfl
          show x.Side < 2; omega
        · have : (getF x c).1 = 0 := by
            have h5 : ¬ (c = 115 ∨ c = 105 ∨ c = 110 ∨ c = 109 ∨ c = 112) := by simpa [num5] using h5
            unfold getF
            rw [if_neg (fun e => h5 (by simp [e])), if_neg (fun e => h5 (by simp [e])), if_neg (fun e => h5 (by simp [e])), if_neg (fun e => h5 (by simp [e])), if_neg (fun e => h5 (by simp [e]))]
            split <;> rfl
          rw [this]; exact okN0 _
      · rintro c (rfl | rfl | rfl | rfl | rfl | rfl | rfl) hm
        · have : x.Side = 0 := (hn 115 (by decide)).2.resolve_right hm
          show (x.Side, _, _) = zF; rw [this]; rfl
        · have : x.ID = 0 := (hn 105 (by decide)).2.resolve_right hm
          show (x.ID, _, _) = zF; rw [this]; rfl
        · have : x.N = 0 := (hn 110 (by decide)).2.resolve_right hm
          show (x.N, _, _) = zF; rw [this]; rfl
        · have : x.M = 0 := (hn 109 (by decide)).2.resolve_right hm
          show (x.M, _, _) = zF; rw [this]; rfl
        · have : x.Path = 0 := (hn 112 (by decide)).2.resolve_right hm
          show (x.Path, _, _) = zF; rw [this]; rfl
        · have : x.Text = [] := h3.resolve_right hm
          show ((0 : Int), x.Text, _) = zF; rw [this]; rfl
        · have : x.Flag = false := h4.resolve_right hm
          show ((0 : Int), ([] : List UInt8), x.Flag) = zF; rw [this]; rfl
    · rintro ⟨h1, h2⟩
      refine ⟨fun c hc => (hb c).2 ?_, ?_⟩
      · have hcf : fieldC c := by
          have : c = 115 ∨ c = 105 ∨ c = 110 ∨ c = 109 ∨ c = 112 := by simpa [num5] using hc
          unfold fieldC
          rcases this with h | h | h | h | h <;> simp [h]
        by_cases hm : c ∈ F
        · have := h1 c hm; exact ⟨⟨this.1, this.2.1⟩, .inr hm⟩
        · rw [h2 c hcf hm]; exact ⟨⟨by decide, by decide⟩, .inl rfl⟩
      · refine ⟨⟨?_, ?_⟩, ?_⟩
        · by_cases hm : (115 : UInt8) ∈ F
          · have : x.Side < 2 := (h1 115 hm).2.2 rfl
            omega
          · have : x.Side = 0 := congrArg (·.1) (h2 115 (by decide) hm)
            omega
        · by_cases hm : (116 : UInt8) ∈ F
          · exact .inr hm
          · exact .inl (congrArg (·.2.1) (h2 116 (by decide) hm))
        · by_cases hm : (102 : UInt8) ∈ F
          · exact .inr hm
          · exact .inl (congrArg (·.2.2) (h2 102 (by decide) hm))
  cases h : okB F x
  · rw [Bool.not_false, ← Bool.not_eq_false]
    intro hf
    rw [key.1 hf] at h; cases h
  · exact key.2 h
theorem rhexc_all : ((List.range 256).all fun n => (match quoI .u8 (n : Int) 16 with | some r => decide (gix ([48, 49, 50, 51, 52, 53, 54, 55, 56, 57, 97, 98, 99, 100, 101, 102] : List UInt8) r = some (hexc (n / 16))) | none => false) && (match remI (n : Int) 16 with | some r => decide (gix ([48, 49, 50, 51, 52, 53, 54, 55, 56, 57, 97, 98, 99, 100, 101, 102] : List UInt8) r = some (hexc (n % 16))) | none => false)) = true := by kernel_rfl
theorem rhexc_at (b : UInt8) : (∃ r, quoI .u8 (b.toNat : Int) 16 = some r ∧ gix ([48, 49, 50, 51, 52, 53, 54, 55, 56, 57, 97, 98, 99, 100, 101, 102] : List UInt8) r = some (hexc (b.toNat / 16))) ∧ ∃ r, remI (b.toNat : Int) 16 = some r ∧ gix ([48, 49, 50, 51, 52, 53, 54, 55, 56, 57, 97, 98, 99, 100, 101, 102] : List UInt8) r = some (hexc (b.toNat % 16)) := by
  have h := List.all_eq_true.1 rhexc_all b.toNat (List.mem_range.2 (u8_lt b))
  rw [Bool.and_eq_true] at h
  obtain ⟨h1, h2⟩ := h
  refine ⟨?_, ?_⟩
  · revert h1
    cases quoI .u8 (b.toNat : Int) 16 with
    | none => intro h; cases h
    | some r => intro h; exact ⟨r, rfl, of_decide_eq_true h⟩
  · revert h2
    cases remI (b.toNat : Int) 16 with
    | none => intro h; cases h
    | some r => intro h; exact ⟨r, rfl, of_decide_eq_true h⟩
theorem rhex_L {t : List UInt8} (ht : t.length ≤ 100000) : ∀ (r p : List UInt8) (f : Nat), t = p ++ r → r.length < f → sennitref33_hex_L0 t f (hexL p) (p.length : Int) = some (hexL t)
  | [], p, f + 1, h, _ => by
    rw [List.append_nil] at h
    rw [sennitref33_hex_L0]
    simp only [bndD, h, lt_len, bif_ff]
  | b :: r, p, f + 1, h, hf => by
    have hp : p.length + 1 ≤ 100000 := by rw [h] at ht; simp at ht; omega
    obtain ⟨⟨q, q1, q2⟩, ⟨q', q3, q4⟩⟩ := rhexc_at b
    have hl := hexL_len p
    rw [sennitref33_hex_L0]
    simp only [bndD, lt_at h, bif_tt, gix_at h, bnoS, w_at h (show t.length ≤ 1000000 by omega), q1, q2, q3, q4]
    rw [app_ok (by simp; omega) (by simp; omega), bnoS]
    have e : hexL p ++ [hexc (b.toNat / 16), hexc (b.toNat % 16)] = hexL (p ++ [b]) := by unfold hexL; rw [List.flatMap_append]; rfl
    rw [e]
    exact rhex_L ht r (p ++ [b]) f (next_at h) (by simpa using hf)
theorem rhex33 {t : List UInt8} (ht : t.length ≤ 100000) : sennitref33_hex t = some (hexS t) := by
  unfold sennitref33_hex hexS
  rw [bndD]
  by_cases h : t = []
  · rw [decide_eq_true h, bif_tt, if_pos h]
  · rw [decide_eq_false h, bif_ff, if_neg h]
    exact rhex_L ht t [] fuel rfl (fuel_gt (by omega))
theorem rmark33 (b : Bool) : sennitref33_mark b = some (markS b) := by unfold sennitref33_mark markS; cases b <;> rfl
theorem join_flat (c : UInt8) : ∀ (w : List UInt8) (ws : List (List UInt8)), joinL c (w :: ws) = w ++ ws.flatMap (fun v => c :: v)
  | w, [] => by simp [joinL]
  | w, v :: ws => by rw [joinL_cons (by simp), join_flat c v ws]; simp
theorem rprint_L {x : S33} {F : List UInt8} (hl : F.length ≤ 1000) (hc : ∀ c ∈ F, fieldC c) (ho : ∀ c ∈ F, okN c (getF x c).1) (ht : x.Text.length ≤ 300) (w : List UInt8) (hw : w.length ≤ 1000) (r : List UInt8) : ∀ (p : List UInt8) (f : Nat), F = p ++ r → r.length < f →
    sennitref33_Print_L0 x F f (w ++ (p.map (shewn x)).flatMap (fun v => 32 :: v)) (p.length : Int) = some (w ++ (F.map (shewn x)).flatMap (fun v => 32 :: v), 0) := by
  have hbd : ∀ l : List UInt8, ((l.map (shewn x)).flatMap (fun v => (32 : UInt8) :: v)).length ≤ l.length * 701 := by
    intro l
    induction l with
    | nil => simp
    | cons c l ih =>
      have := shewn_len (c := c) ht
      simp only [List.map_cons, List.flatMap_cons, List.length_append, List.length_cons, Nat.add_mul, Nat.one_mul]
      omega
  induction r with
  | nil =>
    intro p f h hf
    obtain ⟨f, rfl⟩ : ∃ g, f = g + 1 := ⟨f - 1, by simp at hf; omega⟩
    rw [List.append_nil] at h
    rw [sennitref33_Print_L0]
    simp only [bndD, h, lt_len, bif_ff]
  | cons c r ih =>
    intro p f h hf
    obtain ⟨f, rfl⟩ : ∃ g, f = g + 1 := ⟨f - 1, by simp at hf; omega⟩
    have hcm : c ∈ F := by rw [h]; simp
    have hpl : p.length ≤ 1000 := by rw [h] at hl; simp at hl; omega
    have hb := hbd p
    have hbb : p.length * 701 ≤ 1000 * 701 := Nat.mul_le_mul_right _ hpl
    have hsl := shewn_len (c := c) ht
    have hnext := ih (p ++ [c]) f (next_at h) (by simpa using hf)
    have e2 : w ++ ((p ++ [c]).map (shewn x)).flatMap (fun v => (32 : UInt8) :: v) = w ++ (p.map (shewn x)).flatMap (fun v => (32 : UInt8) :: v) ++ [32] ++ shewn x c := by
      rw [List.map_append, List.flatMap_append]; simp
    rw [e2] at hnext
    rw [sennitref33_Print_L0]
    have hc1 : cat (w ++ (p.map (shewn x)).flatMap (fun v => (32 : UInt8) :: v)) [32] = some (w ++ (p.map (shewn x)).flatMap (fun v => (32 : UInt8) :: v) ++ [32]) := cat_ok (by simp only [List.length_append, List.length_singleton]; omega)
    have hc2 : cat (w ++ (p.map (shewn x)).flatMap (fun v => (32 : UInt8) :: v) ++ [32]) (shewn x c) = some (w ++ (p.map (shewn x)).flatMap (fun v => (32 : UInt8) :: v) ++ [32] ++ shewn x c) := cat_ok (by simp only [List.length_append, List.length_singleton]; omega)
    have hk := ho c hcm
    rw [bndD, lt_at h, bif_tt, gix_at h, bnoS, bndD]
    rcases hc c hcm with rfl | rfl | rfl | rfl | rfl | rfl | rfl
    · have hk : okN 115 x.Side := hk
      rw [show decide (((115 : UInt8).toNat : Int) = 116) = false from rfl, bif_ff, bndD, show decide (((115 : UInt8).toNat : Int) = 102) = false from rfl, bif_ff, hc1, bnoS, bnoS, show sennitref33_value x ((115 : UInt8).toNat : Int) = some x.Side from rfl, bnoS, digits33 (j_ok hk.1 hk.2.1), bnoS, show itoaF x.Side = shewn x 115 from rfl, hc2, bnoS, bndD, w_at h (by omega), hnext]
    · have hk : okN 105 x.ID := hk
      rw [show decide (((105 : UInt8).toNat : Int) = 116) = false from rfl, bif_ff, bndD, show decide (((105 : UInt8).toNat : Int) = 102) = false from rfl, bif_ff, hc1, bnoS, bnoS, show sennitref33_value x ((105 : UInt8).toNat : Int) = some x.ID from rfl, bnoS, digits33 (j_ok hk.1 hk.2.1), bnoS, show itoaF x.ID = shewn x 105 from rfl, hc2, bnoS, bndD, w_at h (by omega), hnext]
    · have hk : okN 110 x.N := hk
      rw [show decide (((110 : UInt8).toNat : Int) = 116) = false from rfl, bif_ff, bndD, show decide (((110 : UInt8).toNat : Int) = 102) = false from rfl, bif_ff, hc1, bnoS, bnoS, show sennitref33_value x ((110 : UInt8).toNat : Int) = some x.N from rfl, bnoS, digits33 (j_ok hk.1 hk.2.1), bnoS, show itoaF x.N = shewn x 110 from rfl, hc2, bnoS, bndD, w_at h (by omega), hnext]
    · have hk : okN 109 x.M := hk
      rw [show decide (((109 : UInt8).toNat : Int) = 116) = false from rfl, bif_ff, bndD, show decide (((109 : UInt8).toNat : Int) = 102) = false from rfl, bif_ff, hc1, bnoS, bnoS, show sennitref33_value x ((109 : UInt8).toNat : Int) = some x.M from rfl, bnoS, digits33 (j_ok hk.1 hk.2.1), bnoS, show itoaF x.M = shewn x 109 from rfl, hc2, bnoS, bndD, w_at h (by omega), hnext]
    · have hk : okN 112 x.Path := hk
      rw [show decide (((112 : UInt8).toNat : Int) = 116) = false from rfl, bif_ff, bndD, show decide (((112 : UInt8).toNat : Int) = 102) = false from rfl, bif_ff, hc1, bnoS, bnoS, show sennitref33_value x ((112 : UInt8).toNat : Int) = some x.Path from rfl, bnoS, digits33 (j_ok hk.1 hk.2.1), bnoS, show itoaF x.Path = shewn x 112 from rfl, hc2, bnoS, bndD, w_at h (by omega), hnext]
    · rw [show decide (((116 : UInt8).toNat : Int) = 116) = true from rfl, bif_tt, hc1, bnoS, rhex33 (by omega), bnoS, show hexS x.Text = shewn x 116 from rfl, hc2, bnoS, bndD, w_at h (by omega), hnext]
    · rw [show decide (((102 : UInt8).toNat : Int) = 116) = false from rfl, bif_ff, bndD, show decide (((102 : UInt8).toNat : Int) = 102) = true from rfl, bif_tt, hc1, bnoS, rmark33, bnoS, show markS x.Flag = shewn x 102 from rfl, hc2, bnoS, bndD, w_at h (by omega), hnext]
theorem rprints33 {x : S33} (hk0 : 0 ≤ x.Kind) (hk1 : x.Kind ≤ 255) (ht : x.Text.length ≤ 100000) : sennitref33_Print x = some (printV x) := by
  unfold sennitref33_Print printV
  rw [bndD]
  by_cases hk : 16 ≤ x.Kind
  · rw [decide_eq_true hk, bif_tt, if_pos hk]
  · obtain ⟨k, hk16, hkx⟩ := kind_nat hk0 (by omega)
    obtain ⟨f1, f2, f3, f4, f5, f6⟩ := fields_at hk16
    obtain ⟨n1, n2, n3, n4, n5, n6⟩ := name_of hk16
    have hkn : x.Kind.toNat = k := by omega
    rw [decide_eq_false hk, bif_ff, if_neg hk, hkn]
    unfold sennitref33_odd
    rw [hkx, f1, bnoS]
    have ho := odd_L (F := hasK k) (by omega) x num5 [] fuel rfl (fuel_gt (by decide))
    rw [bad_ok] at ho
    have ho : sennitref33_odd_L0 x (hasK k) fuel 0 = some (!okB (hasK k) x) := ho
    rw [ho, bnoS]
    by_cases hok : okB (hasK k) x = true
    · rw [if_pos hok, hok, Bool.not_true, bif_ff, bndD]
      by_cases ht3 : x.Text.length ≤ 300
      · obtain ⟨o1, o2⟩ := okB_is.1 hok
        rw [if_neg (by omega), decide_eq_false (by omega), bif_ff, n6, bnoS, bnoS]
        have := rprint_L (x := x) (F := hasK k) (by omega) f4 o1 ht3 (formK k).name (by omega) (hasK k) [] fuel rfl (fuel_gt (by omega))
        rw [join_flat]
        simpa using this
      · rw [if_pos (by omega), decide_eq_true (by omega), bif_tt]
    · rw [if_neg hok]
      rw [Bool.not_eq_true] at hok
      rw [hok]; rfl
end Go.Fn
set_option linter.unusedSimpArgs false
set_option linter.unusedVariables false
open Go Go.IL
namespace Go.Fn
/-! Console: all lines; what is told; ConsolePrints. -/
def linesV : List S33 → List UInt8 → List UInt8 × Int
  | [], acc => (acc, 0)
  | x :: l, acc => if (printV x).2 = 0 then linesV l (acc ++ ((printV x).1 ++ [10])) else ([], (printV x).2)
def fineS (x : S33) : Prop := (0 ≤ x.Kind ∧ x.Kind ≤ 255) ∧ x.Text.length ≤ 100000
theorem printV_len {x : S33} (h0 : 0 ≤ x.Kind) : (printV x).1.length ≤ 4206 := by
  unfold printV
  by_cases h : 16 ≤ x.Kind
  · rw [if_pos h]; simp
  · rw [if_neg h]
    split
    · split
      · simp
      · exact words_len (by omega) (by omega)
    · simp
theorem lines_L {l : List S33} (hl : l.length ≤ 1000) (hx : ∀ x ∈ l, fineS x) (r : List S33) : ∀ (p : List S33) (acc : List UInt8) (f : Nat), l = p ++ r → r.length < f → acc ≠ [] → acc.length ≤ p.length * 5000 → console_Lines_L0 l f (p.length : Int) acc = some (linesV r acc) := by
  induction r with
  | nil =>
    intro p acc f h hf h0 ha
    obtain ⟨f, rfl⟩ : ∃ g, f = g + 1 := ⟨f - 1, by simp at hf; omega⟩
    rw [List.append_nil] at h
    have hp : p.length * 5000 ≤ 1000 * 5000 := Nat.mul_le_mul_right _ (by rw [← h]; exact hl)
    rw [console_Lines_L0]
    rw [bndD, h, lt_len, bif_ff]
    rw [chk, if_pos (by rw [Ne, List.length_eq_zero_iff]; exact h0), chk, if_pos (by omega)]; rfl
  | cons x r ih =>
    intro p acc f h hf h0 ha
    obtain ⟨f, rfl⟩ : ∃ g, f = g + 1 := ⟨f - 1, by simp at hf; omega⟩
    obtain ⟨⟨k0, k1⟩, k2⟩ := hx x (by rw [h]; simp)
    have hpl : p.length + 1 ≤ 1000 := by rw [h] at hl; simp at hl; omega
    have hlen := printV_len k0
    rw [console_Lines_L0]
    rw [bndD, lt_at h, bif_tt, gix_at h, bnoS, prints33 k0 k1 k2, bnoS, bndD]
    show _ = some (if (printV x).2 = 0 then _ else _)
    by_cases h2 : (printV x).2 = 0
    · rw [decide_eq_true h2, Bool.not_true, bif_ff, if_pos h2, cat_ok (by simp; omega), bnoS, app_ok (by simp; omega) (by simp; omega), bnoS, bndD, w_at h (by omega)]
      exact ih (p ++ [x]) _ f (next_at h) (by simpa using hf) (by simp) (by simp; omega)
    · rw [decide_eq_false h2, Bool.not_false, bif_tt, if_neg h2]
theorem lines33 {l : List S33} (hl : l.length ≤ 1000) (hx : ∀ x ∈ l, fineS x) : console_Lines l = some (linesV l []) := by
  unfold console_Lines
  rw [bndD]
  cases l with
  | nil => rfl
  | cons x l =>
    obtain ⟨⟨k0, k1⟩, k2⟩ := hx x (by simp)
    have hlen := printV_len k0
    rw [decide_eq_true (show (0 : Int) < ((x :: l).length : Int) by rw [List.length_cons]; omega), bif_tt, show gix (x :: l) 0 = some x from rfl, bnoS, prints33 k0 k1 k2, bnoS, bndD]
    show _ = some (if (printV x).2 = 0 then _ else _)
    by_cases h2 : (printV x).2 = 0
    · rw [decide_eq_true h2, Bool.not_true, bif_ff, if_pos h2, cat_ok (by simp; omega), bnoS, app_ok (by simp; omega) (by simp; omega), bnoS, bndD, show IntKind.wrap .i64 (0 + 1) = (([x] : List S33).length : Int) from rfl]
      have hl' : l.length ≤ 1000 := by simp at hl; omega
      exact lines_L hl hx l [x] _ fuel rfl (fuel_gt (by omega)) (by simp) (by simp; omega)
    · rw [decide_eq_false h2, Bool.not_false, bif_tt, if_neg h2]
theorem rlines_L {l : List S33} (hl : l.length ≤ 1000) (hx : ∀ x ∈ l, fineS x) (r : List S33) : ∀ (p : List S33) (acc : List UInt8) (f : Nat), l = p ++ r → r.length < f → acc.length ≤ p.length * 5000 → sennitref33_Lines_L0 l f acc (p.length : Int) = some (linesV r acc) := by
  induction r with
  | nil =>
    intro p acc f h hf ha
    obtain ⟨f, rfl⟩ : ∃ g, f = g + 1 := ⟨f - 1, by simp at hf; omega⟩
    rw [List.append_nil] at h
    rw [sennitref33_Lines_L0]
    rw [bndD, h, lt_len, bif_ff]; rfl
  | cons x r ih =>
    intro p acc f h hf ha
    obtain ⟨f, rfl⟩ : ∃ g, f = g + 1 := ⟨f - 1, by simp at hf; omega⟩
    obtain ⟨⟨k0, k1⟩, k2⟩ := hx x (by rw [h]; simp)
    have hpl : p.length + 1 ≤ 1000 := by rw [h] at hl; simp at hl; omega
    have hlen := printV_len k0
    rw [sennitref33_Lines_L0]
    rw [bndD, lt_at h, bif_tt, gix_at h, bnoS, rprints33 k0 k1 k2, bnoS, bndD]
    show _ = some (if (printV x).2 = 0 then _ else _)
    by_cases h2 : (printV x).2 = 0
    · rw [decide_eq_true h2, Bool.not_true, bif_ff, if_pos h2, cat_ok (by omega), bnoS, cat_ok (by simp; omega), bnoS, bndD, w_at h (by omega), List.append_assoc]
      exact ih (p ++ [x]) _ f (next_at h) (by simpa using hf) (by simp; omega)
    · rw [decide_eq_false h2, Bool.not_false, bif_tt, if_neg h2]
theorem rlines33 {l : List S33} (hl : l.length ≤ 1000) (hx : ∀ x ∈ l, fineS x) : sennitref33_Lines l = some (linesV l []) :=
  rlines_L hl hx l [] [] fuel rfl (fuel_gt (by omega)) (Nat.zero_le _)
/-! What is told. -/
abbrev An := T_world_Answer
abbrev Ev := T_session_Event
def evS (e : Ev) : List UInt8 := itoaF e.Kind ++ [58] ++ itoaF e.ID ++ [58] ++ itoaF e.Code
def evJ (e : Ev) : Prop := J64 e.Kind ∧ J64 e.ID ∧ J64 e.Code
theorem evS_len (e : Ev) : (evS e).length ≤ 65 := by
  have h1 := itoaF_len e.Kind
  have h2 := itoaF_len e.ID
  have h3 := itoaF_len e.Code
  unfold evS
  simp only [List.length_append, List.length_singleton]; omega
theorem mark33 (b : Bool) : console_mark b = some (markS b) := by unfold console_mark markS; cases b <;> rfl
theorem markS_len (b : Bool) : (markS b).length = 1 := by cases b <;> rfl
theorem hexS_len (t : List UInt8) : (hexS t).length ≤ 2 * t.length + 1 := by
  unfold hexS
  split
  · simp
  · rw [hexL_len]; omega
theorem tell_L {a : An} (hl : a.Events.length ≤ 1000) (hx : ∀ e ∈ a.Events, evJ e) (r : List Ev) : ∀ (p : List Ev) (ws : List (List UInt8)) (f : Nat), a.Events = p ++ r → r.length < f → ws.length ≤ p.length + 10 → console_Tell_L0 a f ws (p.length : Int) = (strings_Join (ws ++ r.map evS) [32]).bind some := by
  induction r with
  | nil =>
    intro p ws f h hf hw
    obtain ⟨f, rfl⟩ : ∃ g, f = g + 1 := ⟨f - 1, by simp at hf; omega⟩
    rw [List.append_nil] at h
    rw [console_Tell_L0, bndD, h, lt_len, bif_ff, List.map_nil, List.append_nil]
    cases strings_Join ws [32] <;> rfl
  | cons e r ih =>
    intro p ws f h hf hw
    obtain ⟨f, rfl⟩ : ∃ g, f = g + 1 := ⟨f - 1, by simp at hf; omega⟩
    obtain ⟨k1, k2, k3⟩ := hx e (by rw [h]; simp)
    have hpl : p.length + 1 ≤ 1000 := by rw [h] at hl; simp at hl; omega
    have h1 := itoaF_len e.Kind
    have h2 := itoaF_len e.ID
    have h3 := itoaF_len e.Code
    rw [console_Tell_L0]
    rw [bndD, lt_at h, bif_tt, gix_at h, bnoS, itoa33 k1, bnoS, cat_ok (by simp; omega), bnoS, itoa33 k2, bnoS, cat_ok (by simp; omega), bnoS, cat_ok (by simp; omega), bnoS, itoa33 k3, bnoS, cat_ok (by simp; omega), bnoS,
      app_ok (by simp; omega) (by simp; omega), bnoS, bndD, w_at h (by omega)]
    rw [show itoaF e.Kind ++ [58] ++ itoaF e.ID ++ [58] ++ itoaF e.Code = evS e from rfl, ih (p ++ [e]) (ws ++ [evS e]) f (next_at h) (by simpa using hf) (by simp; omega), List.append_assoc, List.map_cons]; rfl
theorem rtell_L {a : An} (hl : a.Events.length ≤ 1000) (hx : ∀ e ∈ a.Events, evJ e) (r : List Ev) : ∀ (p : List Ev) (t : List UInt8) (f : Nat), a.Events = p ++ r → r.length < f → t.length ≤ 100000 + p.length * 100 → sennitref33_Tell_L0 a f t (p.length : Int) = some (t ++ (r.map evS).flatMap (fun v => 32 :: v)) := by
  induction r with
  | nil =>
    intro p t f h hf hw
    obtain ⟨f, rfl⟩ : ∃ g, f = g + 1 := ⟨f - 1, by simp at hf; omega⟩
    rw [List.append_nil] at h
    rw [sennitref33_Tell_L0, bndD, h, lt_len, bif_ff]; simp
  | cons e r ih =>
    intro p t f h hf hw
    obtain ⟨f, rfl⟩ : ∃ g, f = g + 1 := ⟨f - 1, by simp at hf; omega⟩
    obtain ⟨k1, k2, k3⟩ := hx e (by rw [h]; simp)
    have hpl : p.length + 1 ≤ 1000 := by rw [h] at hl; simp at hl; omega
    have h1 := itoaF_len e.Kind
    have h2 := itoaF_len e.ID
    have h3 := itoaF_len e.Code
    rw [sennitref33_Tell_L0]
    rw [bndD, lt_at h, bif_tt, gix_at h, bnoS, cat_ok (by simp; omega), bnoS, digits33 k1, bnoS, cat_ok (by simp; omega), bnoS, cat_ok (by simp; omega), bnoS, digits33 k2, bnoS, cat_ok (by simp; omega), bnoS, cat_ok (by simp; omega), bnoS, digits33 k3, bnoS, cat_ok (by simp; omega), bnoS, bndD, w_at h (by omega)]
    rw [ih (p ++ [e]) _ f (next_at h) (by simpa using hf) (by simp; omega)]
    unfold evS
    simp
/-- What an answer is told as. -/
def tellV (a : An) : List UInt8 := joinL 32 ([itoaF a.N, itoaF a.E, hexS a.Text, markS a.End] ++ a.Events.map evS)
theorem tell33 {a : An} (hN : J64 a.N) (hE : J64 a.E) (ht : a.Text.length ≤ 1000) (hl : a.Events.length ≤ 1000) (hx : ∀ e ∈ a.Events, evJ e) : console_Tell a = some (tellV a) := by
  unfold console_Tell
  have hb : (tellV a).length ≤ ([itoaF a.N, itoaF a.E, hexS a.Text, markS a.End] ++ a.Events.map evS).length * (2001 + 1) := join_len 32 2001 _ (fun w hw => by
    rcases List.mem_append.1 hw with hw | hw
    · have h1 := itoaF_len a.N
      have h2 := itoaF_len a.E
      have h3 := hexS_len a.Text
      have h4 := markS_len a.End
      simp only [List.mem_cons, List.not_mem_nil, or_false] at hw
      rcases hw with rfl | rfl | rfl | rfl <;> omega
    · obtain ⟨e, _, rfl⟩ := List.mem_map.1 hw
      have := evS_len e
      omega)
  simp only [List.length_append, List.length_cons, List.length_nil, List.length_map] at hb
  have hb2 : (0 + 1 + 1 + 1 + 1 + a.Events.length) * (2001 + 1) ≤ 1004 * 2002 := Nat.mul_le_mul_right _ (by omega)
  rw [itoa33 hN, bnoS, itoa33 hE, bnoS, hex33 (by omega), bnoS, mark33, bnoS]
  have hL := tell_L hl hx a.Events [] [itoaF a.N, itoaF a.E, hexS a.Text, markS a.End] fuel rfl (fuel_gt (by omega)) (by simp)
  have hj : strings_Join ([itoaF a.N, itoaF a.E, hexS a.Text, markS a.End] ++ a.Events.map evS) [32] = some (tellV a) := by
    unfold strings_Join joinS
    rw [join_is, decide_eq_true (by simp; omega), decide_eq_true (show (joinL 32 ([itoaF a.N, itoaF a.E, hexS a.Text, markS a.End] ++ a.Events.map evS)).length ≤ 140737488355328 by unfold tellV at hb; omega)]; rfl
  rw [hj] at hL
  exact hL
theorem rtell33 {a : An} (hN : J64 a.N) (hE : J64 a.E) (ht : a.Text.length ≤ 1000) (hl : a.Events.length ≤ 1000) (hx : ∀ e ∈ a.Events, evJ e) : sennitref33_Tell a = some (tellV a) := by
  have h1 := itoaF_len a.N
  have h2 := itoaF_len a.E
  have h3 := hexS_len a.Text
  have h4 := markS_len a.End
  unfold sennitref33_Tell
  rw [digits33 hN, bnoS, cat_ok (by simp; omega), bnoS, digits33 hE, bnoS, cat_ok (by simp; omega), bnoS, cat_ok (by simp; omega), bnoS, rhex33 (by omega), bnoS, cat_ok (by simp; omega), bnoS, cat_ok (by simp; omega), bnoS, rmark33, bnoS, cat_ok (by simp; omega), bnoS]
  refine (rtell_L hl hx a.Events [] _ fuel rfl (fuel_gt (by omega)) (by simp; omega)).trans ?_
  unfold tellV
  rw [List.cons_append, join_flat]
  simp
/-! ConsolePrints. -/
theorem names_L2 {a : An} {v : List Ev} {x y : List UInt8 × Int} (r : List (List UInt8)) : ∀ (p : List (List UInt8)) (f : Nat), names33 = p ++ r → r.length < f → sennitlaw33_ConsolePrints_L2 a v x y names33 f (p.length : Int) = sennitlaw33_ConsolePrints_L2 a v x y names33 (f - r.length) 16 := by
  induction r with
  | nil =>
    intro p f h hf
    rw [List.append_nil] at h
    rw [← h]; rfl
  | cons w r ih =>
    intro p f h hf
    obtain ⟨f, rfl⟩ : ∃ g, f = g + 1 := ⟨f - 1, by simp at hf; omega⟩
    have hpl : p.length < 16 := by
      have := congrArg List.length h
      rw [show names33.length = 16 from rfl] at this
      simp at this; omega
    obtain ⟨n, n1, n2, n3⟩ := name_at hpl
    have hw : n = w := by
      rw [h, List.getElem?_append_right (Nat.le_refl _)] at n2
      simpa using n2.symm
    subst hw
    have hwu : IntKind.wrap .u8 ((p.length : Nat) : Int) = ((p.length : Nat) : Int) := by rw [IntKind.wrap_u8, Int.emod_eq_of_lt (by omega) (by omega)]
    rw [sennitlaw33_ConsolePrints_L2, bndD, lt_at h, bndD, decide_eq_true (show ((p.length : Nat) : Int) < 16 by omega), bndD, Bool.and_self, bif_tt, gix_at h, bnoS, bndD, hwu, n1, bnoS, bndD, decide_eq_true rfl, Bool.not_true, bif_ff, bndD, w_at h (by rw [show names33.length = 16 from rfl]; omega)]
    rw [ih (p ++ [n]) f (next_at h) (by simpa using hf)]
    rw [List.length_cons, show f + 1 - (r.length + 1) = f - r.length by omega]
theorem prints_L1 {l : List S33} {a : An} {v : List S33} (hl : a.Events.length ≤ 1000) (r : List Ev) : ∀ (p : List Ev) (f : Nat), a.Events = p ++ r → r.length < f → sennitlaw33_ConsolePrints_L1 l a v f (p.length : Int) p = sennitlaw33_ConsolePrints_L1 l a v (f - r.length) (a.Events.length : Int) a.Events := by
  induction r with
  | nil =>
    intro p f h hf
    rw [List.append_nil] at h
    rw [h]; rfl
  | cons e r ih =>
    intro p f h hf
    obtain ⟨f, rfl⟩ : ∃ g, f = g + 1 := ⟨f - 1, by simp at hf; omega⟩
    have hpl : p.length + 1 ≤ 1000 := by rw [h] at hl; simp at hl; omega
    rw [sennitlaw33_ConsolePrints_L1, bndD, lt_at h, bif_tt, gix_at h, bnoS, app_ok (by simp; omega) (by simp; omega), bnoS, bndD, w_at h (by omega)]
    rw [ih (p ++ [e]) f (next_at h) (by simpa using hf)]
    rw [List.length_cons, show f + 1 - (r.length + 1) = f - r.length by omega]
theorem fuel_sub {n m : Nat} (h : n + m < 18446744073709551616) : ∃ g, fuel - n = g + 1 + m := ⟨fuel - n - m - 1, by have := fuel_gt h; omega⟩
theorem prints_end {l : List S33} {a : An} (hl : l.length ≤ 1000) (hx : ∀ x ∈ l, fineS x) (hN : J64 a.N) (hE : J64 a.E) (ht : a.Text.length ≤ 1000) (hel : a.Events.length ≤ 1000) (he : ∀ e ∈ a.Events, evJ e) : sennitlaw33_ConsolePrints_L1 l a l fuel 0 ([] : List Ev) = some true := by
  have h1 := prints_L1 (l := l) (v := l) hel a.Events [] fuel rfl (fuel_gt (by omega))
  refine Eq.trans h1 ?_
  obtain ⟨g, hg⟩ := fuel_sub (n := a.Events.length) (m := 0) (by omega)
  rw [hg, Nat.add_zero, sennitlaw33_ConsolePrints_L1, bndD, lt_len, bif_ff, lines33 hl hx, bnoS, rlines33 hl hx, bnoS, names_is, bnoS]
  have h2 := names_L2 (a := a) (v := a.Events) (x := linesV l []) (y := linesV l []) names33 [] fuel rfl (fuel_gt (by decide))
  refine Eq.trans h2 ?_
  obtain ⟨g, hg⟩ := fuel_sub (n := names33.length) (m := 0) (by decide)
  rw [hg, Nat.add_zero, sennitlaw33_ConsolePrints_L2]
  have e16 : names33.length = 16 := rfl
  rw [bndD, e16, show decide ((16 : Int) < ((16 : Nat) : Int)) = false from rfl, bndD, bndD, Bool.false_and, bif_ff, bndD, bndD, bndD, decide_eq_true rfl, decide_eq_true rfl, Bool.and_self, beq_self_eq_true, gdtt, gdtt]
  have ea : (⟨a.N, a.E, a.Text, a.End, a.Events⟩ : An) = a := rfl
  rw [ea, tell33 hN hE ht hel he, bnoS, rtell33 hN hE ht hel he, bnoS, bndD, bndD, bndD, bndD, decide_eq_true rfl, decide_eq_true (show ((16 : Nat) : Int) = 16 from rfl)]
  simp only [Bool.and_self, beq_self_eq_true, gdtt, awake33, bnoS, bndD]
theorem prints_L0 {l : List S33} {a : An} (hl : l.length ≤ 1000) (hk : ∀ x ∈ l, 0 ≤ x.Kind ∧ x.Kind ≤ 255) (hN : J64 a.N) (hE : J64 a.E) (ht : a.Text.length ≤ 1000) (hel : a.Events.length ≤ 1000) (he : ∀ e ∈ a.Events, evJ e) (r : List S33) : ∀ (p : List S33) (f : Nat), l = p ++ r → r.length < f → (∀ x ∈ p, x.Text.length ≤ 400) → sennitlaw33_ConsolePrints_L0 l a f p (p.length : Int) = some true := by
  induction r with
  | nil =>
    intro p f h hf hp
    obtain ⟨f, rfl⟩ : ∃ g, f = g + 1 := ⟨f - 1, by simp at hf; omega⟩
    rw [List.append_nil] at h
    subst h
    rw [sennitlaw33_ConsolePrints_L0, bndD, lt_len, bif_ff]
    exact prints_end hl (fun x hx => ⟨hk x hx, by have := hp x hx; omega⟩) hN hE ht hel he
  | cons x r ih =>
    intro p f h hf hp
    obtain ⟨f, rfl⟩ : ∃ g, f = g + 1 := ⟨f - 1, by simp at hf; omega⟩
    obtain ⟨k0, k1⟩ := hk x (by rw [h]; simp)
    have hpl : p.length + 1 ≤ 1000 := by rw [h] at hl; simp at hl; omega
    rw [sennitlaw33_ConsolePrints_L0, bndD, lt_at h, bif_tt, gix_at h, bnoS, bndD]
    by_cases h4 : x.Text.length ≤ 400
    · rw [decide_eq_false (by omega), bif_ff, bnoS, app_ok (by simp; omega) (by simp; omega), bnoS, bnoS, prints33 k0 k1 (by omega), bnoS, bnoS, rprints33 k0 k1 (by omega), bnoS, bndD, bndD, bndD]
      rw [decide_eq_true rfl, decide_eq_true rfl, Bool.not_true, Bool.or_self, bif_ff, bndD, w_at h (by omega)]
      exact ih (p ++ [x]) f (next_at h) (by simpa using hf) (fun y hy => by
        rcases List.mem_append.1 hy with hy | hy
        · exact hp y hy
        · rw [List.mem_singleton.1 hy]; exact h4)
    · rw [decide_eq_true (by omega), bif_tt, awake33]; rfl
theorem consolePrints {l : List S33} {a : An} (hk : ∀ x ∈ l, 0 ≤ x.Kind ∧ x.Kind ≤ 255) (hN : J64 a.N) (hE : J64 a.E) (he : ∀ e ∈ a.Events, evJ e) : sennitlaw33_ConsolePrints l a = some true := by
  unfold sennitlaw33_ConsolePrints
  rw [bndD, bndD, bndD, bndD, bndD]
  by_cases h1 : l.length ≤ 20
  · by_cases h2 : a.Events.length ≤ 20
    · by_cases h3 : a.Text.length ≤ 400
      · rw [decide_eq_false (show ¬ (20 : Int) < (l.length : Int) by omega), decide_eq_false (show ¬ (20 : Int) < (a.Events.length : Int) by omega), decide_eq_false (show ¬ (400 : Int) < (a.Text.length : Int) by omega), Bool.or_self, Bool.or_self, bif_ff]
        exact prints_L0 (by omega) hk hN hE (by omega) (by omega) he l [] fuel rfl (fuel_gt (by omega)) (fun x hx => absurd hx (by simp))
      · rw [decide_eq_true (show (400 : Int) < (a.Text.length : Int) by omega), Bool.or_true, bif_tt, awake33]; rfl
    · rw [decide_eq_true (show (20 : Int) < (a.Events.length : Int) by omega), Bool.or_true, Bool.true_or, bif_tt, awake33]; rfl
  · rw [decide_eq_true (show (20 : Int) < (l.length : Int) by omega), Bool.true_or, Bool.true_or, bif_tt, awake33]; rfl
end Go.Fn
namespace Go.IL
section
variable {P : Program} {O : Origin} {N : Nat} {S S' : St} {o : Oper} {t : Nat} {Q : Exit → St → Prop}
/-! Short names. -/
theorem lb {a b : Nat} (h : Nat.ble (a + 1) b = true) : a < b := Nat.le_of_ble_eq_true h
theorem svI {x : Operand} {k : IntKind} {n : Int} (h : S.op x = .int k n) : SV S x (.int k n) := sv h
theorem svB {x : Operand} {n : Bool} (h : S.op x = .bool n) : SV S x (.bool n) := sv h
theorem svR {x : Operand} {i j : Nat} (h : S.op x = .ref i j) : SV S x (.ref i j) := sv h
theorem svL {x : Operand} {f : Bool} {l : List D} (h : S.op x = .slice f l) : SV S x (.slice f l) := sv h
theorem svA {x : Operand} (l : List D) (h : S.op x = .agg l) : SV S x (.agg l) := sv h
theorem svcI {x : Operand} {b : Bool} {k : IntKind} {n : Int} (h : S.op x = .cnd b (.int k n)) (hb : b = true) : SV S x (.int k n) := svc h hb
theorem svcB {x : Operand} {b n : Bool} (h : S.op x = .cnd b (.bool n)) (hb : b = true) : SV S x (.bool n) := svc h hb
theorem svcR {x : Operand} {b : Bool} {i j : Nat} (h : S.op x = .cnd b (.ref i j)) (hb : b = true) : SV S x (.ref i j) := svc h hb
theorem svcL {x : Operand} {b : Bool} {f : Bool} {l : List D} (h : S.op x = .cnd b (.slice f l)) (hb : b = true) : SV S x (.slice f l) := svc h hb
theorem mvI {x : Operand} {k : IntKind} {n : Int} (ho : o.op = .move x) (hd : o.dst = some t) (ht : Nat.ble (t + 1) N = true) (hx : S.op x = .int k n) : IOp P O N o S (S.set t (.int k n)) := iop_move ho hd (lb ht) (sv hx)
theorem mvB {x : Operand} {n : Bool} (ho : o.op = .move x) (hd : o.dst = some t) (ht : Nat.ble (t + 1) N = true) (hx : S.op x = .bool n) : IOp P O N o S (S.set t (.bool n)) := iop_move ho hd (lb ht) (sv hx)
theorem mvR {x : Operand} {i j : Nat} (ho : o.op = .move x) (hd : o.dst = some t) (ht : Nat.ble (t + 1) N = true) (hx : S.op x = .ref i j) : IOp P O N o S (S.set t (.ref i j)) := iop_move ho hd (lb ht) (sv hx)
theorem mvL {x : Operand} {f : Bool} {l : List D} (ho : o.op = .move x) (hd : o.dst = some t) (ht : Nat.ble (t + 1) N = true) (hx : S.op x = .slice f l) : IOp P O N o S (S.set t (.slice f l)) := iop_move ho hd (lb ht) (sv hx)
theorem asI {x : Operand} {k : IntKind} {n : Int} (ho : o.op = .assign x) (hd : o.dst = some t) (ht : Nat.ble (t + 1) N = true) (hx : S.op x = .int k n) : IOp P O N o S (S.set t (.int k n)) := iop_assign ho hd (lb ht) (sv hx)
theorem asB {x : Operand} {n : Bool} (ho : o.op = .assign x) (hd : o.dst = some t) (ht : Nat.ble (t + 1) N = true) (hx : S.op x = .bool n) : IOp P O N o S (S.set t (.bool n)) := iop_assign ho hd (lb ht) (sv hx)
def LA (P : Program) (T : TypeId) (u : TypeDesc) (z : Option Value) (size bytes : Nat) (g : Bool) : Prop := P.underlying T = some u ∧ aggOf P T = g ∧ TI P T z size bytes ∧ 0 < size
theorem LA.mk {T : TypeId} {u : TypeDesc} {z : Option Value} {size bytes : Nat} {g : Bool} (h1 : P.underlying T = some u) (h2 : aggOf P T = g) (h3 : TI P T z size bytes) (h4 : 0 < size) : LA P T u z size bytes g := ⟨h1, h2, h3, h4⟩
theorem lra {T : TypeId} {x : Operand} {u : TypeDesc} {z : Option Value} {size bytes : Nat} {id off : Nat} {e : TypeId} {ds : List D} (cs : List D) (l : LA P T u z size bytes true) (ho : o.op = .load T x) (hd : o.dst = some t) (ht : Nat.ble (t + 1) N = true)
    (hx : S.op x = .ref id off) (he : S.ent id = .blk e ds) (hn : off + size ≤ ds.length) (hdd : (ds.drop off).take size = cs) : IOp P O N o S (S.set t (.agg cs)) := iop_load_ra ho hd (lb ht) l.1 l.2.1 l.2.2.1 l.2.2.2 (sv hx) he hn hdd
theorem lrL {T : TypeId} {x : Operand} {u : TypeDesc} {z : Option Value} {size bytes : Nat} {id off : Nat} {e : TypeId} {ds r : List D} {f : Bool} {m : List D} (l : LA P T u z size bytes false) (ho : o.op = .load T x) (hd : o.dst = some t) (ht : Nat.ble (t + 1) N = true)
    (hx : S.op x = .ref id off) (he : S.ent id = .blk e ds) (hn : off + size ≤ ds.length) (hdd : ds.drop off = .slice f m :: r) : IOp P O N o S (S.set t (.slice f m)) := iop_load_rs ho hd (lb ht) l.1 l.2.1 l.2.2.1 l.2.2.2 (sv hx) he hn hdd
theorem rva {x : Nat} {T : TypeId} {id off : Nat} {e : TypeId} {ds cs : List D} {u : TypeDesc} {z : Option Value} {size bytes : Nat} (l : LA P T u z size bytes true) (hx : S.get x = .ref id off) (he : S.ent id = .blk e ds)
    (hn : off + size ≤ ds.length) (hd : (ds.drop off).take size = cs) : ResV P S (.cell x T) (.agg cs) := resv_a hx he l.1 l.2.1 l.2.2.1 l.2.2.2 hn hd
theorem stA {T : TypeId} {x y : Operand} {z : Option Value} {size bytes : Nat} {id off : Nat} {e : TypeId} {ds : List D} (c ds' : List D) (hi : TI P T z size bytes) (ho : o.op = .store T x y) (hd : o.dst = none)
    (hx : S.op x = .ref id off) (he : S.ent id = .blk e ds) (hy : S.op y = .agg c) (hb : (D.agg c).boxable = true) (hsz : (D.agg c).cells.length = size) (h1 : (D.agg c).cells.all D.one = true)
    (hn : off + size ≤ ds.length) (hds : splice ds off (D.agg c).cells = ds') : IOp P O N o S (S.setE id (.blk e ds')) := iop_store ho hd hi (sv hx) he (sv hy) hb hsz h1 hn hds
theorem faR {T : TypeId} {x : Operand} {i : Nat} {fs : Array Field} {F : Field} {z : Option Value} {size bytes : Nat} {id off : Nat} (off' : Nat) (ho : o.op = .fieldAddr T x i) (hd : o.dst = some t) (ht : Nat.ble (t + 1) N = true)
    (hu : P.underlying T = some (.struct fs)) (hf : fs[i]? = some F) (hi : TI P F.type z size bytes) (hs : 0 < size) (hx : S.op x = .ref id off) (ho' : off + F.offset = off') : IOp P O N o S (S.set t (.ref id off')) :=
  iop_fieldAddr_ref ho hd (lb ht) hu hf hi hs (sv hx) ho'
theorem svaI {n : Node} {S0 : St} {s : Nat} {k : IntKind} {m : Int} (hA : Agree n S S0) (hm : n.rs.elem s = true) (h : S0.get s = .int k m) : SV S (.tmp s) (.int k m) := sv (agr hA hm h)
theorem svaB {n : Node} {S0 : St} {s : Nat} {m : Bool} (hA : Agree n S S0) (hm : n.rs.elem s = true) (h : S0.get s = .bool m) : SV S (.tmp s) (.bool m) := sv (agr hA hm h)
theorem svaR {n : Node} {S0 : St} {s i j : Nat} (hA : Agree n S S0) (hm : n.rs.elem s = true) (h : S0.get s = .ref i j) : SV S (.tmp s) (.ref i j) := sv (agr hA hm h)
theorem svaL {n : Node} {S0 : St} {s : Nat} {f : Bool} {l : List D} (hA : Agree n S S0) (hm : n.rs.elem s = true) (h : S0.get s = .slice f l) : SV S (.tmp s) (.slice f l) := sv (agr hA hm h)
theorem svaA {n : Node} {S0 : St} {s : Nat} (l : List D) (hA : Agree n S S0) (hm : n.rs.elem s = true) (h : S0.get s = .agg l) : SV S (.tmp s) (.agg l) := sv (agr hA hm h)
theorem AllW.s {ρ : Nat → Nat} {t : Nat} {d : D} {l : List (Nat × D)} (h : S.get t = d.ren ρ) (hr : d.refsIn S'.okn = true) (k : AllW (SlW S S' ρ) l) : AllW (SlW S S' ρ) ((t, d) :: l) := .cons (.same h hr) k
theorem AllW.sames {ρ : Nat → Nat} : ∀ {l : List (Nat × D)}, l.map (fun p => S.get p.1) = l.map (fun p => p.2.ren ρ) → (l.all fun p => p.2.refsIn S'.okn) = true → AllW (SlW S S' ρ) l
  | [], _, _ => .nil
  | (t, d) :: l, h, hr => by
    simp only [List.map_cons, List.cons.injEq] at h
    simp only [List.all_cons, Bool.and_eq_true] at hr
    exact .cons (.same h.1 hr.1) (AllW.sames h.2 hr.2)
end
theorem SubL.k {d : D} {ds ds' : List D} (t : SubL ds ds') : SubL (d :: ds) (d :: ds') := .cons (.refl d) t
theorem SubL.k4 {a b c d : D} {ds ds' : List D} (t : SubL ds ds') : SubL (a :: b :: c :: d :: ds) (a :: b :: c :: d :: ds') := .k (.k (.k (.k t)))
theorem FDL.k {S : St} {d : D} {ds ds' : List D} (t : FDL S ds ds') : FDL S (d :: ds) (d :: ds') := .cons (.refl d) t
theorem FDL.k4 {S : St} {a b c d : D} {ds ds' : List D} (t : FDL S ds ds') : FDL S (a :: b :: c :: d :: ds) (a :: b :: c :: d :: ds') := .k (.k (.k (.k t)))
theorem SubL.all : ∀ (l : List D), SubL l l
  | [] => .nil
  | d :: l => .cons (.refl d) (SubL.all l)
theorem FDL.all {S : St} (l : List D) : FDL S l l := fdl_refl l
end Go.IL
namespace Go.IL
/-! Pointers: compared with nil, and with themselves. -/
section
variable {P : Program} {O : Origin} {N : Nat} {S S' : St} {o : Oper} {t : Nat}
theorem pointee_of {T e : TypeId} (h : P.underlying T = some (.pointer e)) : P.underlying T = some (.pointer (P.pointee T)) := by
  unfold Program.pointee; rw [h]
theorem nilp_ev {E : Env} {β : Names} {a : Act} {y : Operand} (hr : Rel O N S E β a) (hy : SV S y .nilp) : a.eval y = .pointer none := by
  have := hy.rd hr
  generalize a.eval y = v at this
  cases this; rfl
theorem run_eqnil {T e : TypeId} {p : Option Addr} (hu : P.underlying T = some (.pointer e)) (w : World) (neq : Bool) : (binOp (if neq then .neq else .eql) T (.pointer p) (.pointer none)).run P w = .ok (.bool (if neq then !p.isNone else p.isNone)) w := by
  cases neq
  · exact run_eql_pointer_nil w T p (pointee_of hu)
  · exact run_neq_pointer_nil w T p (pointee_of hu)
theorem iop_pnil_core {T T2 e : TypeId} {x y : Operand} {neq r : Bool} (ho : o.op = .binOp (if neq then .neq else .eql) T x y T2) (hd : o.dst = some t) (ht : t < N) (hu : P.underlying T = some (.pointer e))
    (hx : ∀ E β a, Rel O N S E β a → ∃ p, a.eval x = .pointer p ∧ (if neq then !p.isNone else p.isNone) = r) (hy : SV S y .nilp) : IOp P O N o S (S.set t (.bool r)) :=
  iop_of hd ht fun E β a hr => by
    obtain ⟨p, hp, hq⟩ := hx E β a hr
    have hyv := nilp_ev hr hy
    have h1 := run_eqnil (p := p) hu E.w neq
    rw [hq] at h1
    exact ⟨_, by simp [execOp, ho, hp, hyv, eqGuard, h1], .bool _ _⟩
theorem iop_eqn {T T2 e : TypeId} {x y : Operand} {id off : Nat} (ho : o.op = .binOp .eql T x y T2) (hd : o.dst = some t) (ht : t < N) (hu : P.underlying T = some (.pointer e)) (hx : SV S x (.ref id off)) (hy : SV S y .nilp) : IOp P O N o S (S.set t (.bool false)) :=
  iop_pnil_core (neq := false) ho hd ht hu (fun E β a hr => by obtain ⟨b, _, h⟩ := rd_ref (hx.rd hr); exact ⟨_, h, rfl⟩) hy
theorem iop_nen {T T2 e : TypeId} {x y : Operand} {id off : Nat} (ho : o.op = .binOp .neq T x y T2) (hd : o.dst = some t) (ht : t < N) (hu : P.underlying T = some (.pointer e)) (hx : SV S x (.ref id off)) (hy : SV S y .nilp) : IOp P O N o S (S.set t (.bool true)) :=
  iop_pnil_core (neq := true) ho hd ht hu (fun E β a hr => by obtain ⟨b, _, h⟩ := rd_ref (hx.rd hr); exact ⟨_, h, rfl⟩) hy
theorem iop_eqnn {T T2 e : TypeId} {x y : Operand} (ho : o.op = .binOp .eql T x y T2) (hd : o.dst = some t) (ht : t < N) (hu : P.underlying T = some (.pointer e)) (hx : SV S x .nilp) (hy : SV S y .nilp) : IOp P O N o S (S.set t (.bool true)) :=
  iop_pnil_core (neq := false) ho hd ht hu (fun E β a hr => ⟨_, nilp_ev hr hx, rfl⟩) hy
theorem iop_nenn {T T2 e : TypeId} {x y : Operand} (ho : o.op = .binOp .neq T x y T2) (hd : o.dst = some t) (ht : t < N) (hu : P.underlying T = some (.pointer e)) (hx : SV S x .nilp) (hy : SV S y .nilp) : IOp P O N o S (S.set t (.bool false)) :=
  iop_pnil_core (neq := true) ho hd ht hu (fun E β a hr => ⟨_, nilp_ev hr hx, rfl⟩) hy
theorem run_ne_ptr_same {T e : TypeId} {j : TypeInfo} (a : Addr) (w : World) (hu : P.underlying T = some (.pointer e)) (hj : P.info? e = some j) : (binOp .neq T (.pointer (some a)) (.pointer (some a))).run P w = .ok (.bool false) w := by
  have h : ∀ d : Nat, (Op.equalIn (d + 1) T (.pointer (some a)) (.pointer (some a))).run P w = .ok true w := fun d => by
    simp [Op.equalIn, run_underlying hu, sizeOf, typeInfo, hj, run_sameAddr_same]
  simp only [binOp]
  simp [Op.equal, Op.maxDepth, h 9999]
theorem iop_nes1 {T T2 e : TypeId} {x y : Operand} {id off : Nat} {z : Option Value} {size bytes : Nat} (ho : o.op = .binOp .neq T x y T2) (hd : o.dst = some t) (ht : t < N) (hu : P.underlying T = some (.pointer e)) (hi : TI P e z size bytes) (hx : SV S x (.ref id off)) (hy : SV S y (.ref id off)) : IOp P O N o S (S.set t (.bool false)) :=
  iop_of hd ht fun E β a hr => by
    obtain ⟨b, hb, h1⟩ := rd_ref (hx.rd hr)
    obtain ⟨b', hb', h2⟩ := rd_ref (hy.rd hr)
    obtain rfl := Option.some.inj (hb.symm.trans hb')
    obtain ⟨i, hi1, _⟩ := hi.at
    have h3 := run_ne_ptr_same ⟨b, off, none⟩ E.w hu hi1
    exact ⟨_, by simp [execOp, ho, h1, h2, eqGuard, h3], .bool _ _⟩
end
end Go.IL
