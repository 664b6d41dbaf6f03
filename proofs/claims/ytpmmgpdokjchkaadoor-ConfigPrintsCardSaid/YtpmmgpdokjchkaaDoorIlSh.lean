/-
  A part of the proof: rules and plain facts. No condition.
-/
import Derived.Test.YtpmmgpdokjchkaaDoorIlP99
set_option linter.all false
set_option linter.unusedSimpArgs false
set_option linter.unusedVariables false
open Go Go.IL
namespace Go.Fn
/-! Config: what may be; Print; Digest (ConfigPrints). -/
abbrev Cf := T_world_Config
abbrev Vl := T_tune_Values
theorem awake35 : sennitlaw35_awake = some true := by kernel_rfl
def okV (v : Vl) : Prop := (0 ≤ v.Streams ∧ v.Streams ≤ 8) ∧ (1 ≤ v.Window ∧ v.Window ≤ 4096) ∧ (1 ≤ v.Whole ∧ v.Whole ≤ 1048576) ∧ 1 ≤ v.Chunk ∧ v.Chunk ≤ 32
instance (v : Vl) : Decidable (okV v) := by unfold okV; infer_instance
def clamp (a lo hi : Int) : Int := max lo (min a hi)
theorem clamp_eq {a lo hi : Int} (h : lo ≤ hi) : decide (a = clamp a lo hi) = decide (lo ≤ a ∧ a ≤ hi) := by
  unfold clamp
  rw [Bool.eq_iff_iff, decide_eq_true_iff, decide_eq_true_iff]
  omega
theorem tbent (r : T_tune_row) : tune_row_bent r = some ⟨clamp r.c0 0 8, clamp r.c1 1 4096, clamp r.c2 1 1048576, clamp r.c3 1 32⟩ := by
  obtain ⟨m, hm⟩ : ∃ m, fuel = m + 1 + 1 + 1 + 1 + 1 := ⟨2 ^ 64 - 5, by show 2 ^ 64 = _; omega⟩
  unfold tune_row_bent
  rw [show tune_ends = some ((⟨0, 1, 1, 1⟩ : T_tune_row), (⟨8, 4096, 1048576, 32⟩ : T_tune_row)) from rfl, bnoS, hm]
  rfl
theorem tcheck (v : Vl) : tune_Check v = some (if okV v then 0 else 8) := by
  unfold tune_Check
  rw [show tune_Values_row v = some (⟨v.Streams, v.Window, v.Whole, v.Chunk⟩ : T_tune_row) from rfl, bnoS, tbent, bnoS, bndD]
  simp only [clamp_eq (show (0 : Int) ≤ 8 by decide), clamp_eq (show (1 : Int) ≤ 4096 by decide), clamp_eq (show (1 : Int) ≤ 1048576 by decide), clamp_eq (show (1 : Int) ≤ 32 by decide)]
  by_cases h : okV v
  · rw [if_pos h]
    obtain ⟨h1, h2, h3, h4⟩ := h
    rw [decide_eq_true h1, decide_eq_true h2, decide_eq_true h3, decide_eq_true h4]; rfl
  · rw [if_neg h]
    have : (decide (0 ≤ v.Streams ∧ v.Streams ≤ 8) && (decide (1 ≤ v.Window ∧ v.Window ≤ 4096) && (decide (1 ≤ v.Whole ∧ v.Whole ≤ 1048576) && (decide (1 ≤ v.Chunk ∧ v.Chunk ≤ 32) && true)))) = false := by
      rw [← Bool.not_eq_true]
      intro hh
      simp only [Bool.and_eq_true, decide_eq_true_iff, Bool.and_true] at hh
      exact h ⟨hh.1, hh.2.1, hh.2.2.1, hh.2.2.2⟩
    rw [this]; rfl
theorem rtcheck (v : Vl) : sennitref26_Check v = some (if okV v then 0 else 8) := by
  unfold sennitref26_Check sennitref26_in
  simp only [bndD, bnoS]
  by_cases h1 : 0 ≤ v.Streams ∧ v.Streams ≤ 8
  · by_cases h2 : 1 ≤ v.Window ∧ v.Window ≤ 4096
    · by_cases h3 : 1 ≤ v.Whole ∧ v.Whole ≤ 1048576
      · by_cases h4 : 1 ≤ v.Chunk ∧ v.Chunk ≤ 32
        · rw [if_pos ⟨h1, h2, h3, h4⟩]
          simp only [decide_eq_true h1.1, decide_eq_true h1.2, decide_eq_true h2.1, decide_eq_true h2.2, decide_eq_true h3.1, decide_eq_true h3.2, decide_eq_true h4.1, decide_eq_true h4.2, Bool.and_self, Bool.not_true, beq_self_eq_true, gdtt, bnoS, Bool.or_self, bif_ff]
        · rw [if_neg (fun h => h4 h.2.2.2)]
          have e4 : (decide (1 ≤ v.Chunk) && decide (v.Chunk ≤ 32)) = false := by rw [← Bool.not_eq_true, Bool.and_eq_true, decide_eq_true_iff, decide_eq_true_iff]; exact h4
          simp only [decide_eq_true h1.1, decide_eq_true h1.2, decide_eq_true h2.1, decide_eq_true h2.2, decide_eq_true h3.1, decide_eq_true h3.2, e4, Bool.and_self, Bool.not_true, Bool.not_false, beq_self_eq_true, gdtt, bnoS, Bool.or_self, Bool.or_true, bif_tt]
      · rw [if_neg (fun h => h3 h.2.2.1)]
        have e3 : (decide (1 ≤ v.Whole) && decide (v.Whole ≤ 1048576)) = false := by rw [← Bool.not_eq_true, Bool.and_eq_true, decide_eq_true_iff, decide_eq_true_iff]; exact h3
        simp only [decide_eq_true h1.1, decide_eq_true h1.2, decide_eq_true h2.1, decide_eq_true h2.2, e3, Bool.and_self, Bool.not_true, Bool.not_false, beq_self_eq_true, gdtt, bnoS, Bool.or_self, Bool.or_true, tf, gdff, Bool.true_or, bif_tt]
    · rw [if_neg (fun h => h2 h.2.1)]
      have e2 : (decide (1 ≤ v.Window) && decide (v.Window ≤ 4096)) = false := by rw [← Bool.not_eq_true, Bool.and_eq_true, decide_eq_true_iff, decide_eq_true_iff]; exact h2
      simp only [decide_eq_true h1.1, decide_eq_true h1.2, e2, Bool.and_self, Bool.not_true, Bool.not_false, beq_self_eq_true, gdtt, bnoS, Bool.or_self, Bool.or_true, tf, gdff, Bool.true_or, bif_tt]
  · rw [if_neg (fun h => h1 h.1)]
    have e1 : (decide (0 ≤ v.Streams) && decide (v.Streams ≤ 8)) = false := by rw [← Bool.not_eq_true, Bool.and_eq_true, decide_eq_true_iff, decide_eq_true_iff]; exact h1
    simp only [e1, Bool.not_false, tf, gdff, bnoS, Bool.true_or, bif_tt]
def okC (c : Cf) : Prop := (1 ≤ c.Paths ∧ c.Paths ≤ 4) ∧ okV c.Values.c0 ∧ okV c.Values.c1
instance (c : Cf) : Decidable (okC c) := by unfold okC; infer_instance
theorem ccheck35 (c : Cf) : config_Check c = some (if okC c then 0 else 8) := by
  obtain ⟨m, hm⟩ : ∃ m, fuel = m + 1 + 1 + 1 := ⟨2 ^ 64 - 3, by show 2 ^ 64 = _; omega⟩
  unfold config_Check
  simp only [bndD]
  by_cases h1 : 1 ≤ c.Paths ∧ c.Paths ≤ 4
  · rw [decide_eq_false (by omega), decide_eq_false (by omega), Bool.or_self, bif_ff, hm, config_Check_L0]
    simp only [bndD, show decide ((0 : Int) < 2) = true from rfl, bif_tt, show gix [c.Values.c0, c.Values.c1] 0 = some c.Values.c0 from rfl, bnoS, tcheck]
    by_cases h2 : okV c.Values.c0
    · rw [if_pos h2]
      simp only [decide_true, Bool.not_true, bif_ff, show IntKind.wrap .i64 ((0 : Int) + 1) = 1 from rfl, show decide ((1 : Int) < 2) = true from rfl, bif_tt, show gix [c.Values.c0, c.Values.c1] 1 = some c.Values.c1 from rfl, bnoS]
      rw [config_Check_L0]
      simp only [bndD, show decide ((1 : Int) < 2) = true from rfl, bif_tt, show gix [c.Values.c0, c.Values.c1] 1 = some c.Values.c1 from rfl, bnoS, tcheck]
      by_cases h3 : okV c.Values.c1
      · rw [if_pos h3, if_pos (show okC c from ⟨h1, h2, h3⟩)]
        simp only [decide_true, Bool.not_true, bif_ff, show IntKind.wrap .i64 ((1 : Int) + 1) = 2 from rfl]
        rw [config_Check_L0]; rfl
      · rw [if_neg h3, if_neg (show ¬ okC c from fun h => h3 h.2.2)]; rfl
    · rw [if_neg h2, if_neg (show ¬ okC c from fun h => h2 h.2.1)]; rfl
  · rw [if_neg (show ¬ okC c from fun h => h1 h.1)]
    have e1 : (decide (c.Paths < 1) || decide (4 < c.Paths)) = true := by rw [Bool.or_eq_true, decide_eq_true_iff, decide_eq_true_iff]; omega
    rw [e1, bif_tt]
theorem rcheck35 (c : Cf) : sennitref35_Check c = some (if okC c then 0 else 8) := by
  unfold sennitref35_Check
  simp only [bndD, rtcheck, bnoS]
  by_cases h1 : 1 ≤ c.Paths ∧ c.Paths ≤ 4
  · rw [decide_eq_false (by omega), decide_eq_false (by omega), Bool.or_self, bif_ff]
    by_cases h2 : okV c.Values.c0
    · rw [if_pos h2]
      by_cases h3 : okV c.Values.c1
      · rw [if_pos h3, if_pos (show okC c from ⟨h1, h2, h3⟩)]; rfl
      · rw [if_neg h3, if_neg (show ¬ okC c from fun h => h3 h.2.2)]; rfl
    · rw [if_neg h2, if_neg (show ¬ okC c from fun h => h2 h.2.1)]; rfl
  · rw [if_neg (show ¬ okC c from fun h => h1 h.1)]
    have e1 : (decide (c.Paths < 1) || decide (4 < c.Paths)) = true := by rw [Bool.or_eq_true, decide_eq_true_iff, decide_eq_true_iff]; omega
    rw [e1, bif_tt]
/-- Numbers, each with a blank ahead. -/
def numsS (l : List Int) : List UInt8 := l.flatMap fun n => 32 :: itoaF n
def lineS (l : List Int) : List UInt8 := numsS l ++ [10]
theorem numsS_len : ∀ l : List Int, (numsS l).length ≤ 22 * l.length
  | [] => Nat.le_refl _
  | n :: l => by
    have h1 := numsS_len l
    have h2 := itoaF_len n
    show ((32 :: itoaF n) ++ numsS l).length ≤ _
    rw [List.length_append, List.length_cons, List.length_cons]; omega
theorem numsS_app (a b : List Int) : numsS (a ++ b) = numsS a ++ numsS b := by unfold numsS; rw [List.flatMap_append]
theorem numsS_one (n : Int) : numsS [n] = 32 :: itoaF n := by simp [numsS]
theorem line_L {key : List UInt8} (hk : key.length ≤ 100) {l : List Int} (hl : l.length ≤ 10) (h64 : ∀ n ∈ l, J64 n) : ∀ (r p : List Int) (f : Nat), l = p ++ r → r.length < f → config_line_L0 l f (key ++ numsS p) (p.length : Int) = some (key ++ lineS l)
  | [], p, f + 1, h, _ => by
    have e : p = l := by rw [h, List.append_nil]
    have := numsS_len p
    rw [e] at this ⊢
    rw [config_line_L0]
    simp only [bndD, lt_len, bif_ff, cat_ok (a := key ++ numsS l) (b := [10]) (by simp; omega), bnoS]
    unfold lineS
    rw [List.append_assoc]
  | n :: r, p, f + 1, h, hf => by
    have h1 := numsS_len p
    have h2 := itoaF_len n
    have hp : p.length ≤ 10 := by rw [h] at hl; simp at hl; omega
    have hrec := line_L hk hl h64 r (p ++ [n]) f (next_at h) (by simpa using hf)
    rw [config_line_L0]
    simp only [bndD, lt_at h, bif_tt, gix_at h, bnoS, itoa33 (h64 n (by rw [h]; simp)), cat_ok (a := [32]) (b := itoaF n) (by simp; omega), cat_ok (a := key ++ numsS p) (b := [32] ++ itoaF n) (by simp; omega), w_at h (by omega)]
    rw [numsS_app, numsS_one, ← List.append_assoc] at hrec
    exact hrec
theorem line35 {key : List UInt8} (hk : key.length ≤ 100) {l : List Int} (hl : l.length ≤ 10) (h64 : ∀ n ∈ l, J64 n) : config_line key l = some (key ++ lineS l) := by
  have := line_L hk hl h64 l [] fuel rfl (fuel_gt (by omega))
  unfold config_line
  rw [show key = key ++ numsS [] by simp [numsS]]
  have e : (key ++ numsS [] : List UInt8) ++ lineS l = key ++ lineS l := by simp [numsS]
  rw [e]; exact this
theorem list_L {l : List Int} (hl : l.length ≤ 10) (h64 : ∀ n ∈ l, J64 n) : ∀ (r p : List Int) (f : Nat), l = p ++ r → r.length < f → sennitref35_list_L0 l f (numsS p) (p.length : Int) = some (lineS l)
  | [], p, f + 1, h, _ => by
    have e : p = l := by rw [h, List.append_nil]
    have := numsS_len p
    rw [e] at this ⊢
    rw [sennitref35_list_L0]
    simp only [bndD, lt_len, bif_ff, cat_ok (a := numsS l) (b := [10]) (by simp; omega), bnoS]
    rfl
  | n :: r, p, f + 1, h, hf => by
    have h1 := numsS_len p
    have h2 := itoaF_len n
    have hp : p.length ≤ 10 := by rw [h] at hl; simp at hl; omega
    have hrec := list_L hl h64 r (p ++ [n]) f (next_at h) (by simpa using hf)
    rw [sennitref35_list_L0]
    simp only [bndD, lt_at h, bif_tt, gix_at h, bnoS, digits33 (h64 n (by rw [h]; simp)), cat_ok (a := numsS p) (b := [32]) (by simp; omega), cat_ok (a := numsS p ++ [32]) (b := itoaF n) (by simp; omega), w_at h (by omega)]
    rw [numsS_app, numsS_one] at hrec
    rw [List.append_assoc]
    exact hrec
theorem list35 {l : List Int} (hl : l.length ≤ 10) (h64 : ∀ n ∈ l, J64 n) : sennitref35_list l = some (lineS l) := list_L hl h64 l [] fuel rfl (fuel_gt (by omega))
def kP : List UInt8 := [112, 97, 116, 104, 115]
def kV : List UInt8 := [118, 97, 108, 117, 101, 115]
def kF : List UInt8 := [102, 105, 114, 115, 116]
def valL (i : Int) (v : Vl) : List UInt8 := kV ++ lineS [i, v.Streams, v.Window, v.Whole, v.Chunk]
def fstL (i n : Int) : List UInt8 := kF ++ lineS [i, n]
def textS (c : Cf) : List UInt8 := kP ++ lineS [c.Paths] ++ valL 0 c.Values.c0 ++ valL 1 c.Values.c1 ++ fstL 0 c.First.c0 ++ fstL 1 c.First.c1
/-- A config's first numbers are of 32 bits. -/
def F32 (c : Cf) : Prop := (0 ≤ c.First.c0 ∧ c.First.c0 ≤ 4294967295) ∧ 0 ≤ c.First.c1 ∧ c.First.c1 ≤ 4294967295
theorem lineS_len (l : List Int) : (lineS l).length ≤ 22 * l.length + 1 := by
  have := numsS_len l
  unfold lineS; rw [List.length_append]; simp; omega
theorem valL_len (i : Int) (v : Vl) : (valL i v).length ≤ 130 := by
  have := lineS_len [i, v.Streams, v.Window, v.Whole, v.Chunk]
  unfold valL kV
  rw [List.length_append]; simp at this ⊢; omega
theorem fstL_len (i n : Int) : (fstL i n).length ≤ 60 := by
  have := lineS_len [i, n]
  unfold fstL kF
  rw [List.length_append]; simp at this ⊢; omega
theorem pathL_len (n : Int) : (kP ++ lineS [n]).length ≤ 30 := by
  have := lineS_len [n]
  unfold kP
  rw [List.length_append]; simp at this ⊢; omega
theorem j_val {i : Int} {v : Vl} (hi : 0 ≤ i ∧ i ≤ 1) (h : okV v) : ∀ n ∈ [i, v.Streams, v.Window, v.Whole, v.Chunk], J64 n := by
  obtain ⟨h1, h2, h3, h4⟩ := h
  intro n hn
  unfold J64
  simp only [List.mem_cons, List.mem_nil_iff, or_false] at hn
  rcases hn with e | e | e | e | e <;> subst e <;> omega
theorem j_fst {i n : Int} (hi : 0 ≤ i ∧ i ≤ 1) (h : 0 ≤ n ∧ n ≤ 4294967295) : ∀ m ∈ [i, n], J64 m := by
  intro m hm
  unfold J64
  simp only [List.mem_cons, List.mem_nil_iff, or_false] at hm
  rcases hm with e | e <;> subst e <;> omega
theorem j_path {n : Int} (h : 1 ≤ n ∧ n ≤ 4) : ∀ m ∈ [n], J64 m := by
  intro m hm
  unfold J64
  rw [List.mem_singleton.1 hm]; omega
theorem cprint {c : Cf} (hf : F32 c) (h : okC c) : config_Print c = some (textS c, 0) := by
  obtain ⟨h1, h2, h3⟩ := h
  obtain ⟨f1, f2⟩ := hf
  obtain ⟨m, hm⟩ : ∃ m, fuel = m + 1 + 1 + 1 := ⟨2 ^ 64 - 3, by show 2 ^ 64 = _; omega⟩
  have e0 := pathL_len c.Paths
  have e1 := valL_len 0 c.Values.c0
  have e2 := valL_len 1 c.Values.c1
  have e3 := fstL_len 0 c.First.c0
  have e4 := fstL_len 1 c.First.c1
  have l0 : config_line [112, 97, 116, 104, 115] [c.Paths] = some (kP ++ lineS [c.Paths]) := line35 (key := kP) (by decide) (by simp) (j_path h1)
  have l1 : config_line [118, 97, 108, 117, 101, 115] [0, c.Values.c0.Streams, c.Values.c0.Window, c.Values.c0.Whole, c.Values.c0.Chunk] = some (valL 0 c.Values.c0) := line35 (key := kV) (by decide) (by simp) (j_val (by decide) h2)
  have l2 : config_line [118, 97, 108, 117, 101, 115] [1, c.Values.c1.Streams, c.Values.c1.Window, c.Values.c1.Whole, c.Values.c1.Chunk] = some (valL 1 c.Values.c1) := line35 (key := kV) (by decide) (by simp) (j_val (by decide) h3)
  have l3 : config_line [102, 105, 114, 115, 116] [0, c.First.c0] = some (fstL 0 c.First.c0) := line35 (key := kF) (by decide) (by simp) (j_fst (by decide) f1)
  have l4 : config_line [102, 105, 114, 115, 116] [1, c.First.c1] = some (fstL 1 c.First.c1) := line35 (key := kF) (by decide) (by simp) (j_fst (by decide) f2)
  unfold config_Print
  simp only [ccheck35, if_pos (show okC c from ⟨h1, h2, h3⟩), bnoS, bndD, decide_true, Bool.not_true, bif_ff, l0]
  rw [hm, config_Print_L0]
  simp only [bndD, show decide ((0 : Int) < 2) = true from rfl, show decide ((1 : Int) < 2) = true from rfl, show decide ((2 : Int) < 2) = false from rfl, show IntKind.wrap .i64 ((0 : Int) + 1) = 1 from rfl, show IntKind.wrap .i64 ((1 : Int) + 1) = 2 from rfl, bif_tt, bif_ff, show gix [c.Values.c0, c.Values.c1] 0 = some c.Values.c0 from rfl, show gix [c.Values.c0, c.Values.c1] 1 = some c.Values.c1 from rfl, bnoS, l1, l2,
    cat_ok (a := kP ++ lineS [c.Paths]) (b := valL 0 c.Values.c0) (by omega), cat_ok (a := kP ++ lineS [c.Paths] ++ valL 0 c.Values.c0) (b := valL 1 c.Values.c1) (by rw [List.length_append]; omega)]
  rw [config_Print_L0]
  simp only [bndD, show decide ((0 : Int) < 2) = true from rfl, show decide ((1 : Int) < 2) = true from rfl, show decide ((2 : Int) < 2) = false from rfl, show IntKind.wrap .i64 ((0 : Int) + 1) = 1 from rfl, show IntKind.wrap .i64 ((1 : Int) + 1) = 2 from rfl, bif_tt, bif_ff, show gix [c.Values.c0, c.Values.c1] 0 = some c.Values.c0 from rfl, show gix [c.Values.c0, c.Values.c1] 1 = some c.Values.c1 from rfl, bnoS, l1, l2,
    cat_ok (a := kP ++ lineS [c.Paths]) (b := valL 0 c.Values.c0) (by omega), cat_ok (a := kP ++ lineS [c.Paths] ++ valL 0 c.Values.c0) (b := valL 1 c.Values.c1) (by rw [List.length_append]; omega)]
  rw [config_Print_L0]
  simp only [bndD, show decide ((0 : Int) < 2) = true from rfl, show decide ((1 : Int) < 2) = true from rfl, show decide ((2 : Int) < 2) = false from rfl, show IntKind.wrap .i64 ((0 : Int) + 1) = 1 from rfl, show IntKind.wrap .i64 ((1 : Int) + 1) = 2 from rfl, bif_tt, bif_ff, show gix [c.Values.c0, c.Values.c1] 0 = some c.Values.c0 from rfl, show gix [c.Values.c0, c.Values.c1] 1 = some c.Values.c1 from rfl, bnoS, l1, l2,
    cat_ok (a := kP ++ lineS [c.Paths]) (b := valL 0 c.Values.c0) (by omega), cat_ok (a := kP ++ lineS [c.Paths] ++ valL 0 c.Values.c0) (b := valL 1 c.Values.c1) (by rw [List.length_append]; omega)]
  rw [hm, config_Print_L1]
  simp only [bndD, show decide ((0 : Int) < 2) = true from rfl, show decide ((1 : Int) < 2) = true from rfl, show decide ((2 : Int) < 2) = false from rfl, show IntKind.wrap .i64 ((0 : Int) + 1) = 1 from rfl, show IntKind.wrap .i64 ((1 : Int) + 1) = 2 from rfl, bif_tt, bif_ff, show gix [c.First.c0, c.First.c1] 0 = some c.First.c0 from rfl, show gix [c.First.c0, c.First.c1] 1 = some c.First.c1 from rfl, bnoS, w64 (show -9223372036854775808 ≤ c.First.c0 by omega) (show c.First.c0 ≤ 9223372036854775807 by omega), w64 (show -9223372036854775808 ≤ c.First.c1 by omega) (show c.First.c1 ≤ 9223372036854775807 by omega), l3, l4,
    cat_ok (a := kP ++ lineS [c.Paths] ++ valL 0 c.Values.c0 ++ valL 1 c.Values.c1) (b := fstL 0 c.First.c0) (by rw [List.length_append, List.length_append]; omega), cat_ok (a := kP ++ lineS [c.Paths] ++ valL 0 c.Values.c0 ++ valL 1 c.Values.c1 ++ fstL 0 c.First.c0) (b := fstL 1 c.First.c1) (by rw [List.length_append, List.length_append, List.length_append]; omega)]
  rw [config_Print_L1]
  simp only [bndD, show decide ((0 : Int) < 2) = true from rfl, show decide ((1 : Int) < 2) = true from rfl, show decide ((2 : Int) < 2) = false from rfl, show IntKind.wrap .i64 ((0 : Int) + 1) = 1 from rfl, show IntKind.wrap .i64 ((1 : Int) + 1) = 2 from rfl, bif_tt, bif_ff, show gix [c.First.c0, c.First.c1] 0 = some c.First.c0 from rfl, show gix [c.First.c0, c.First.c1] 1 = some c.First.c1 from rfl, bnoS, w64 (show -9223372036854775808 ≤ c.First.c0 by omega) (show c.First.c0 ≤ 9223372036854775807 by omega), w64 (show -9223372036854775808 ≤ c.First.c1 by omega) (show c.First.c1 ≤ 9223372036854775807 by omega), l3, l4,
    cat_ok (a := kP ++ lineS [c.Paths] ++ valL 0 c.Values.c0 ++ valL 1 c.Values.c1) (b := fstL 0 c.First.c0) (by rw [List.length_append, List.length_append]; omega), cat_ok (a := kP ++ lineS [c.Paths] ++ valL 0 c.Values.c0 ++ valL 1 c.Values.c1 ++ fstL 0 c.First.c0) (b := fstL 1 c.First.c1) (by rw [List.length_append, List.length_append, List.length_append]; omega)]
  rw [config_Print_L1]
  simp only [bndD, show decide ((0 : Int) < 2) = true from rfl, show decide ((1 : Int) < 2) = true from rfl, show decide ((2 : Int) < 2) = false from rfl, show IntKind.wrap .i64 ((0 : Int) + 1) = 1 from rfl, show IntKind.wrap .i64 ((1 : Int) + 1) = 2 from rfl, bif_tt, bif_ff, show gix [c.First.c0, c.First.c1] 0 = some c.First.c0 from rfl, show gix [c.First.c0, c.First.c1] 1 = some c.First.c1 from rfl, bnoS, w64 (show -9223372036854775808 ≤ c.First.c0 by omega) (show c.First.c0 ≤ 9223372036854775807 by omega), w64 (show -9223372036854775808 ≤ c.First.c1 by omega) (show c.First.c1 ≤ 9223372036854775807 by omega), l3, l4,
    cat_ok (a := kP ++ lineS [c.Paths] ++ valL 0 c.Values.c0 ++ valL 1 c.Values.c1) (b := fstL 0 c.First.c0) (by rw [List.length_append, List.length_append]; omega), cat_ok (a := kP ++ lineS [c.Paths] ++ valL 0 c.Values.c0 ++ valL 1 c.Values.c1 ++ fstL 0 c.First.c0) (b := fstL 1 c.First.c1) (by rw [List.length_append, List.length_append, List.length_append]; omega)]
  rfl
theorem rprint {c : Cf} (hf : F32 c) (h : okC c) : sennitref35_Print c = some (textS c, 0) := by
  obtain ⟨h1, h2, h3⟩ := h
  obtain ⟨f1, f2⟩ := hf
  obtain ⟨m, hm⟩ : ∃ m, fuel = m + 1 + 1 + 1 := ⟨2 ^ 64 - 3, by show 2 ^ 64 = _; omega⟩
  have e0 := pathL_len c.Paths
  have e1 := valL_len 0 c.Values.c0
  have e2 := valL_len 1 c.Values.c1
  have e3 := fstL_len 0 c.First.c0
  have e4 := fstL_len 1 c.First.c1
  have n1 := lineS_len [0, c.Values.c0.Streams, c.Values.c0.Window, c.Values.c0.Whole, c.Values.c0.Chunk]
  have n2 := lineS_len [1, c.Values.c1.Streams, c.Values.c1.Window, c.Values.c1.Whole, c.Values.c1.Chunk]
  have n3 := lineS_len [0, c.First.c0]
  have n4 := lineS_len [1, c.First.c1]
  have n0 := lineS_len [c.Paths]
  have lv : kV.length = 6 := rfl
  have lf : kF.length = 5 := rfl
  have lp : kP.length = 5 := rfl
  simp only [List.length_cons, List.length_nil] at n0 n1 n2 n3 n4
  have l0 := list35 (l := [c.Paths]) (by simp) (j_path h1)
  have l1 := list35 (l := [0, c.Values.c0.Streams, c.Values.c0.Window, c.Values.c0.Whole, c.Values.c0.Chunk]) (by simp) (j_val (by decide) h2)
  have l2 := list35 (l := [1, c.Values.c1.Streams, c.Values.c1.Window, c.Values.c1.Whole, c.Values.c1.Chunk]) (by simp) (j_val (by decide) h3)
  have l3 := list35 (l := [0, c.First.c0]) (by simp) (j_fst (by decide) f1)
  have l4 := list35 (l := [1, c.First.c1]) (by simp) (j_fst (by decide) f2)
  unfold sennitref35_Print
  have c0 : cat ([112, 97, 116, 104, 115] : List UInt8) (lineS [c.Paths]) = some (kP ++ lineS [c.Paths]) := cat_ok (a := kP) (by omega)
  simp only [rcheck35, if_pos (show okC c from ⟨h1, h2, h3⟩), bnoS, bndD, decide_true, Bool.not_true, bif_ff, l0, c0]
  have c1 : cat (kP ++ lineS [c.Paths]) ([118, 97, 108, 117, 101, 115] : List UInt8) = some (kP ++ lineS [c.Paths] ++ kV) := cat_ok (b := kV) (by omega)
  have c2 : cat (kP ++ lineS [c.Paths] ++ kV) (lineS [0, c.Values.c0.Streams, c.Values.c0.Window, c.Values.c0.Whole, c.Values.c0.Chunk]) = some (kP ++ lineS [c.Paths] ++ valL 0 c.Values.c0) := by
    rw [cat_ok (by rw [List.length_append]; omega), List.append_assoc]; rfl
  have c3 : cat (kP ++ lineS [c.Paths] ++ valL 0 c.Values.c0) ([118, 97, 108, 117, 101, 115] : List UInt8) = some (kP ++ lineS [c.Paths] ++ valL 0 c.Values.c0 ++ kV) := cat_ok (b := kV) (by rw [List.length_append]; omega)
  have c4 : cat (kP ++ lineS [c.Paths] ++ valL 0 c.Values.c0 ++ kV) (lineS [1, c.Values.c1.Streams, c.Values.c1.Window, c.Values.c1.Whole, c.Values.c1.Chunk]) = some (kP ++ lineS [c.Paths] ++ valL 0 c.Values.c0 ++ valL 1 c.Values.c1) := by
    rw [cat_ok (by rw [List.length_append, List.length_append]; omega), List.append_assoc]; rfl
  have k0 : chk ((0 : Int) ≤ 0 ∧ (0 : Int) < 2) = fun (o : Option (List UInt8 × Int)) => o := by funext o; exact chk_t (by decide)
  have k1 : chk ((0 : Int) ≤ 1 ∧ (1 : Int) < 2) = fun (o : Option (List UInt8 × Int)) => o := by funext o; exact chk_t (by decide)
  rw [hm, sennitref35_Print_L0]
  simp only [bndD, show decide ((0 : Int) < 2) = true from rfl, show decide ((1 : Int) < 2) = true from rfl, show decide ((2 : Int) < 2) = false from rfl, show IntKind.wrap .i64 ((0 : Int) + 1) = 1 from rfl, show IntKind.wrap .i64 ((1 : Int) + 1) = 2 from rfl, bif_tt, bif_ff, k0, k1, show gix [c.Values.c0, c.Values.c1] 0 = some c.Values.c0 from rfl, show gix [c.Values.c0, c.Values.c1] 1 = some c.Values.c1 from rfl, bnoS, l1, l2, c1, c2, c3, c4]
  rw [sennitref35_Print_L0]
  simp only [bndD, show decide ((0 : Int) < 2) = true from rfl, show decide ((1 : Int) < 2) = true from rfl, show decide ((2 : Int) < 2) = false from rfl, show IntKind.wrap .i64 ((0 : Int) + 1) = 1 from rfl, show IntKind.wrap .i64 ((1 : Int) + 1) = 2 from rfl, bif_tt, bif_ff, k0, k1, show gix [c.Values.c0, c.Values.c1] 0 = some c.Values.c0 from rfl, show gix [c.Values.c0, c.Values.c1] 1 = some c.Values.c1 from rfl, bnoS, l1, l2, c1, c2, c3, c4]
  rw [sennitref35_Print_L0]
  simp only [bndD, show decide ((0 : Int) < 2) = true from rfl, show decide ((1 : Int) < 2) = true from rfl, show decide ((2 : Int) < 2) = false from rfl, show IntKind.wrap .i64 ((0 : Int) + 1) = 1 from rfl, show IntKind.wrap .i64 ((1 : Int) + 1) = 2 from rfl, bif_tt, bif_ff, k0, k1, show gix [c.Values.c0, c.Values.c1] 0 = some c.Values.c0 from rfl, show gix [c.Values.c0, c.Values.c1] 1 = some c.Values.c1 from rfl, bnoS, l1, l2, c1, c2, c3, c4]
  generalize hA : kP ++ lineS [c.Paths] ++ valL 0 c.Values.c0 ++ valL 1 c.Values.c1 = A
  have lA : A.length ≤ 290 := by rw [← hA, List.length_append, List.length_append]; omega
  have d1 : cat A ([102, 105, 114, 115, 116] : List UInt8) = some (A ++ kF) := cat_ok (b := kF) (by omega)
  have d2 : cat (A ++ kF) (lineS [0, c.First.c0]) = some (A ++ fstL 0 c.First.c0) := by
    rw [cat_ok (by rw [List.length_append]; omega), List.append_assoc]; rfl
  have d3 : cat (A ++ fstL 0 c.First.c0) ([102, 105, 114, 115, 116] : List UInt8) = some (A ++ fstL 0 c.First.c0 ++ kF) := cat_ok (b := kF) (by rw [List.length_append]; omega)
  have d4 : cat (A ++ fstL 0 c.First.c0 ++ kF) (lineS [1, c.First.c1]) = some (A ++ fstL 0 c.First.c0 ++ fstL 1 c.First.c1) := by
    rw [cat_ok (by rw [List.length_append, List.length_append]; omega), List.append_assoc]; rfl
  rw [hm, sennitref35_Print_L1]
  simp only [bndD, show decide ((0 : Int) < 2) = true from rfl, show decide ((1 : Int) < 2) = true from rfl, show decide ((2 : Int) < 2) = false from rfl, show IntKind.wrap .i64 ((0 : Int) + 1) = 1 from rfl, show IntKind.wrap .i64 ((1 : Int) + 1) = 2 from rfl, bif_tt, bif_ff, k0, k1, show gix [c.First.c0, c.First.c1] 0 = some c.First.c0 from rfl, show gix [c.First.c0, c.First.c1] 1 = some c.First.c1 from rfl, bnoS, w64 (show -9223372036854775808 ≤ c.First.c0 by omega) (show c.First.c0 ≤ 9223372036854775807 by omega), w64 (show -9223372036854775808 ≤ c.First.c1 by omega) (show c.First.c1 ≤ 9223372036854775807 by omega), l3, l4, d1, d2, d3, d4]
  rw [sennitref35_Print_L1]
  simp only [bndD, show decide ((0 : Int) < 2) = true from rfl, show decide ((1 : Int) < 2) = true from rfl, show decide ((2 : Int) < 2) = false from rfl, show IntKind.wrap .i64 ((0 : Int) + 1) = 1 from rfl, show IntKind.wrap .i64 ((1 : Int) + 1) = 2 from rfl, bif_tt, bif_ff, k0, k1, show gix [c.First.c0, c.First.c1] 0 = some c.First.c0 from rfl, show gix [c.First.c0, c.First.c1] 1 = some c.First.c1 from rfl, bnoS, w64 (show -9223372036854775808 ≤ c.First.c0 by omega) (show c.First.c0 ≤ 9223372036854775807 by omega), w64 (show -9223372036854775808 ≤ c.First.c1 by omega) (show c.First.c1 ≤ 9223372036854775807 by omega), l3, l4, d1, d2, d3, d4]
  rw [sennitref35_Print_L1]
  simp only [bndD, show decide ((0 : Int) < 2) = true from rfl, show decide ((1 : Int) < 2) = true from rfl, show decide ((2 : Int) < 2) = false from rfl, show IntKind.wrap .i64 ((0 : Int) + 1) = 1 from rfl, show IntKind.wrap .i64 ((1 : Int) + 1) = 2 from rfl, bif_tt, bif_ff, k0, k1, show gix [c.First.c0, c.First.c1] 0 = some c.First.c0 from rfl, show gix [c.First.c0, c.First.c1] 1 = some c.First.c1 from rfl, bnoS, w64 (show -9223372036854775808 ≤ c.First.c0 by omega) (show c.First.c0 ≤ 9223372036854775807 by omega), w64 (show -9223372036854775808 ≤ c.First.c1 by omega) (show c.First.c1 ≤ 9223372036854775807 by omega), l3, l4, d1, d2, d3, d4]
  rw [← hA]; rfl
theorem dg_L {s : List UInt8} {e : Int} (hl : s.length ≤ 1000) : ∀ (r p : List UInt8) (f : Nat) (a : Int), s = p ++ r → r.length < f → ∃ d, config_Digest_L0 (s, e) f a (p.length : Int) = some d ∧ sennitref35_Digest_L0 (s, e) f a (p.length : Int) = some d
  | [], p, f + 1, a, h, _ => by
    rw [List.append_nil] at h
    rw [config_Digest_L0, sennitref35_Digest_L0]
    simp only [bndD, ← h, lt_len, bif_ff]
    exact ⟨_, rfl, rfl⟩
  | x :: r, p, f + 1, a, h, hf => by
    rw [config_Digest_L0, sennitref35_Digest_L0]
    simp only [bndD, lt_at h, bif_tt, gix_at h, bnoS, w_at h (show s.length ≤ 1000000 by omega)]
    exact dg_L hl r (p ++ [x]) f _ (next_at h) (by simpa using hf)
theorem textS_len (c : Cf) : (textS c).length ≤ 410 := by
  have e0 := pathL_len c.Paths
  have e1 := valL_len 0 c.Values.c0
  have e2 := valL_len 1 c.Values.c1
  have e3 := fstL_len 0 c.First.c0
  have e4 := fstL_len 1 c.First.c1
  unfold textS
  rw [List.length_append, List.length_append, List.length_append, List.length_append]; omega
theorem first35 : config_First = some ⟨2, ⟨⟨8, 256, 4096, 32⟩, ⟨8, 256, 4096, 32⟩⟩, ⟨1, 2⟩⟩ := rfl
theorem rfirst35 : sennitref35_First = some ⟨2, ⟨⟨8, 256, 4096, 32⟩, ⟨8, 256, 4096, 32⟩⟩, ⟨1, 2⟩⟩ := rfl
theorem configPrints {c : Cf} (hf : F32 c) : sennitlaw35_ConfigPrints c = some true := by
  have key : ∃ s e d, config_Print c = some (s, e) ∧ sennitref35_Print c = some (s, e) ∧ config_Digest c = some d ∧ sennitref35_Digest c = some d := by
    by_cases h : okC c
    · have p1 := cprint hf h
      have p2 := rprint hf h
      have hl := textS_len c
      obtain ⟨d, d1, d2⟩ := dg_L (e := 0) (s := textS c) (by omega) (textS c) [] fuel 2166136261 rfl (fuel_gt (by omega))
      refine ⟨_, _, d, p1, p2, ?_, ?_⟩
      · unfold config_Digest
        rw [p1, bnoS]; exact d1
      · unfold sennitref35_Digest
        rw [p2, bnoS]; exact d2
    · have p1 : config_Print c = some ([], 8) := by unfold config_Print; rw [ccheck35, if_neg h]; rfl
      have p2 : sennitref35_Print c = some ([], 8) := by unfold sennitref35_Print; rw [rcheck35, if_neg h]; rfl
      refine ⟨_, _, 0, p1, p2, ?_, ?_⟩
      · unfold config_Digest
        rw [p1, bnoS]; rfl
      · unfold sennitref35_Digest
        rw [p2, bnoS]; rfl
  obtain ⟨s, e, d, p1, p2, d1, d2⟩ := key
  unfold sennitlaw35_ConfigPrints
  rw [show sennitlaw32_Conf c = some c from rfl, bnoS, p1, bnoS, p2, bnoS]
  simp only [bndD, decide_true, Bool.and_self, beq_self_eq_true, gdtt, ccheck35, rcheck35, bnoS, d1, d2, first35, rfirst35, show ∀ x, sennitlaw35_back x = some x from fun _ => rfl, awake35, Bool.and_true]
end Go.Fn
namespace Go.IL
section
variable {P : Program} {O : Origin} {N : Nat} {S S' : St} {o : Oper} {t : Nat} {Q : Exit → St → Prop}
/-! Short names. -/
theorem lb {a b : Nat} (h : Nat.ble (a + 1) b = true) : a < b := Nat.le_of_ble_eq_true h
theorem svI {x : Operand} {k : IntKind} {n : Int} (h : S.op x = .int k n) : SV S x (.int k n) := sv h
theorem svB {x : Operand} {n : Bool} (h : S.op x = .bool n) : SV S x (.bool n) := sv h
theorem svR {x : Operand} {i j : Nat} (h : S.op x = .ref i j) : SV S x (.ref i j) := sv h
theorem svL {x : Operand} {f : Bool} {l : List D} (h : S.op x = .slice f l) : SV S x (.slice f l) := sv h
theorem svA {x : Operand} (l : List D) (h : S.op x = .agg l) : SV S x (.agg l) := sv h
theorem svcI {x : Operand} {b : Bool} {k : IntKind} {n : Int} (h : S.op x = .cnd b (.int k n)) (hb : b = true) : SV S x (.int k n) := svc h hb
theorem svcB {x : Operand} {b n : Bool} (h : S.op x = .cnd b (.bool n)) (hb : b = true) : SV S x (.bool n) := svc h hb
theorem svcR {x : Operand} {b : Bool} {i j : Nat} (h : S.op x = .cnd b (.ref i j)) (hb : b = true) : SV S x (.ref i j) := svc h hb
theorem svcL {x : Operand} {b : Bool} {f : Bool} {l : List D} (h : S.op x = .cnd b (.slice f l)) (hb : b = true) : SV S x (.slice f l) := svc h hb
theorem svcA {x : Operand} {b : Bool} (l : List D) (h : S.op x = .cnd b (.agg l)) (hb : b = true) : SV S x (.agg l) := svc h hb
theorem mvI {x : Operand} {k : IntKind} {n : Int} (ho : o.op = .move x) (hd : o.dst = some t) (ht : Nat.ble (t + 1) N = true) (hx : S.op x = .int k n) : IOp P O N o S (S.set t (.int k n)) := iop_move ho hd (lb ht) (sv hx)
theorem mvB {x : Operand} {n : Bool} (ho : o.op = .move x) (hd : o.dst = some t) (ht : Nat.ble (t + 1) N = true) (hx : S.op x = .bool n) : IOp P O N o S (S.set t (.bool n)) := iop_move ho hd (lb ht) (sv hx)
theorem mvR {x : Operand} {i j : Nat} (ho : o.op = .move x) (hd : o.dst = some t) (ht : Nat.ble (t + 1) N = true) (hx : S.op x = .ref i j) : IOp P O N o S (S.set t (.ref i j)) := iop_move ho hd (lb ht) (sv hx)
theorem mvL {x : Operand} {f : Bool} {l : List D} (ho : o.op = .move x) (hd : o.dst = some t) (ht : Nat.ble (t + 1) N = true) (hx : S.op x = .slice f l) : IOp P O N o S (S.set t (.slice f l)) := iop_move ho hd (lb ht) (sv hx)
theorem asI {x : Operand} {k : IntKind} {n : Int} (ho : o.op = .assign x) (hd : o.dst = some t) (ht : Nat.ble (t + 1) N = true) (hx : S.op x = .int k n) : IOp P O N o S (S.set t (.int k n)) := iop_assign ho hd (lb ht) (sv hx)
theorem asB {x : Operand} {n : Bool} (ho : o.op = .assign x) (hd : o.dst = some t) (ht : Nat.ble (t + 1) N = true) (hx : S.op x = .bool n) : IOp P O N o S (S.set t (.bool n)) := iop_assign ho hd (lb ht) (sv hx)
def LA (P : Program) (T : TypeId) (u : TypeDesc) (z : Option Value) (size bytes : Nat) (g : Bool) : Prop := P.underlying T = some u ∧ aggOf P T = g ∧ TI P T z size bytes ∧ 0 < size
theorem LA.mk {T : TypeId} {u : TypeDesc} {z : Option Value} {size bytes : Nat} {g : Bool} (h1 : P.underlying T = some u) (h2 : aggOf P T = g) (h3 : TI P T z size bytes) (h4 : 0 < size) : LA P T u z size bytes g := ⟨h1, h2, h3, h4⟩
theorem lra {T : TypeId} {x : Operand} {u : TypeDesc} {z : Option Value} {size bytes : Nat} {id off : Nat} {e : TypeId} {ds : List D} (cs : List D) (l : LA P T u z size bytes true) (ho : o.op = .load T x) (hd : o.dst = some t) (ht : Nat.ble (t + 1) N = true)
    (hx : S.op x = .ref id off) (he : S.ent id = .blk e ds) (hn : off + size ≤ ds.length) (hdd : (ds.drop off).take size = cs) : IOp P O N o S (S.set t (.agg cs)) := iop_load_ra ho hd (lb ht) l.1 l.2.1 l.2.2.1 l.2.2.2 (sv hx) he hn hdd
theorem rva {x : Nat} {T : TypeId} {id off : Nat} {e : TypeId} {ds cs : List D} {u : TypeDesc} {z : Option Value} {size bytes : Nat} (l : LA P T u z size bytes true) (hx : S.get x = .ref id off) (he : S.ent id = .blk e ds)
    (hn : off + size ≤ ds.length) (hd : (ds.drop off).take size = cs) : ResV P S (.cell x T) (.agg cs) := resv_a hx he l.1 l.2.1 l.2.2.1 l.2.2.2 hn hd
theorem stA {T : TypeId} {x y : Operand} {z : Option Value} {size bytes : Nat} {id off : Nat} {e : TypeId} {ds : List D} (c ds' : List D) (hi : TI P T z size bytes) (ho : o.op = .store T x y) (hd : o.dst = none)
    (hx : S.op x = .ref id off) (he : S.ent id = .blk e ds) (hy : S.op y = .agg c) (hb : (D.agg c).boxable = true) (hsz : (D.agg c).cells.length = size) (h1 : (D.agg c).cells.all D.one = true)
    (hn : off + size ≤ ds.length) (hds : splice ds off (D.agg c).cells = ds') : IOp P O N o S (S.setE id (.blk e ds')) := iop_store ho hd hi (sv hx) he (sv hy) hb hsz h1 hn hds
theorem faR {T : TypeId} {x : Operand} {i : Nat} {fs : Array Field} {F : Field} {z : Option Value} {size bytes : Nat} {id off : Nat} (off' : Nat) (ho : o.op = .fieldAddr T x i) (hd : o.dst = some t) (ht : Nat.ble (t + 1) N = true)
    (hu : P.underlying T = some (.struct fs)) (hf : fs[i]? = some F) (hi : TI P F.type z size bytes) (hs : 0 < size) (hx : S.op x = .ref id off) (ho' : off + F.offset = off') : IOp P O N o S (S.set t (.ref id off')) :=
  iop_fieldAddr_ref ho hd (lb ht) hu hf hi hs (sv hx) ho'
theorem svaI {n : Node} {S0 : St} {s : Nat} {k : IntKind} {m : Int} (hA : Agree n S S0) (hm : n.rs.elem s = true) (h : S0.get s = .int k m) : SV S (.tmp s) (.int k m) := sv (agr hA hm h)
theorem svaB {n : Node} {S0 : St} {s : Nat} {m : Bool} (hA : Agree n S S0) (hm : n.rs.elem s = true) (h : S0.get s = .bool m) : SV S (.tmp s) (.bool m) := sv (agr hA hm h)
theorem svaR {n : Node} {S0 : St} {s i j : Nat} (hA : Agree n S S0) (hm : n.rs.elem s = true) (h : S0.get s = .ref i j) : SV S (.tmp s) (.ref i j) := sv (agr hA hm h)
theorem svaL {n : Node} {S0 : St} {s : Nat} {f : Bool} {l : List D} (hA : Agree n S S0) (hm : n.rs.elem s = true) (h : S0.get s = .slice f l) : SV S (.tmp s) (.slice f l) := sv (agr hA hm h)
theorem svaA {n : Node} {S0 : St} {s : Nat} (l : List D) (hA : Agree n S S0) (hm : n.rs.elem s = true) (h : S0.get s = .agg l) : SV S (.tmp s) (.agg l) := sv (agr hA hm h)
theorem AllW.s {ρ : Nat → Nat} {t : Nat} {d : D} {l : List (Nat × D)} (h : S.get t = d.ren ρ) (hr : d.refsIn S'.okn = true) (k : AllW (SlW S S' ρ) l) : AllW (SlW S S' ρ) ((t, d) :: l) := .cons (.same h hr) k
theorem AllW.sames {ρ : Nat → Nat} : ∀ {l : List (Nat × D)}, l.map (fun p => S.get p.1) = l.map (fun p => p.2.ren ρ) → (l.all fun p => p.2.refsIn S'.okn) = true → AllW (SlW S S' ρ) l
  | [], _, _ => .nil
  | (t, d) :: l, h, hr => by
    simp only [List.map_cons, List.cons.injEq] at h
    simp only [List.all_cons, Bool.and_eq_true] at hr
    exact .cons (.same h.1 hr.1) (AllW.sames h.2 hr.2)
end
theorem SubL.k {d : D} {ds ds' : List D} (t : SubL ds ds') : SubL (d :: ds) (d :: ds') := .cons (.refl d) t
theorem FDL.k {S : St} {d : D} {ds ds' : List D} (t : FDL S ds ds') : FDL S (d :: ds) (d :: ds') := .cons (.refl d) t
theorem SubL.all : ∀ (l : List D), SubL l l
  | [] => .nil
  | d :: l => .cons (.refl d) (SubL.all l)
theorem FDL.all {S : St} (l : List D) : FDL S l l := fdl_refl l
theorem and_ff {a b : Bool} (h : (a && false) = b) : b = false := by rw [← h, Bool.and_false]
theorem and_tt {a b : Bool} (h : (a && true) = b) (k : a = true) : b = true := by rw [← h, k]; rfl
theorem and_cf {a b c : Bool} (h : (a && c) = b) (k : a = false) : b = false := by rw [← h, k]; rfl
theorem beq_t {a : Bool} (h : (a == true) = true) : a = true := by simpa using h
theorem beq_f {a : Bool} (h : (a == true) = false) : a = false := by simpa using h
end Go.IL
