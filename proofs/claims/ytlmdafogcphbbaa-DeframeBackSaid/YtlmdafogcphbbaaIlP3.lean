/-
  A part of the proof: rules and plain facts. No condition.
-/
import Derived.Test.YtlmdafogcphbbaaIlP2
set_option linter.all false
set_option linter.unusedSimpArgs false
set_option linter.unusedVariables false
open Go Go.IL
namespace Go.Fn

/-- Which numbers a kind's payload has: their places. -/
def offsK (k : Int) : List Nat :=
  if k = 0 then [2, 3] else if k = 9 then [2, 3] else if k = 1 then [2, 4, 5] else if k = 2 then [2, 4, 5] else if k = 3 then [2, 6, 7] else if k = 7 then [2, 7] else
  if k = 8 then [2, 6] else if k = 6 then [6] else if k = 10 then [6, 7] else []
def chrOf (o : Nat) : UInt8 := if o = 2 then 115 else if o = 3 then 111 else if o = 4 then 100 else if o = 5 then 119 else if o = 6 then 110 else 99
def knownK (k : Int) : Bool := decide (k ≤ 10) && !decide (k = 5)
def flgK (k : Int) : Bool := decide (k = 0) || decide (k = 1) || decide (k = 2) || decide (k = 4) || decide (k = 6) || decide (k = 9)
/-- A field by its place. -/
def nv (f : T_frame_Frame) (o : Nat) : Int := if o = 2 then f.Stream else if o = 3 then f.Offset else if o = 4 then f.Dep else if o = 5 then f.Weight else if o = 6 then f.N else f.Code
def zr (f : T_frame_Frame) (o : Nat) : Bool := (offsK f.Kind).contains o || decide (nv f o = 0)
def spr (f : T_frame_Frame) : Bool :=
  !(zr f 2 && zr f 3 && zr f 4 && zr f 5 && zr f 6 && zr f 7) || (!decide (f.Kind = 0) && !decide (f.Data = [])) || (!decide (f.Kind = 4) && !decide (f.Pairs = [])) || (f.Flag && (!flgK f.Kind || !decide (f.Pairs = [])))
def chkF (f : T_frame_Frame) : Int :=
  if knownK f.Kind = false then 12 else if rng f = false then 8 else if 32 < f.Data.length ∨ 4 < f.Pairs.length then 5 else if spr f then 4 else 0

theorem numbers_is (f : T_frame_Frame) : frame_Frame_numbers_h f = some (offsK f.Kind) := by
  have a3 : ∀ l : List Nat, l.length ≤ 3 → app 8 [] l = some l := fun l hl => app_ok (by simp; omega) (by simp; omega)
  unfold frame_Frame_numbers_h offsK frame_Frame_numbers_h_J0
  simp only [bnd_d]
  by_cases h0 : f.Kind = 0
  · simp [h0, a3, bno_s]
  by_cases h9 : f.Kind = 9
  · simp [h9, a3, bno_s]
  by_cases h1 : f.Kind = 1
  · simp [h1, a3, bno_s]
  by_cases h2 : f.Kind = 2
  · simp [h2, a3, bno_s]
  by_cases h3 : f.Kind = 3
  · simp [h3, a3, bno_s]
  by_cases h7 : f.Kind = 7
  · simp [h7, a3, bno_s]
  by_cases h8 : f.Kind = 8
  · simp [h8, a3, bno_s, app]
  by_cases h6 : f.Kind = 6
  · simp [h6, a3, bno_s]
  by_cases h10 : f.Kind = 10
  · simp [h10, a3, bno_s]
  simp [h0, h9, h1, h2, h3, h7, h8, h6, h10]
theorem flagged_is (k : Int) : frame_flagged k = some (flgK k) := by
  unfold frame_flagged flgK
  simp only [bnd_d]
  by_cases h0 : k = 0
  · simp [h0]
  by_cases h1 : k = 1
  · simp [h1]
  by_cases h2 : k = 2
  · simp [h2]
  by_cases h4 : k = 4
  · simp [h4]
  by_cases h6 : k = 6
  · simp [h6]
  by_cases h9 : k = 9
  · simp [h9]
  simp [h0, h1, h2, h4, h6, h9]
theorem rflagged_is {k : Int} (h : 0 ≤ k) : sennitref15_flagged k = some (flgK k) := by
  unfold sennitref15_flagged flgK
  simp only [bnd_d]
  have e : decide (k ≤ 2) = (decide (k = 0) || decide (k = 1) || decide (k = 2)) := by
    rw [Bool.eq_iff_iff]; simp; omega
  rw [e]
theorem known_is (k : Int) : frame_known k = some (knownK k) := rfl

theorem bare_J (f : T_frame_Frame) (a b c d e g : Int) (p : List T_api_Pair) (q : List UInt8) : frame_Frame_bare_J1 f a b c d e g p q = some ⟨f.Kind, !flgK f.Kind && f.Flag, a, b, c, d, e, g, p, q⟩ := by
  unfold frame_Frame_bare_J1
  rw [flagged_is, bno_s]
  cases flgK f.Kind <;> simp
def bareP (f : T_frame_Frame) : List T_api_Pair := if f.Kind = 4 ∧ f.Flag = false then [] else f.Pairs
def bareD (f : T_frame_Frame) : List UInt8 := if f.Kind = 0 then [] else f.Data
def bz (l : List Nat) (o : Nat) (v : Int) : Int := bif l.contains o then 0 else v
theorem bare_end (f : T_frame_Frame) (l : List Nat) (k i : Nat) (h : i = l.length) (a b c d e g : Int) : frame_Frame_bare_L0 f l (k + 1) (i : Int) a b c d e g = some ⟨f.Kind, !flgK f.Kind && f.Flag, a, b, c, d, e, g, bareP f, bareD f⟩ := by
  unfold frame_Frame_bare_L0 bareP bareD
  simp only [bnd_d]
  rw [decide_eq_false (by omega), cond_false]
  simp only [bare_J]
  by_cases h0 : f.Kind = 0
  · simp [h0]
  by_cases h4 : f.Kind = 4
  · cases hf : f.Flag <;> simp [h4, hf]
  simp [h0, h4]
theorem icell_at {a b c d e g : Int} {o : Nat} (h : 2 ≤ o) (h2 : o ≤ 7) : ∃ x, icell [none, none, some a, some b, some c, some d, some e, some g, none, none] o = some x := by
  obtain rfl | rfl | rfl | rfl | rfl | rfl : o = 2 ∨ o = 3 ∨ o = 4 ∨ o = 5 ∨ o = 6 ∨ o = 7 := by omega
  all_goals exact ⟨_, rfl⟩
theorem bare_loop (f : T_frame_Frame) (l : List Nat) (hl : l.length ≤ 1000) (hr : ∀ o ∈ l, 2 ≤ o ∧ o ≤ 7) : ∀ (k i : Nat) (a b c d e g : Int), l.length - i < k → i ≤ l.length →
    frame_Frame_bare_L0 f l k (i : Int) a b c d e g = some ⟨f.Kind, !flgK f.Kind && f.Flag, bz (l.drop i) 2 a, bz (l.drop i) 3 b, bz (l.drop i) 4 c, bz (l.drop i) 5 d, bz (l.drop i) 6 e, bz (l.drop i) 7 g, bareP f, bareD f⟩ := by
  intro k
  induction k with
  | zero => intro i _ _ _ _ _ _ h; omega
  | succ k ih =>
    intro i a b c d e g h hi
    by_cases hc : i = l.length
    · rw [bare_end f l k i hc, hc, List.drop_length]; rfl
    · have hlt : i < l.length := by omega
      unfold frame_Frame_bare_L0
      simp only [bnd_d]
      have hx := hr _ (List.getElem_mem hlt)
      obtain ⟨x, hxx⟩ := icell_at (a := a) (b := b) (c := c) (d := d) (e := e) (g := g) hx.1 hx.2
      rw [decide_eq_true (by omega), cond_true, gix_nat, Int.toNat_natCast, List.getElem?_eq_getElem hlt, bno_s, bno_s, hxx, bno_s, step64 hlt (by omega), ih (i + 1) _ _ _ _ _ _ (by omega) (by omega)]
      rw [List.drop_eq_getElem_cons hlt]
      have z : ∀ (o : Nat) (v : Int), bz (l.drop (i + 1)) o (bif Nat.beq l[i] o then 0 else v) = bz (l[i] :: l.drop (i + 1)) o v := by
        intro o v
        unfold bz
        rw [List.contains_cons]
        by_cases ho : l[i] = o
        · subst ho; simp [Nat.beq_refl]
        · rw [beq_no ho, show (o == l[i]) = false by simp; exact fun h => ho h.symm]; simp
      simp only [z]
theorem offs_bounds (k : Int) : (offsK k).length ≤ 3 ∧ ∀ o ∈ offsK k, 2 ≤ o ∧ o ≤ 7 := by
  unfold offsK; (repeat' split) <;> decide
def bareF (f : T_frame_Frame) : T_frame_Frame :=
  ⟨f.Kind, !flgK f.Kind && f.Flag, bz (offsK f.Kind) 2 f.Stream, bz (offsK f.Kind) 3 f.Offset, bz (offsK f.Kind) 4 f.Dep, bz (offsK f.Kind) 5 f.Weight, bz (offsK f.Kind) 6 f.N, bz (offsK f.Kind) 7 f.Code, bareP f, bareD f⟩
theorem bare_is (f : T_frame_Frame) : frame_Frame_bare f = some (bareF f) := by
  unfold frame_Frame_bare
  rw [numbers_is, bno_s]
  have hb := offs_bounds f.Kind
  have := bare_loop f (offsK f.Kind) (by omega) hb.2 fuel 0 f.Stream f.Offset f.Dep f.Weight f.N f.Code (fuel_gt (by omega)) (Nat.zero_le _)
  unfold bareF
  simpa using this
theorem bz_zero (f : T_frame_Frame) (o : Nat) : decide (bz (offsK f.Kind) o (nv f o) = 0) = zr f o := by
  unfold bz zr; cases (offsK f.Kind).contains o <;> simp
theorem bare_spr (f : T_frame_Frame) : decide (bareF f = ⟨f.Kind, false, 0, 0, 0, 0, 0, 0, [], []⟩) = !spr f := by
  rw [frame_dec]
  unfold bareF spr
  simp only
  have e2 := bz_zero f 2
  have e3 := bz_zero f 3
  have e4 := bz_zero f 4
  have e5 := bz_zero f 5
  have e6 := bz_zero f 6
  have e7 := bz_zero f 7
  simp only [nv] at e2 e3 e4 e5 e6 e7
  simp only [if_true, show (3 = 2) = False by simp, show (4 = 2) = False by simp, show (4 = 3) = False by simp, show (5 = 2) = False by simp, show (5 = 3) = False by simp, show (5 = 4) = False by simp, show (6 = 2) = False by simp, show (6 = 3) = False by simp, show (6 = 4) = False by simp, show (6 = 5) = False by simp, show (7 = 2) = False by simp, show (7 = 3) = False by simp, show (7 = 4) = False by simp, show (7 = 5) = False by simp, show (7 = 6) = False by simp, if_false] at e2 e3 e4 e5 e6 e7
  rw [e2, e3, e4, e5, e6, e7]
  generalize (zr f 2 && zr f 3 && zr f 4 && zr f 5 && zr f 6 && zr f 7) = z
  unfold bareP bareD
  by_cases h0 : f.Kind = 0
  · have : flgK f.Kind = true := by rw [h0]; rfl
    cases z <;> by_cases hp : f.Pairs = [] <;> simp [h0, hp, this, show flgK 0 = true from rfl]
  by_cases h4 : f.Kind = 4
  · cases z <;> by_cases hp : f.Pairs = [] <;> by_cases hd : f.Data = [] <;> cases hf : f.Flag <;> simp [h4, hp, hf, hd, show flgK 4 = true from rfl]
  · cases z <;> by_cases hp : f.Pairs = [] <;> by_cases hd : f.Data = [] <;> cases hf : f.Flag <;> cases hg : flgK f.Kind <;> simp [h0, h4, hp, hf, hg, hd]
theorem check_is {f : T_frame_Frame} (hl : f.Pairs.length ≤ 1000000) : frame_Check f = some (chkF f) := by
  have hJ : ∀ b, frame_Check_J0 f b = some (if b then 5 else if spr f then 4 else 0) := by
    intro b
    unfold frame_Check_J0
    cases b with
    | true => rfl
    | false =>
      have hb : (bareF f).Pairs.length ≤ 1000000 := by
        show (if f.Kind = 4 ∧ f.Flag = false then [] else f.Pairs).length ≤ _
        split
        · simp
        · exact hl
      rw [cond_false, bare_is, bno_s, same_is hb (by simp), bno_s, bare_spr]
      cases spr f <;> rfl
  unfold frame_Check chkF
  simp only [known_is, bno_s, bnd_d, ranges_is hl, hJ]
  cases hk : knownK f.Kind with
  | false => rfl
  | true =>
    simp only [Bool.not_true, cond_false]
    cases hr : rng f with
    | false => rfl
    | true =>
      simp only [Bool.not_true, cond_false]
      by_cases h1 : 32 < f.Data.length
      · have : (32 : Int) < f.Data.length := by omega
        simp [h1, this]
      · have : ¬ (32 : Int) < f.Data.length := by omega
        by_cases h2 : 4 < f.Pairs.length
        · have h3 : (4 : Int) < f.Pairs.length := by omega
          simp [h1, this, h2, h3]
        · have h3 : ¬ (4 : Int) < f.Pairs.length := by omega
          simp [h1, this, h2, h3]
end Go.Fn
