/-
  A part of the proof: rules and plain facts. No condition.
-/
import Derived.Test.YtlmdafogcphbbaaIlP1
set_option linter.all false
set_option linter.unusedSimpArgs false
set_option linter.unusedVariables false
open Go Go.IL
namespace Go.Fn
theorem fuel_is (k : Nat) (h : k < 100) : ∃ m, fuel = m + k := ⟨2 ^ 64 - k, by show 2 ^ 64 = _; omega⟩
theorem step64 {i : Nat} {n : Nat} (h : i < n) (hn : n ≤ 1000000) : IntKind.wrap .i64 ((i : Int) + 1) = ((i + 1 : Nat) : Int) := by rw [w64 (by omega) (by omega)]; omega

def inb (n a b : Int) : Bool := decide (a ≤ n) && decide (n ≤ b)
theorem in_is (n a b : Int) : frame_in n a b = some (inb n a b) := rfl
theorem rin_is (n a b : Int) : sennitref15_in n a b = some (inb n a b) := rfl
def pairOk (p : T_api_Pair) : Bool := inb p.ID 0 1099511627776 && inb p.Value 0 1099511627776
theorem bad_pair (p : T_api_Pair) : frame_Frame_ranges_1 p = some (!pairOk p) := by
  unfold frame_Frame_ranges_1 pairOk
  simp only [in_is, bno_s, bnd_d]
  cases inb p.ID 0 1099511627776 <;> simp [gd, bno_s]
theorem idx_loop {l : List T_api_Pair} (hl : l.length ≤ 1000000) : ∀ (k i : Nat), l.length - i < k → i ≤ l.length → (∀ x ∈ l.take i, pairOk x = true) →
    ∃ n, slices_IndexFunc_api_Pair_api_Pair_ranges_1_L0 l k (i : Int) = some n ∧ decide (0 ≤ n) = !l.all pairOk := by
  intro k
  induction k with
  | zero => intro i h; omega
  | succ k ih =>
    intro i h hi ha
    unfold slices_IndexFunc_api_Pair_api_Pair_ranges_1_L0
    simp only [bnd_d]
    by_cases hc : i < l.length
    · rw [decide_eq_true (by omega), cond_true, gix_nat, List.getElem?_eq_getElem hc, bno_s, bad_pair, bno_s]
      cases hp : pairOk l[i] with
      | false =>
        refine ⟨i, rfl, ?_⟩
        have : l.all pairOk = false := by
          rw [List.all_eq_false]; exact ⟨l[i], List.getElem_mem hc, by simp [hp]⟩
        rw [this]; simp
      | true =>
        simp only [Bool.not_true, cond_false]
        rw [step64 hc hl]
        exact ih (i + 1) (by omega) (by omega) (by
          rw [List.take_succ_eq_append_getElem hc]
          intro x hx
          rcases List.mem_append.1 hx with h | h
          · exact ha x h
          · simp at h; subst h; exact hp)
    · rw [decide_eq_false (by omega), cond_false]
      refine ⟨-1, rfl, ?_⟩
      have : i = l.length := by omega
      subst this
      rw [List.take_length] at ha
      rw [List.all_eq_true.2 ha]; rfl
theorem contains_is {l : List T_api_Pair} (hl : l.length ≤ 1000000) : slices_ContainsFunc_api_Pair_api_Pair_ranges_1 l = some (!l.all pairOk) := by
  unfold slices_ContainsFunc_api_Pair_api_Pair_ranges_1 slices_IndexFunc_api_Pair_api_Pair_ranges_1
  obtain ⟨n, h1, h2⟩ := idx_loop hl fuel 0 (fuel_gt (by omega)) (Nat.zero_le _) (by simp)
  rw [show ((0 : Nat) : Int) = 0 from rfl] at h1
  rw [h1, bno_s, bnd_d, h2]

/-- The numbers' ranges, as both texts ask. -/
def rngs (f : T_frame_Frame) (a b c : Int) : Bool :=
  f.Pairs.all pairOk && inb f.Stream 0 1048576 && inb f.Offset 0 1099511627776 && inb f.Dep 0 1048576 && inb f.N a b && inb f.Code 0 c
def rng (f : T_frame_Frame) : Bool :=
  if f.Kind = 8 then rngs f 1 1099511627776 255 else if f.Kind = 10 then rngs f 0 3 1 else
  if f.Kind = 1 ∨ f.Kind = 2 then inb f.Weight 1 256 && rngs f 0 1099511627776 255 else rngs f 0 1099511627776 255
theorem rJ1 {f : T_frame_Frame} (hl : f.Pairs.length ≤ 1000000) (a b c : Int) : frame_Frame_ranges_J1 f a b c = some (rngs f a b c) := by
  unfold frame_Frame_ranges_J1 rngs
  simp only [contains_is hl, in_is, bno_s, bnd_d]
  cases f.Pairs.all pairOk <;> cases inb f.N a b <;> cases inb f.Code 0 c <;> cases inb f.Stream 0 1048576 <;> cases inb f.Dep 0 1048576 <;> cases inb f.Offset 0 1099511627776 <;> rfl
theorem ranges_is {f : T_frame_Frame} (hl : f.Pairs.length ≤ 1000000) : frame_Frame_ranges f = some (rng f) := by
  unfold frame_Frame_ranges rng frame_Frame_ranges_J2
  simp only [rJ1 hl, in_is, bno_s, bnd_d]
  by_cases h8 : f.Kind = 8
  · simp [h8]
  by_cases h10 : f.Kind = 10
  · simp [h10]
  by_cases h1 : f.Kind = 1
  · simp [h1]; cases inb f.Weight 1 256 <;> simp
  by_cases h2 : f.Kind = 2
  · simp [h2]; cases inb f.Weight 1 256 <;> simp
  simp [h8, h10, h1, h2]
theorem rL3 {f : T_frame_Frame} (hl : f.Pairs.length ≤ 1000000) {a b c : Int} {w : Bool} : ∀ (k i : Nat), f.Pairs.length - i < k → i ≤ f.Pairs.length → (∀ x ∈ f.Pairs.take i, pairOk x = true) →
    sennitref15_ranges_L3 f a b c w k (i : Int) = some (w && rngs f a b c) := by
  intro k
  induction k with
  | zero => intro i h; omega
  | succ k ih =>
    intro i h hi ha
    unfold sennitref15_ranges_L3
    simp only [bnd_d]
    by_cases hc : i < f.Pairs.length
    · have e : ∀ p : T_api_Pair, pairOk p = (inb p.ID 0 1099511627776 && inb p.Value 0 1099511627776) := fun _ => rfl
      rw [decide_eq_true (by omega), cond_true, gix_nat, List.getElem?_eq_getElem hc]
      simp only [bno_s, rin_is]
      cases hp : pairOk f.Pairs[i] with
      | false =>
        have hall : f.Pairs.all pairOk = false := by rw [List.all_eq_false]; exact ⟨f.Pairs[i], List.getElem_mem hc, by simp [hp]⟩
        have hr : rngs f a b c = false := by unfold rngs; rw [hall]; rfl
        rw [hr, Bool.and_false]
        rw [e] at hp
        cases h1 : inb f.Pairs[i].ID 0 1099511627776 with
        | false => simp [gd, bno_s, h1]
        | true => rw [h1, Bool.true_and] at hp; simp [gd, bno_s, h1, hp, rin_is]
      | true =>
        have hp' := hp
        rw [e, Bool.and_eq_true] at hp
        simp only [hp.1, hp.2, Bool.not_true, gd, bno_s, beq_self_eq_true, cond_true, rin_is, Bool.or_self, cond_false]
        rw [step64 hc hl]
        exact ih (i + 1) (by omega) (by omega) (by
          rw [List.take_succ_eq_append_getElem hc]
          intro x hx
          rcases List.mem_append.1 hx with h | h
          · exact ha x h
          · simp at h; subst h; exact hp')
    · rw [decide_eq_false (by omega), cond_false]
      have : i = f.Pairs.length := by omega
      subst this
      rw [List.take_length] at ha
      unfold rngs
      rw [List.all_eq_true.2 ha]
      simp only [rin_is, bno_s]
      cases w <;> cases inb f.N a b <;> cases inb f.Code 0 c <;> cases inb f.Stream 0 1048576 <;> cases inb f.Dep 0 1048576 <;> cases inb f.Offset 0 1099511627776 <;> rfl
theorem rranges_is {f : T_frame_Frame} (hl : f.Pairs.length ≤ 1000000) : sennitref15_ranges f = some (rng f) := by
  have h3 : ∀ a b c w, sennitref15_ranges_J2 f a b c w = some (w && rngs f a b c) := fun a b c w => rL3 hl fuel 0 (fuel_gt (by omega)) (Nat.zero_le _) (by simp)
  unfold sennitref15_ranges rng sennitref15_ranges_J0 sennitref15_ranges_J1
  simp only [h3, rin_is, bno_s, bnd_d]
  by_cases h8 : f.Kind = 8
  · simp [h8]
  by_cases h10 : f.Kind = 10
  · simp [h10]
  by_cases h1 : f.Kind = 1
  · simp [h1]
  by_cases h2 : f.Kind = 2
  · simp [h2]
  simp [h8, h10, h1, h2]

/-- Are two frames one? -/
theorem eq_loop {p q : List T_api_Pair} (hp : p.length ≤ 1000000) (hq : p.length = q.length) : ∀ (k i : Nat), p.length - i < k → i ≤ p.length → p.take i = q.take i → slices_Equal_api_Pair_api_Pair_L0 p q k (i : Int) = some (decide (p = q)) := by
  intro k
  induction k with
  | zero => intro i h; omega
  | succ k ih =>
    intro i h hi ha
    unfold slices_Equal_api_Pair_api_Pair_L0
    simp only [bnd_d]
    by_cases hc : i < p.length
    · have hc2 : i < q.length := by omega
      rw [decide_eq_true (by omega), cond_true, gix_nat, List.getElem?_eq_getElem hc, bno_s, gix_nat, List.getElem?_eq_getElem hc2, bno_s]
      have e : (decide ((p[i]).ID = (q[i]).ID) && (decide ((p[i]).Value = (q[i]).Value) && true)) = decide (p[i] = q[i]) := by
        cases hp2 : p[i]; cases hq2 : q[i]; simp [T_api_Pair.mk.injEq, Bool.decide_and]
      rw [e]
      by_cases hx : p[i] = q[i]
      · rw [decide_eq_true hx]; simp only [Bool.not_true, cond_false]
        rw [step64 hc hp]
        exact ih (i + 1) (by omega) (by omega) (by rw [List.take_succ_eq_append_getElem hc, List.take_succ_eq_append_getElem hc2, ha, hx])
      · have hne : p ≠ q := fun h => hx (by subst h; rfl)
        rw [decide_eq_false hx, decide_eq_false hne]; rfl
    · rw [decide_eq_false (by omega), cond_false]
      have : i = p.length := by omega
      subst this
      rw [List.take_length, hq, List.take_length] at ha
      rw [decide_eq_true ha]
theorem equal_is {p q : List T_api_Pair} (hp : p.length ≤ 1000000) (hq : q.length ≤ 1000000) : slices_Equal_api_Pair_api_Pair p q = some (decide (p = q)) := by
  unfold slices_Equal_api_Pair_api_Pair
  simp only [bnd_d]
  by_cases h : p.length = q.length
  · rw [decide_eq_true (by omega)]; simp only [Bool.not_true, cond_false]
    exact eq_loop hp h fuel 0 (fuel_gt (by omega)) (Nat.zero_le _) (by simp)
  · rw [decide_eq_false (by omega)]
    have : p ≠ q := fun e => h (by rw [e])
    rw [decide_eq_false this]; rfl
theorem frame_ext {a b : T_frame_Frame} : a = b ↔ a.Kind = b.Kind ∧ a.Flag = b.Flag ∧ a.Stream = b.Stream ∧ a.Offset = b.Offset ∧ a.Dep = b.Dep ∧ a.Weight = b.Weight ∧ a.N = b.N ∧ a.Code = b.Code ∧ a.Pairs = b.Pairs ∧ a.Data = b.Data := by
  cases a; cases b; simp
theorem frame_dec (a b : T_frame_Frame) : decide (a = b) = (decide (a.Kind = b.Kind) && (a.Flag == b.Flag) && decide (a.Pairs = b.Pairs) && (decide (a.Stream = b.Stream) && decide (a.Offset = b.Offset) && decide (a.Dep = b.Dep) && decide (a.Weight = b.Weight) && decide (a.N = b.N) && decide (a.Code = b.Code) && decide (a.Data = b.Data))) := by
  rw [Bool.eq_iff_iff]
  simp only [decide_eq_true_eq, Bool.and_eq_true, beq_iff_eq, frame_ext]
  constructor
  · rintro ⟨h1, h2, h3, h4, h5, h6, h7, h8, h9, h10⟩; exact ⟨⟨⟨h1, h2⟩, h9⟩, ⟨⟨⟨⟨⟨h3, h4⟩, h5⟩, h6⟩, h7⟩, h8⟩, h10⟩
  · rintro ⟨⟨⟨h1, h2⟩, h9⟩, ⟨⟨⟨⟨⟨h3, h4⟩, h5⟩, h6⟩, h7⟩, h8⟩, h10⟩; exact ⟨h1, h2, h3, h4, h5, h6, h7, h8, h9, h10⟩
theorem same_is {a b : T_frame_Frame} (ha : a.Pairs.length ≤ 1000000) (hb : b.Pairs.length ≤ 1000000) : frame_Same a b = some (decide (a = b)) := by
  unfold frame_Same
  simp only [bnd_d]
  rw [frame_dec, equal_is ha hb]
  generalize (decide (a.Stream = b.Stream) && decide (a.Offset = b.Offset) && decide (a.Dep = b.Dep) && decide (a.Weight = b.Weight) && decide (a.N = b.N) && decide (a.Code = b.Code) && decide (a.Data = b.Data)) = z
  cases decide (a.Kind = b.Kind) <;> cases (a.Flag == b.Flag) <;> cases decide (a.Pairs = b.Pairs) <;> simp [gd, bno_s]
theorem rsame_loop {a b : T_frame_Frame} (ha : a.Pairs.length ≤ 1000000) (hq : a.Pairs.length = b.Pairs.length) : ∀ (k i : Nat), a.Pairs.length - i < k → i ≤ a.Pairs.length → a.Pairs.take i = b.Pairs.take i → sennitref15_Same_L0 a b k (i : Int) = some (decide (a = b)) := by
  intro k
  induction k with
  | zero => intro i h; omega
  | succ k ih =>
    intro i h hi hta
    unfold sennitref15_Same_L0
    simp only [bnd_d]
    by_cases hc : i < a.Pairs.length
    · have hc2 : i < b.Pairs.length := by omega
      rw [decide_eq_true (by omega), cond_true, gix_nat, List.getElem?_eq_getElem hc, bno_s, gix_nat, List.getElem?_eq_getElem hc2, bno_s]
      have e : (decide ((a.Pairs[i]).ID = (b.Pairs[i]).ID) && (decide ((a.Pairs[i]).Value = (b.Pairs[i]).Value) && true)) = decide (a.Pairs[i] = b.Pairs[i]) := by
        cases hp2 : a.Pairs[i]; cases hq2 : b.Pairs[i]; simp [T_api_Pair.mk.injEq, Bool.decide_and]
      rw [e]
      by_cases hx : a.Pairs[i] = b.Pairs[i]
      · rw [decide_eq_true hx]; simp only [Bool.not_true, cond_false]
        rw [step64 hc ha]
        exact ih (i + 1) (by omega) (by omega) (by rw [List.take_succ_eq_append_getElem hc, List.take_succ_eq_append_getElem hc2, hta, hx])
      · have hne : a ≠ b := fun h => hx (by subst h; rfl)
        rw [decide_eq_false hx, decide_eq_false hne]; rfl
    · rw [decide_eq_false (by omega), cond_false]
      have : i = a.Pairs.length := by omega
      subst this
      rw [List.take_length, hq, List.take_length] at hta
      rw [frame_dec, decide_eq_true hta]
      simp only [Bool.and_true, Bool.and_assoc]
theorem rsame_is {a b : T_frame_Frame} (ha : a.Pairs.length ≤ 1000000) (hb : b.Pairs.length ≤ 1000000) : sennitref15_Same a b = some (decide (a = b)) := by
  unfold sennitref15_Same
  simp only [bnd_d]
  by_cases h : a.Pairs.length = b.Pairs.length
  · rw [decide_eq_true (by omega)]; simp only [Bool.not_true, cond_false]
    exact rsame_loop ha h fuel 0 (fuel_gt (by omega)) (Nat.zero_le _) (by simp)
  · rw [decide_eq_false (by omega)]
    have : a ≠ b := fun e => h (by rw [e])
    rw [decide_eq_false this]; rfl
end Go.Fn
