/-
  A part of the proof: rules and plain facts. No condition.
-/
import Derived.Test.YtlmdafogcphbbaaIlA15D
import Derived.Test.YtlmdafogcphbbaaIlU2
set_option linter.all false
set_option linter.unusedSimpArgs false
set_option linter.unusedVariables false
open Go Go.IL
namespace Go.Fn

/-! Numbers of one, two, four or eight bytes: both texts make vput and vget of Vi. -/
set_option maxRecDepth 20000 in
theorem lenJ2 {a c : Int} (h0 : 0 ≤ a) (h1 : a < 256) (h2 : 0 ≤ c) (h3 : c ≤ 56) : math_bits_Len64_J2 a c = some (c + (blen a.toNat : Int)) := by
  have hb := blen_le8 (n := a.toNat) (by omega)
  unfold math_bits_Len64_J2
  rw [bnd_d, wU8 h0 h1]
  have e := len8_at h0 h1
  rw [gix_lit _ h0]
  have e2 : ∀ l : List UInt8, l = len8 → l[a.toNat]? = some (UInt8.ofNat (blen a.toNat)) := fun l hl => hl ▸ e
  refine (congrArg (fun o => bno o _) (e2 _ (by rfl))).trans ?_
  rw [bno_s, bnd_d, bnd_d]
  have hn : (UInt8.ofNat (blen a.toNat)).toNat = blen a.toNat := by
    rw [UInt8.toNat_ofNat']; exact Nat.mod_eq_of_lt (by omega)
  rw [hn, w64 (n := (blen a.toNat : Int)) (by omega) (by omega), w64 (by omega) (by omega)]
theorem len_half {a : Int} {k : Nat} (h0 : 0 ≤ a) (h : (2 : Int) ^ k ≤ a) : (blen a.toNat : Int) = k + (blen (a / 2 ^ k).toNat : Int) := by
  have e : (a / 2 ^ k).toNat = a.toNat / 2 ^ k := by
    obtain ⟨x, rfl⟩ := Int.eq_ofNat_of_zero_le h0
    rw [show (2 : Int) ^ k = ((2 ^ k : Nat) : Int) by simp, ← Int.natCast_ediv]; simp only [Int.toNat_natCast]
  have hh : 2 ^ k ≤ a.toNat := by
    have : ((2 ^ k : Nat) : Int) = (2 : Int) ^ k := by simp
    omega
  rw [e, blen_div hh]; omega
theorem lenJ1 {a c : Int} (h0 : 0 ≤ a) (h1 : a < 65536) (h2 : 0 ≤ c) (h3 : c ≤ 48) : math_bits_Len64_J1 a c = some (c + (blen a.toNat : Int)) := by
  unfold math_bits_Len64_J1
  rw [bnd_d]
  by_cases h : 256 ≤ a
  · have e := len_half (k := 8) h0 (by omega)
    rw [decide_eq_true h, cond_true, shr_at (k := .u64) (b := 8) 8 rfl (by decide), bno_s, bnd_d, w64 (by omega) (by omega), lenJ2 (by omega) (by omega) (by omega) (by omega), e]
    congr 1; omega
  · rw [decide_eq_false h, cond_false, lenJ2 h0 (by omega) h2 (by omega)]
theorem lenJ0 {a c : Int} (h0 : 0 ≤ a) (h1 : a < 4294967296) (h2 : 0 ≤ c) (h3 : c ≤ 32) : math_bits_Len64_J0 a c = some (c + (blen a.toNat : Int)) := by
  unfold math_bits_Len64_J0
  rw [bnd_d]
  by_cases h : 65536 ≤ a
  · have e := len_half (k := 16) h0 (by omega)
    rw [decide_eq_true h, cond_true, shr_at (k := .u64) (b := 16) 16 rfl (by decide), bno_s, bnd_d, w64 (by omega) (by omega), lenJ1 (by omega) (by omega) (by omega) (by omega), e]
    congr 1; omega
  · rw [decide_eq_false h, cond_false, lenJ1 h0 (by omega) h2 (by omega)]
theorem len64_is {a : Int} (h0 : 0 ≤ a) (h1 : a < 18446744073709551616) : math_bits_Len64 a = some (blen a.toNat : Int) := by
  unfold math_bits_Len64
  rw [bnd_d]
  by_cases h : 4294967296 ≤ a
  · have e := len_half (k := 32) h0 (by omega)
    rw [decide_eq_true h, cond_true, shr_at (k := .u64) (b := 32) 32 rfl (by decide), bno_s, lenJ0 (by omega) (by omega) (by omega) (by omega), e]
    congr 1
  · rw [decide_eq_false h, cond_false, lenJ0 h0 (by omega) (by omega) (by omega)]
    congr 1; omega
theorem len_is {a : Int} (h0 : 0 ≤ a) (h1 : a < 18446744073709551616) : math_bits_Len a = some (blen a.toNat : Int) := by
  unfold math_bits_Len; rw [len64_is h0 h1]; rfl

theorem kind_loop {n : Int} (hb : ¬ vbad n) : ∀ (k : Nat) (i : Int), (4 - i).toNat < k → 0 ≤ i → i ≤ vkind n → varint_kind_L0 n k i = some (vkind n) := by
  have hn : 0 ≤ n ∧ n ≤ 4611686018427387903 := by unfold vbad at hb; omega
  have hr := vkind_range n
  intro k
  induction k with
  | zero => intro i h; omega
  | succ k ih =>
    intro i h h0 hi
    unfold varint_kind_L0
    have hs := kind_step hn.1 hn.2 h0 (show i < 4 by omega)
    have hr2 := shl_range h0 (show i < 4 by omega)
    simp only [bnd_d, decide_eq_true (show i < 4 by omega), cond_true, wU64 hn.1 (show n < 18446744073709551616 by omega), len_is hn.1 (show n < 18446744073709551616 by omega), bno_s, shl_e (shl_small (.inl rfl) h0 (show i < 4 by omega))]
    rw [w64 (by omega) (by omega), w64 (by omega) (by omega)]
    by_cases hc : (blen n.toNat : Int) ≤ 8 * 2 ^ i.toNat - 2
    · rw [decide_eq_true hc, cond_true]; congr 1; have := hs.1 hc; omega
    · rw [decide_eq_false hc, cond_false]; exact ih _ (by omega) (by omega) (by have := mt hs.2 hc; omega)
theorem kind_is (n : Int) : varint_kind n = some (vkind n) := by
  unfold varint_kind
  simp only [bnd_d]
  by_cases hb : vbad n
  · rw [vkind_bad hb]
    have : (decide (n < 0) || decide (4611686018427387903 < n)) = true := by simpa [vbad] using hb
    rw [this, cond_true]
  · have : (decide (n < 0) || decide (4611686018427387903 < n)) = false := by simpa [vbad] using hb
    have hk : 0 ≤ vkind n := by rcases vsize_kind n with h | h; exact absurd h.1 hb; exact h.2.1
    rw [this, cond_false, kind_loop hb _ _ (fuel_gt (by decide)) (by omega) hk]

theorem size_is (n : Int) : sennitref02_Size n = some (vsize n) := by
  unfold sennitref02_Size vsize
  simp only [bnd_d]
  by_cases hb : vbad n
  · have : (decide (n < 0) || decide (4611686018427387903 < n)) = true := by simpa [vbad] using hb
    rw [this, cond_true, if_pos hb]
  · have : (decide (n < 0) || decide (4611686018427387903 < n)) = false := by simpa [vbad] using hb
    rw [this, cond_false, if_neg hb]
    by_cases h1 : n < 64
    · simp [h1]
    by_cases h2 : n < 16384
    · simp [h1, h2]
    by_cases h3 : n < 1073741824 <;> simp [h1, h2, h3]
theorem mark_is (s : Int) : sennitref02_mark s = some (vmark s) := by
  unfold sennitref02_mark vmark
  simp only [bnd_d]
  by_cases h1 : s = 1
  · simp [h1]
  by_cases h2 : s = 2
  · simp [h2]
  by_cases h3 : s = 4 <;> simp [h1, h2, h3]
theorem long_is (b : UInt8) : sennitref02_long (b.toNat : Int) = some ((2 ^ (b.toNat / 64) : Nat) : Int) := by
  have hb := b.toNat_lt
  rw [long_val]
  unfold sennitref02_long quoI
  rw [if_neg (by decide), bno_s, Int.tdiv_eq_ediv_of_nonneg (by omega), wU8 (by omega) (by omega)]
  simp only [bnd_d]
  have e : ((b.toNat : Int) / 64) = ((b.toNat / 64 : Nat) : Int) := rfl
  rw [e]
  generalize b.toNat / 64 = q
  by_cases h0 : q = 0
  · simp [h0]
  by_cases h1 : q = 1
  · simp [h1]
  by_cases h2 : q = 2
  · simp [h2]
  · have a0 : ¬ ((q : Int) = 0) := by omega
    have a1 : ¬ ((q : Int) = 1) := by omega
    have a2 : ¬ ((q : Int) = 2) := by omega
    simp [h0, h1, h2, a0, a1, a2]

theorem vput_cons {n : Int} (h : ¬ vbad n) : ∃ c r, vput n = c :: r := by
  have hk : 0 ≤ vkind n := by rcases vsize_kind n with h' | h'; exact absurd h'.1 h; exact h'.2.1
  obtain ⟨m, _, hm, _⟩ := vput_pos hk
  exact ⟨_, _, vput_eq hm⟩
theorem put_loop {n : Int} {m : Nat} (hb : ¬ vbad n) (hm : (vsize n).toNat = m + 1) (hk : 0 ≤ vkind n) : ∀ (k j : Nat), m + 1 - j < k → j ≤ m + 1 →
    varint_Put_L0 (vkind n) k (n / 256 ^ j) (List.replicate (m + 1 - j) 0 ++ beb n j) ((m : Int) - j) = some (vput n, 0) := by
  have hk3 := (vkind_range n).2
  have hm7 : m ≤ 7 := by have := vsize_range n; omega
  intro k
  induction k with
  | zero => intro j h; omega
  | succ k ih =>
    intro j h hj
    unfold varint_Put_L0
    simp only [bnd_d]
    by_cases hc : j = m + 1
    · subst hc
      have ht := top_small hb hm
      rw [decide_eq_false (by omega), cond_false]
      simp only [Nat.sub_self, List.replicate_zero, List.nil_append]
      have eb : beb n (m + 1) = by8 (n / 256 ^ m) :: beb n m := rfl
      rw [eb]
      simp only [gix_lit _ (Int.le_refl 0), Int.toNat_zero, List.getElem?_cons_zero, bno_s, shl_e (shl6_small hk (show vkind n < 4 by omega)), List.set_cons_zero]
      rw [wU8 (by omega) (by omega), by8_toNat]
      have e4 : n / 256 ^ m % 256 = n / 256 ^ m := Int.emod_eq_of_lt ht.1 (by omega)
      have e3 : orI .u8 (n / 256 ^ m) (64 * vkind n) = n / 256 ^ m + 64 * vkind n := int_e (or_mark (by omega) (by omega) hk (by omega)) rfl
      rw [e4, e3, toU8_ok (by omega) (by omega), bno_s, vput_eq hm, e4]
      congr 4; omega
    · have hq0 : 0 ≤ n / 256 ^ j := Int.ediv_nonneg (by unfold vbad at hb; omega) (Int.le_of_lt (Int.pow_pos (by decide)))
      obtain ⟨q, hq⟩ : ∃ q, m + 1 - j = q + 1 := ⟨m - j, by omega⟩
      have hmj : (m : Int) - j = (q : Int) := by omega
      rw [hmj, decide_eq_true (by omega), cond_true, wrap_u8, hq]
      have e1 : (List.replicate (q + 1) (0 : UInt8) ++ beb n j)[q]? = some 0 := by
        rw [List.getElem?_append_left (by simp), List.getElem?_replicate, if_pos (by omega)]
      simp only [gix_nat, e1, bno_s, Int.toNat_natCast]
      rw [toU8_ok (by omega) (by omega), bno_s, set_zeros, shr_at (k := .i64) (b := 8) 8 rfl (by decide), bno_s, w64 (by omega) (by omega)]
      have := ih (j + 1) (by omega) (by omega)
      rw [show m + 1 - (j + 1) = q by omega, show (m : Int) - ((j + 1 : Nat) : Int) = (q : Int) - 1 by omega, ← div_step] at this
      exact this
theorem put_is (n : Int) : varint_Put n = some (vput n, if vbad n then 8 else 0) := by
  unfold varint_Put
  rw [kind_is, bno_s, bnd_d]
  by_cases hb : vbad n
  · rw [decide_eq_true (vkind_neg.2 hb), cond_true, vput_bad hb, if_pos hb]
  · have hk : 0 ≤ vkind n := by rcases vsize_kind n with h | h; exact absurd h.1 hb; exact h.2.1
    obtain ⟨m, hm7, hm, hp, _⟩ := vput_pos hk
    have hk3 := (vkind_range n).2
    rw [decide_eq_false (by omega), cond_false, if_neg hb, shl_e (shl_small (.inr (.inl rfl)) hk (by omega)), bno_s, Int.one_mul, hp, made_ok (by omega) (by omega) (by omega), bno_s, bnd_d]
    simp only [Int.toNat_natCast, List.length_replicate]
    rw [w64 (by omega) (by omega)]
    have := put_loop hb hm hk fuel 0 (fuel_gt (by omega)) (by omega)
    simp only [beb, Int.pow_zero, Int.ediv_one, List.append_nil, Nat.sub_zero, Int.natCast_zero, Int.sub_zero] at this
    rw [show ((m + 1 : Nat) : Int) - 1 = (m : Int) by omega]
    exact this
theorem rput_loop {n : Int} {m : Nat} (hb : ¬ vbad n) (hm : (vsize n).toNat = m + 1) (hk : 0 ≤ vkind n) : ∀ (k j : Nat), m + 1 - j < k → j ≤ m + 1 →
    sennitref02_Put_L0 (vsize n) k (n / 256 ^ j) (beb n j) (j : Int) = some (vput n, 0) := by
  have hk3 := (vkind_range n).2
  have hsr := vsize_range n
  have hm7 : m ≤ 7 := by omega
  intro k
  induction k with
  | zero => intro j h; omega
  | succ k ih =>
    intro j h hj
    unfold sennitref02_Put_L0
    simp only [bnd_d]
    by_cases hc : j = m + 1
    · subst hc
      have ht := top_small hb hm
      rw [decide_eq_false (by omega), cond_false]
      have eb : beb n (m + 1) = by8 (n / 256 ^ m) :: beb n m := rfl
      rw [eb]
      simp only [gix_lit _ (Int.le_refl 0), Int.toNat_zero, List.getElem?_cons_zero, bno_s, mark_is, vmark_size hb, List.set_cons_zero]
      have e4 : n / 256 ^ m % 256 = n / 256 ^ m := Int.emod_eq_of_lt ht.1 (by omega)
      rw [by8_toNat, e4, wU8 (n := 64 * vkind n) (by omega) (by omega), wU8 (by omega) (by omega), toU8_ok (by omega) (by omega), bno_s, vput_eq hm, e4]
      congr 4; omega
    · have hq0 : 0 ≤ n / 256 ^ j := Int.ediv_nonneg (by unfold vbad at hb; omega) (Int.le_of_lt (Int.pow_pos (by decide)))
      have hq1 : n / 256 ^ j ≤ n := Int.ediv_le_self _ (by unfold vbad at hb; omega)
      have hn : n ≤ 4611686018427387903 := by unfold vbad at hb; omega
      rw [decide_eq_true (by omega), cond_true, rem_ok hq0 (by decide), bno_s, wU8 (by omega) (by omega), toU8_ok (by omega) (by omega), bno_s, app_ok (by simp [beb_length]; omega) (by simp [beb_length]; omega), bno_s, quo_ok hq0 (by omega) (by decide), bno_s, w64 (by omega) (by omega), div_step']
      exact ih (j + 1) (by omega) (by omega)
theorem rput_is (n : Int) : sennitref02_Put n = some (vput n, if vbad n then 8 else 0) := by
  unfold sennitref02_Put
  rw [size_is, bno_s, bnd_d]
  by_cases hb : vbad n
  · rw [decide_eq_true (vsize_zero.2 hb), cond_true, vput_bad hb, if_pos hb]
  · have hk : 0 ≤ vkind n := by rcases vsize_kind n with h | h; exact absurd h.1 hb; exact h.2.1
    obtain ⟨m, hm7, hm, hp, _⟩ := vput_pos hk
    rw [decide_eq_false (fun h => hb (vsize_zero.1 h)), cond_false, if_neg hb]
    have := rput_loop hb hm hk fuel 0 (fuel_gt (by omega)) (by omega)
    simpa [beb] using this

theorem get_loop {b : UInt8} {q : List UInt8} {x6 : Int} (hq : q.length ≤ 7) : ∀ (k j : Nat), q.length - j < k → j ≤ q.length →
    varint_Get_L0 ((b.toNat / 64 : Nat) : Int) x6 q k (beN (b.toNat % 64) (q.take j)) (j : Int) = some (if vkind (beN (b.toNat % 64) q) = ((b.toNat / 64 : Nat) : Int) then (beN (b.toNat % 64) q, x6, 0) else (0, 0, 4)) := by
  intro k
  induction k with
  | zero => intro j h; omega
  | succ k ih =>
    intro j h hj
    unfold varint_Get_L0
    simp only [bnd_d]
    have ha := get_acc (b := b) (l := q) j hj (by omega)
    by_cases hc : j = q.length
    · subst hc
      rw [decide_eq_false (by omega), cond_false, kind_is, bno_s, List.take_length]
      by_cases hv : vkind (beN (b.toNat % 64) q) = ((b.toNat / 64 : Nat) : Int)
      · rw [decide_eq_true hv, if_pos hv]; rfl
      · rw [decide_eq_false hv, if_neg hv]; rfl
    · have hlt : j < q.length := by omega
      have hc8 := (q[j]).toNat_lt
      have h6 := ha.2.2 (by omega)
      rw [decide_eq_true (by omega), cond_true, gix_nat, List.getElem?_eq_getElem hlt, bno_s, shl_e (shl_8 ha.1 (by omega)), bno_s, w64 (n := ((q[j]).toNat : Int)) (by omega) (by omega)]
      have e : orI .i64 (beN (b.toNat % 64) (q.take j) * 256) ((q[j]).toNat : Int) = beN (b.toNat % 64) (q.take (j + 1)) := by
        rw [beN_take (List.getElem?_eq_getElem hlt)]
        exact int_e (or_low ha.1 (by omega) (by omega) (by omega)) rfl
      rw [e, w64 (by omega) (by omega)]
      exact ih (j + 1) (by omega) (by omega)
theorem get_is (s : List UInt8) : varint_Get s = some (vget s) := by
  unfold varint_Get
  simp only [bnd_d]
  cases s with
  | nil => rfl
  | cons b r =>
    have hb := b.toNat_lt
    have hk := Go.IL.k4 b
    have hp := pow2_k4 hk
    rw [decide_eq_false (by simp), cond_false]
    simp only [gix_lit _ (Int.le_refl 0), Int.toNat_zero, List.getElem?_cons_zero, bno_s]
    rw [shr_at (k := .u8) (b := 6) 6 rfl (by decide), bno_s]
    have e1 : ((b.toNat : Int) / 2 ^ 6) = ((b.toNat / 64 : Nat) : Int) := rfl
    rw [e1, w64 (by omega) (by omega), shl_e (shl_small (.inr (.inl rfl)) (by omega) (by omega)), bno_s, Int.one_mul, Int.toNat_natCast]
    have e2 : (2 : Int) ^ (b.toNat / 64) = ((2 ^ (b.toNat / 64) : Nat) : Int) := by simp
    rw [e2]
    by_cases hh : (b :: r).length < 2 ^ (b.toNat / 64)
    · rw [decide_eq_true (by omega), cond_true, vget_short hh]
    · rw [decide_eq_false (by omega), cond_false]
      have e3 : andI .u8 (b.toNat : Int) 63 = (b.toNat : Int) % 64 := int_e (and63 b) rfl
      rw [e3, w64 (by omega) (by omega), cut_ok (by omega) (by omega) (by omega), bno_s, slice_tail hp.1]
      have hl := get_len hh
      have := get_loop (b := b) (x6 := ((2 ^ (b.toNat / 64) : Nat) : Int)) (q := r.take (2 ^ (b.toNat / 64) - 1)) (by omega) fuel 0 (fuel_gt (by omega)) (by omega)
      simp only [List.take_zero, beN, List.foldl_nil, Int.natCast_zero] at this
      rw [this]
      simp only [vget, if_neg hh, beN]
theorem rget_loop {b : UInt8} {r q : List UInt8} (hh : ¬ (b :: r).length < 2 ^ (b.toNat / 64)) (hq : q = r.take (2 ^ (b.toNat / 64) - 1)) : ∀ (k j : Nat), q.length - j < k → j ≤ q.length →
    sennitref02_Get_L0 (b :: r) ((2 ^ (b.toNat / 64) : Nat) : Int) k (beN (b.toNat % 64) (q.take j)) ((j + 1 : Nat) : Int) = some (if vkind (beN (b.toNat % 64) q) = ((b.toNat / 64 : Nat) : Int) then (beN (b.toNat % 64) q, ((2 ^ (b.toNat / 64) : Nat) : Int), 0) else (0, 0, 4)) := by
  have hk := Go.IL.k4 b
  have hp := pow2_k4 hk
  have hl := get_len hh
  rw [← hq] at hl
  intro k
  induction k with
  | zero => intro j h; omega
  | succ k ih =>
    intro j h hj
    unfold sennitref02_Get_L0
    simp only [bnd_d]
    have ha := get_acc (b := b) (l := q) j hj (by omega)
    by_cases hc : j = q.length
    · subst hc
      rw [decide_eq_false (by omega), cond_false, size_is, bno_s, List.take_length]
      have hi := vsize_iff (n := beN (b.toNat % 64) q) hk
      by_cases hv : vkind (beN (b.toNat % 64) q) = ((b.toNat / 64 : Nat) : Int)
      · rw [decide_eq_true (hi.2 hv), if_pos hv]; rfl
      · rw [decide_eq_false (fun h => hv (hi.1 h)), if_neg hv]; rfl
    · have hlt : j < q.length := by omega
      have hc8 := (q[j]).toNat_lt
      have h6 := ha.2.2 (by omega)
      have hq2 : (r.take (2 ^ (b.toNat / 64) - 1))[j]? = some q[j] := by rw [← hq, List.getElem?_eq_getElem hlt]
      have ht := tail_at (b := b) hq2
      rw [decide_eq_true (by omega), cond_true, w64 (n := 256 * beN (b.toNat % 64) (q.take j)) (by omega) (by omega), gix_lit _ (by omega), ht, bno_s, w64 (n := ((q[j]).toNat : Int)) (by omega) (by omega)]
      have e : 256 * beN (b.toNat % 64) (q.take j) + ((q[j]).toNat : Int) = beN (b.toNat % 64) (q.take (j + 1)) := by
        rw [beN_take (List.getElem?_eq_getElem hlt)]; omega
      have hb2 := get_acc (b := b) (l := q) (j + 1) (by omega) (by omega)
      rw [e, w64 (by omega) (by omega), w64 (by omega) (by omega)]
      exact ih (j + 1) (by omega) (by omega)
theorem rget_is (s : List UInt8) : sennitref02_Get s = some (vget s) := by
  unfold sennitref02_Get
  simp only [bnd_d]
  cases s with
  | nil => rfl
  | cons b r =>
    have hb := b.toNat_lt
    have hk := Go.IL.k4 b
    have hp := pow2_k4 hk
    rw [decide_eq_false (by simp)]
    simp only [gix_lit _ (Int.le_refl 0), Int.toNat_zero, List.getElem?_cons_zero, bno_s, beq_self_eq_true, gd_tt, long_is, Bool.false_or]
    by_cases hh : (b :: r).length < 2 ^ (b.toNat / 64)
    · rw [decide_eq_true (by omega), cond_true, vget_short hh]
    · rw [decide_eq_false (by omega), cond_false, rem_ok (by omega) (by decide), bno_s, w64 (by omega) (by omega)]
      have hl := get_len hh
      have := rget_loop hh rfl fuel 0 (fuel_gt (by omega)) (by omega)
      simp only [List.take_zero, beN, List.foldl_nil] at this
      have this2 := this
      rw [show ((0 + 1 : Nat) : Int) = 1 from rfl] at this2
      rw [this2]
      simp only [vget, if_neg hh, beN]
end Go.Fn
