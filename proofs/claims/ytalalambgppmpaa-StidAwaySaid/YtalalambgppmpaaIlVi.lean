/-
  A part of the proof: rules and plain facts. No condition.
-/
import Derived.Test.YtalalambgppmpaaIlY
set_option linter.all false
namespace Go.IL

/-! Numbers of bits, and of bytes. -/
def blen (n : Nat) : Nat := if n = 0 then 0 else n.log2 + 1
theorem blen_le {n m : Nat} : blen n ≤ m ↔ n < 2 ^ m := by
  unfold blen
  by_cases h : n = 0
  · subst h; simp; exact Nat.pow_pos (by decide)
  · simp only [h, if_false]
    rw [Nat.succ_le_iff, Nat.log2_lt h]
theorem blen_div {n k : Nat} (h : 2 ^ k ≤ n) : blen n = k + blen (n / 2 ^ k) := by
  have hp : 0 < 2 ^ k := Nat.pow_pos (by decide)
  have key : ∀ m, blen n ≤ m ↔ k + blen (n / 2 ^ k) ≤ m := fun m => by
    rw [blen_le]
    constructor
    · intro h1
      have hk : k ≤ m := by
        apply Nat.le_of_not_lt; intro h2
        have : 2 ^ m ≤ 2 ^ k := Nat.pow_le_pow_right (by decide) (Nat.le_of_lt h2)
        omega
      have : blen (n / 2 ^ k) ≤ m - k := blen_le.2 (by
        rw [Nat.div_lt_iff_lt_mul hp, ← Nat.pow_add, Nat.sub_add_cancel hk]; exact h1)
      omega
    · intro h1
      have h2 : blen (n / 2 ^ k) ≤ m - k := by omega
      have h3 := blen_le.1 h2
      rw [Nat.div_lt_iff_lt_mul hp, ← Nat.pow_add, Nat.sub_add_cancel (by omega)] at h3
      exact h3
  exact Nat.le_antisymm ((key _).2 (Nat.le_refl _)) ((key _).1 (Nat.le_refl _))
def len8 : List UInt8 := [0, 1] ++ List.replicate 2 2 ++ List.replicate 4 3 ++ List.replicate 8 4 ++ List.replicate 16 5 ++ List.replicate 32 6 ++ List.replicate 64 7 ++ List.replicate 128 8
theorem len8_at {n : Int} (h0 : 0 ≤ n) (h : n < 256) : len8[n.toNat]? = some (UInt8.ofNat (blen n.toNat)) := by
  have key : ∀ m : Fin 256, len8[m.val]? = some (UInt8.ofNat (blen m.val)) := by decide +kernel
  exact key ⟨n.toNat, by omega⟩
theorem blen_le8 {n : Nat} (h : n < 256) : blen n ≤ 8 := blen_le.2 h
theorem wrap_u8 (n : Int) : IntKind.u8.wrap n = n % 256 := by simp [IntKind.wrap, IntKind.signed, IntKind.bits]
theorem wrap_u64 {n : Int} (h0 : 0 ≤ n) (h : n < 18446744073709551616) : IntKind.u64.wrap n = n := by
  simp [IntKind.wrap, IntKind.signed, IntKind.bits]; omega
theorem wrap_i64 {n : Int} (h0 : -9223372036854775808 ≤ n) (h : n ≤ 9223372036854775807) : IntKind.i64.wrap n = n := by
  simp [IntKind.wrap, IntKind.signed, IntKind.bits]; omega

theorem len8_conv {m : Int} (h0 : 0 ≤ m) (h1 : m < 2 ^ 8) : IntKind.i64.wrap ((UInt8.ofNat (blen m.toNat)).toNat : Int) = (blen m.toNat : Int) := by
  have := blen_le8 (n := m.toNat) (by omega)
  rw [wrap_i64 (by omega) (by have := (UInt8.ofNat (blen m.toNat)).toNat_lt; omega)]
  simp; omega

def vbad (n : Int) : Prop := n < 0 ∨ 4611686018427387903 < n
instance (n : Int) : Decidable (vbad n) := by unfold vbad; exact inferInstance
def vkind (n : Int) : Int := if vbad n then -1 else if n < 64 then 0 else if n < 16384 then 1 else if n < 1073741824 then 2 else 3
def vsize (n : Int) : Int := if vbad n then 0 else if n < 64 then 1 else if n < 16384 then 2 else if n < 1073741824 then 4 else 8

/-! No references in a list of data. -/
def NR (ds : List D) : Prop := D.refsInL noRef ds = true
theorem NR.nil : NR [] := rfl
theorem NR.cons {d : D} {ds : List D} (h : d.refsIn noRef = true) (k : NR ds) : NR (d :: ds) := by unfold NR; rw [D.refsInL, h]; exact k
theorem NR.append {ds es : List D} (h : NR ds) (k : NR es) : NR (ds ++ es) := by
  induction ds with
  | nil => exact k
  | cons d ds ih =>
    have h' : d.refsIn noRef = true ∧ D.refsInL noRef ds = true := by simpa [NR, D.refsInL] using h
    exact NR.cons h'.1 (ih h'.2)
theorem NR.map {α : Type} {f : α → D} (h : ∀ x, (f x).refsIn noRef = true) (l : List α) : NR (l.map f) := by
  induction l with
  | nil => rfl
  | cons a l ih => exact NR.cons (h a) ih
theorem NR.replicate {d : D} (h : d.refsIn noRef = true) (n : Nat) : NR (List.replicate n d) := by
  induction n with
  | zero => rfl
  | succ n ih => exact NR.cons h ih
mutual
theorem D.ren_bare {ρ : Nat → Nat} : ∀ (d : D), d.refsIn noRef = true → d.ren ρ = d
  | .dead, _ | .bool _, _ | .int _ _, _ | .float _ _, _ | .str _, _ | .slice _ _, _ | .nils, _ | .fptr _, _ | .nilp, _ | .nilf, _ | .nili, _ => rfl
  | .ref _ _, h | .rsl _ _ _ _ _, h | .gsl _ _ _, h | .osl _ _ _, h | .yld _, h => by cases h
  | .agg cs, h => by rw [D.ren, D.renL_bare cs (by simpa [D.refsIn] using h)]
  | .tuple cs, h => by rw [D.ren, D.renL_bare cs (by simpa [D.refsIn] using h)]
  | .fn f cs, h => by rw [D.ren, D.renL_bare cs (by simpa [D.refsIn] using h)]
  | .cnd b d, h => by rw [D.ren, D.ren_bare d (by simpa [D.refsIn] using h)]
theorem D.renL_bare {ρ : Nat → Nat} : ∀ (ds : List D), D.refsInL noRef ds = true → D.renL ρ ds = ds
  | [], _ => rfl
  | d :: ds, h => by
    have h' : d.refsIn noRef = true ∧ D.refsInL noRef ds = true := by simpa [D.refsInL] using h
    rw [D.renL, D.ren_bare d h'.1, D.renL_bare ds h'.2]
end
mutual
theorem D.refsIn_mono {p : Nat → Bool} : ∀ (d : D), d.refsIn noRef = true → d.refsIn p = true
  | .dead, _ | .bool _, _ | .int _ _, _ | .float _ _, _ | .str _, _ | .slice _ _, _ | .nils, _ | .fptr _, _ | .nilp, _ | .nilf, _ | .nili, _ => rfl
  | .ref _ _, h | .rsl _ _ _ _ _, h | .gsl _ _ _, h | .osl _ _ _, h | .yld _, h => by cases h
  | .agg cs, h => by simp only [D.refsIn] at h ⊢; exact D.refsInL_mono cs h
  | .tuple cs, h => by simp only [D.refsIn] at h ⊢; exact D.refsInL_mono cs h
  | .fn f cs, h => by simp only [D.refsIn] at h ⊢; exact D.refsInL_mono cs h
  | .cnd b d, h => by simp only [D.refsIn] at h ⊢; exact D.refsIn_mono d h
theorem D.refsInL_mono {p : Nat → Bool} : ∀ (ds : List D), D.refsInL noRef ds = true → D.refsInL p ds = true
  | [], _ => rfl
  | d :: ds, h => by
    have h' : d.refsIn noRef = true ∧ D.refsInL noRef ds = true := by simpa [D.refsInL] using h
    rw [D.refsInL, D.refsIn_mono d h'.1, D.refsInL_mono ds h'.2]; rfl
end
/-- An entry's data without references. -/
theorem EntW.plain {S S' : St} {ρ : Nat → Nat} {id : Nat} {e : TypeId} {ds ds' : List D} (h : S.ent (ρ id) = .blk e ds') (hd : ds' = ds) (hr : NR ds) : EntW S S' ρ id (.blk e ds) :=
  .blk h (by rw [hd, D.renL_bare ds hr]) (D.refsInL_mono ds hr)

/-! Varints. -/
theorem kind_step {n i : Int} (h0 : 0 ≤ n) (h1 : n ≤ 4611686018427387903) (hi : 0 ≤ i) (hi' : i < 4) : (blen n.toNat : Int) ≤ 8 * 2 ^ i.toNat - 2 ↔ vkind n ≤ i := by
  have hb : ¬ vbad n := by unfold vbad; omega
  have h6 := @blen_le n.toNat 6
  have h14 := @blen_le n.toNat 14
  have h30 := @blen_le n.toNat 30
  have h62 := @blen_le n.toNat 62
  simp only [vkind, hb, if_false]
  obtain rfl | rfl | rfl | rfl : i = 0 ∨ i = 1 ∨ i = 2 ∨ i = 3 := by omega
  all_goals simp at h6 h14 h30 h62 ⊢
  all_goals (repeat' split) <;> omega
theorem vkind_range (n : Int) : -1 ≤ vkind n ∧ vkind n ≤ 3 := by unfold vkind; (repeat' split) <;> omega
theorem vkind_bad {n : Int} (h : vbad n) : vkind n = -1 := by simp [vkind, h]
theorem vkind_neg {n : Int} : vkind n < 0 ↔ vbad n := by unfold vkind; (repeat' split) <;> simp_all
theorem vsize_kind (n : Int) : (vbad n ∧ vsize n = 0 ∧ vkind n = -1) ∨ (¬ vbad n ∧ 0 ≤ vkind n ∧ vkind n ≤ 3 ∧ vsize n = 2 ^ (vkind n).toNat) := by
  unfold vsize vkind
  by_cases h : vbad n
  · simp [h]
  · simp only [h, if_false]
    (repeat' split) <;> simp
theorem shl_small {a i : Int} (ha : a = 8 ∨ a = 1 ∨ a = 64) (hi : 0 ≤ i) (h4 : i < 4) : shift2 .shl .i64 a i = some (.int .i64 (a * 2 ^ i.toNat)) := by
  obtain rfl | rfl | rfl := ha <;> obtain rfl | rfl | rfl | rfl : i = 0 ∨ i = 1 ∨ i = 2 ∨ i = 3 := by omega
  all_goals rfl
theorem shl6_small {i : Int} (hi : 0 ≤ i) (h4 : i < 4) : shift2 .shl .i64 i 6 = some (.int .i64 (64 * i)) := by
  obtain rfl | rfl | rfl | rfl : i = 0 ∨ i = 1 ∨ i = 2 ∨ i = 3 := by omega
  all_goals rfl

def by8 (n : Int) : UInt8 := UInt8.ofNat (n % 256).toNat
theorem by8_toNat (n : Int) : ((by8 n).toNat : Int) = n % 256 := by
  unfold by8
  have h0 := Int.emod_nonneg n (b := 256) (by decide)
  have h1 := Int.emod_lt_of_pos n (b := 256) (by decide)
  simp; omega
theorem byteD_by8 (n : Int) : byteD (by8 n) = .int .u8 (n % 256) := by unfold byteD; rw [by8_toNat]
def beb (n : Int) : Nat → List UInt8
  | 0 => []
  | m + 1 => by8 (n / 256 ^ m) :: beb n m
theorem beb_length (n : Int) : ∀ m, (beb n m).length = m
  | 0 => rfl
  | m + 1 => by simp [beb, beb_length n m]
def vput (n : Int) : List UInt8 :=
  match (vsize n).toNat with
  | 0 => []
  | m + 1 => UInt8.ofNat ((n / 256 ^ m % 256).toNat + 64 * (vkind n).toNat) :: beb n m
theorem div_step (n : Int) (j : Nat) : n / 256 ^ j / 2 ^ 8 = n / 256 ^ (j + 1) := by
  rw [Int.pow_succ, Int.ediv_ediv_of_nonneg (Int.le_of_lt (Int.pow_pos (by decide)))]; rfl
theorem div_step' (n : Int) (j : Nat) : n / 256 ^ j / 256 = n / 256 ^ (j + 1) := div_step n j
theorem set_zeros {α : Type} (z x : α) (m : Nat) (l : List α) : (List.replicate (m + 1) z ++ l).set m x = List.replicate m z ++ (x :: l) := by
  rw [List.replicate_succ', List.append_assoc, List.set_append_right _ _ (by simp)]
  simp
theorem or_mark {a k : Int} (h0 : 0 ≤ a) (h1 : a < 64) (h2 : 0 ≤ k) (h3 : k < 4) : int2 .or .u8 a (64 * k) = some (.int .u8 (a + 64 * k)) := by
  have key : ∀ (x : Fin 64) (y : Fin 4), IntKind.u8.wrap (((BitVec.ofInt 8 (x.val : Int)) ||| (BitVec.ofInt 8 (64 * (y.val : Int)))).toNat : Int) = (x.val : Int) + 64 * (y.val : Int) := by decide +kernel
  have := key ⟨a.toNat, by omega⟩ ⟨k.toNat, by omega⟩
  simp only [show ((a.toNat : Nat) : Int) = a by omega, show ((k.toNat : Nat) : Int) = k by omega] at this
  simp only [int2]; exact congrArg (fun x => some (D.int .u8 x)) this
theorem top_small {n : Int} {m : Nat} (h : ¬ vbad n) (hm : (vsize n).toNat = m + 1) : 0 ≤ n / 256 ^ m ∧ n / 256 ^ m < 64 := by
  have hh : 0 ≤ n ∧ n ≤ 4611686018427387903 := by unfold vbad at h; omega
  refine ⟨Int.ediv_nonneg hh.1 (Int.le_of_lt (Int.pow_pos (by decide))), ?_⟩
  apply Int.ediv_lt_of_lt_mul (Int.pow_pos (by decide))
  revert hm
  simp only [vsize, h, if_false]
  (repeat' split) <;> intro hm
  · obtain rfl : m = 0 := by simpa using hm.symm
    omega
  · obtain rfl : m = 1 := by simpa using hm.symm
    omega
  · obtain rfl : m = 3 := by simpa using hm.symm
    omega
  · obtain rfl : m = 7 := by simpa using hm.symm
    omega

def beN (a : Int) (l : List UInt8) : Int := l.foldl (fun a c => a * 256 + c.toNat) a
theorem beN_take {a : Int} {l : List UInt8} {j : Nat} {c : UInt8} (h : l[j]? = some c) : beN a (l.take (j + 1)) = beN a (l.take j) * 256 + c.toNat := by
  rw [List.take_add_one, h]; simp [beN]
theorem beN_bound {a : Int} (h0 : 0 ≤ a) (h1 : a < 64) : ∀ (j : Nat) (l : List UInt8), l.length = j → 0 ≤ beN a l ∧ beN a l < 64 * 256 ^ j := by
  have key : ∀ (l : List UInt8) (a : Int) (b : Int), 0 ≤ a → a < b → 0 ≤ beN a l ∧ beN a l < b * 256 ^ l.length := by
    intro l
    induction l with
    | nil => intro a b h0 h1; simp [beN]; omega
    | cons c l ih =>
      intro a b h0 h1
      have hc := c.toNat_lt
      have := ih (a * 256 + c.toNat) (b * 256) (by omega) (by omega)
      simp only [beN, List.foldl_cons, List.length_cons] at this ⊢
      rw [Int.pow_succ]
      have e : b * (256 ^ l.length * 256) = b * 256 * 256 ^ l.length := by rw [Int.mul_comm (256 ^ l.length) 256, Int.mul_assoc]
      rw [e]; exact this
  rintro j l rfl
  exact key l a 64 h0 h1
theorem pow256_le {j : Nat} (h : j ≤ 7) : (256 : Int) ^ j ≤ 72057594037927936 := by
  obtain rfl | rfl | rfl | rfl | rfl | rfl | rfl | rfl : j = 0 ∨ j = 1 ∨ j = 2 ∨ j = 3 ∨ j = 4 ∨ j = 5 ∨ j = 6 ∨ j = 7 := by omega
  all_goals decide
theorem or_low {x c : Int} (h0 : 0 ≤ x) (h1 : x < 36028797018963968) (h2 : 0 ≤ c) (h3 : c < 256) : int2 .or .i64 (x * 256) c = some (.int .i64 (x * 256 + c)) := by
  obtain ⟨y, rfl⟩ := Int.eq_ofNat_of_zero_le h0
  obtain ⟨d, rfl⟩ := Int.eq_ofNat_of_zero_le h2
  simp only [int2]
  congr 2
  have e1 : (BitVec.ofInt 64 ((y : Int) * 256)).toNat = y * 256 := by
    rw [show ((y : Int) * 256) = ((y * 256 : Nat) : Int) by simp, BitVec.ofInt_natCast, BitVec.toNat_ofNat, Nat.mod_eq_of_lt (by omega)]
  have e2 : (BitVec.ofInt 64 (d : Int)).toNat = d := by
    rw [BitVec.ofInt_natCast, BitVec.toNat_ofNat, Nat.mod_eq_of_lt (by omega)]
  have e3 : ((BitVec.ofInt IntKind.i64.bits ((y : Int) * 256)) ||| (BitVec.ofInt IntKind.i64.bits (d : Int))).toNat = y * 256 + d := by
    show ((BitVec.ofInt 64 ((y : Int) * 256)) ||| (BitVec.ofInt 64 (d : Int))).toNat = _
    rw [BitVec.toNat_or, e1, e2]
    have := Nat.shiftLeft_add_eq_or_of_lt (a := y) (b := d) (i := 8) (by omega)
    rw [Nat.shiftLeft_eq] at this
    exact this.symm
  rw [e3, wrap_i64 (by omega) (by omega)]; omega
theorem and63 (b : UInt8) : int2 .and .u8 (b.toNat : Int) 63 = some (.int .u8 ((b.toNat : Int) % 64)) := by
  have key : ∀ x : Fin 256, IntKind.u8.wrap (((BitVec.ofInt 8 (x.val : Int)) &&& (BitVec.ofInt 8 63)).toNat : Int) = (x.val : Int) % 64 := by decide +kernel
  have := key ⟨b.toNat, b.toNat_lt⟩
  simp only [int2]; exact congrArg (fun x => some (D.int .u8 x)) this

def vget : List UInt8 → Int × Int × Int
  | [] => (0, 0, 3)
  | b :: r =>
    if (b :: r).length < 2 ^ (b.toNat / 64) then (0, 0, 3)
    else if vkind (beN (b.toNat % 64) (r.take (2 ^ (b.toNat / 64) - 1))) = ((b.toNat / 64 : Nat) : Int) then (beN (b.toNat % 64) (r.take (2 ^ (b.toNat / 64) - 1)), ((2 ^ (b.toNat / 64) : Nat) : Int), 0) else (0, 0, 4)

theorem shl_range {i : Int} (hi : 0 ≤ i) (h4 : i < 4) : 8 ≤ 8 * (2 : Int) ^ i.toNat ∧ 8 * (2 : Int) ^ i.toNat ≤ 64 := by
  obtain rfl | rfl | rfl | rfl : i = 0 ∨ i = 1 ∨ i = 2 ∨ i = 3 := by omega
  all_goals decide

def bl (l : List UInt8) : List D := l.map byteD
theorem vput_len (n : Int) : (vput n).length = (vsize n).toNat := by
  unfold vput; split
  · rename_i h; simp [h]
  · rename_i h; simp [h, beb_length]
theorem pow2_small {k : Int} (h0 : 0 ≤ k) (h : k ≤ 3) : 1 ≤ (2 : Int) ^ k.toNat ∧ (2 : Int) ^ k.toNat ≤ 8 := by
  obtain rfl | rfl | rfl | rfl : k = 0 ∨ k = 1 ∨ k = 2 ∨ k = 3 := by omega
  all_goals decide
theorem vput_pos {n : Int} (h : 0 ≤ vkind n) : ∃ m : Nat, m ≤ 7 ∧ (vsize n).toNat = m + 1 ∧ (2 : Int) ^ (vkind n).toNat = ((m + 1 : Nat) : Int) ∧ ¬ vbad n := by
  rcases vsize_kind n with h' | h'
  · omega
  · have := pow2_small h h'.2.2.1
    exact ⟨(vsize n).toNat - 1, by omega, by omega, by omega, h'.1⟩
theorem flat_bl (l : List UInt8) : D.flat (l.map byteD) = l.map byteD := by
  induction l with
  | nil => rfl
  | cons c l ih => simp only [List.map_cons, D.flat, List.flatMap_cons] at ih ⊢; rw [ih]; rfl
theorem one_bl (l : List UInt8) : (l.map byteD).all D.one = true := by
  simp [List.all_eq_true]; intro x _; rfl
theorem mark_byte {n : Int} {m : Nat} (h : ¬ vbad n) (hm : (vsize n).toNat = m + 1) : D.int .u8 (n / 256 ^ m % 256 + 64 * vkind n) = byteD (UInt8.ofNat ((n / 256 ^ m % 256).toNat + 64 * (vkind n).toNat)) := by
  have h1 := top_small h hm
  have h2 := vkind_range n
  have h3 : 0 ≤ vkind n := by rcases vsize_kind n with h' | h'; exact absurd h'.1 h; exact h'.2.1
  unfold byteD
  congr 1
  have : n / 256 ^ m % 256 = n / 256 ^ m := Int.emod_eq_of_lt h1.1 (by omega)
  rw [this]; simp; omega
theorem vput_eq {n : Int} {m : Nat} (hm : (vsize n).toNat = m + 1) : vput n = UInt8.ofNat ((n / 256 ^ m % 256).toNat + 64 * (vkind n).toNat) :: beb n m := by
  unfold vput; rw [hm]
theorem vput_bad {n : Int} (h : vbad n) : vput n = [] := by simp [vput, vsize, h]
end Go.IL
namespace Go.IL
theorem shr6 (b : UInt8) : (b.toNat : Int) / 2 ^ 6 = b.toNat / 64 := rfl
theorem vget_nil : vget [] = (0, 0, 3) := rfl
/-- The bytes behind the first. -/
theorem get_len {b : UInt8} {r : List UInt8} (h : ¬ (b :: r).length < 2 ^ (b.toNat / 64)) : (r.take (2 ^ (b.toNat / 64) - 1)).length = 2 ^ (b.toNat / 64) - 1 := by
  simp only [List.length_cons] at h
  rw [List.length_take]; omega
theorem vget_short {b : UInt8} {r : List UInt8} (h : (b :: r).length < 2 ^ (b.toNat / 64)) : vget (b :: r) = (0, 0, 3) := by simp only [vget, h, if_true]
theorem vget_form {b : UInt8} {r : List UInt8} (h : ¬ (b :: r).length < 2 ^ (b.toNat / 64)) (k : ¬ vkind (beN (b.toNat % 64) (r.take (2 ^ (b.toNat / 64) - 1))) = ((b.toNat / 64 : Nat) : Int)) : vget (b :: r) = (0, 0, 4) := by simp only [vget, h, k, if_false]
theorem vget_ok {b : UInt8} {r : List UInt8} (h : ¬ (b :: r).length < 2 ^ (b.toNat / 64)) (k : vkind (beN (b.toNat % 64) (r.take (2 ^ (b.toNat / 64) - 1))) = ((b.toNat / 64 : Nat) : Int)) : vget (b :: r) = (beN (b.toNat % 64) (r.take (2 ^ (b.toNat / 64) - 1)), ((2 ^ (b.toNat / 64) : Nat) : Int), 0) := by
  simp only [vget, h, if_false]; rw [if_pos k]
theorem shl_8 {a : Int} (h0 : 0 ≤ a) (h1 : a < 36028797018963968) : shift2 .shl .i64 a 8 = some (.int .i64 (a * 256)) := by
  simp only [shift2]
  have : IntKind.i64.wrap (a * 2 ^ min (8 : Int).toNat IntKind.i64.bits) = a * 256 := by
    show IntKind.i64.wrap (a * 2 ^ 8) = _
    rw [wrap_i64 (by omega) (by omega)]; omega
  rw [this]; rfl
theorem k4 (b : UInt8) : b.toNat / 64 ≤ 3 := by have := b.toNat_lt; omega
theorem pow2_k4 {k : Nat} (h : k ≤ 3) : 1 ≤ 2 ^ k ∧ 2 ^ k ≤ 8 := by
  obtain rfl | rfl | rfl | rfl : k = 0 ∨ k = 1 ∨ k = 2 ∨ k = 3 := by omega
  all_goals decide
theorem get_acc {b : UInt8} {l : List UInt8} (j : Nat) (hj : j ≤ l.length) (hl : j ≤ 7) : 0 ≤ beN (b.toNat % 64) (l.take j) ∧ beN (b.toNat % 64) (l.take j) ≤ 4611686018427387903 ∧ (j ≤ 6 → beN (b.toNat % 64) (l.take j) < 18014398509481984) := by
  have h1 := beN_bound (a := b.toNat % 64) (by omega) (by omega) j (l.take j) (by simp; omega)
  refine ⟨h1.1, ?_, ?_⟩
  · have := pow256_le hl; omega
  · intro h6
    have : (256 : Int) ^ j ≤ 281474976710656 := by
      obtain rfl | rfl | rfl | rfl | rfl | rfl | rfl : j = 0 ∨ j = 1 ∨ j = 2 ∨ j = 3 ∨ j = 4 ∨ j = 5 ∨ j = 6 := by omega
      all_goals decide
    omega
end Go.IL
namespace Go.IL
theorem slice_tail {b : UInt8} {r : List UInt8} {n : Nat} (h : 1 ≤ n) : ((b :: r).take ((n : Nat) : Int).toNat).drop (1 : Int).toNat = r.take (n - 1) := by
  obtain ⟨m, rfl⟩ : ∃ m, n = m + 1 := ⟨n - 1, by omega⟩
  simp
end Go.IL
namespace Go.IL
def vmark (s : Int) : Int := if s = 1 then 0 else if s = 2 then 64 else if s = 4 then 128 else 192
theorem vmark_size {n : Int} (h : ¬ vbad n) : vmark (vsize n) = 64 * vkind n := by
  simp only [vmark, vsize, vkind, h, if_false]; (repeat' split) <;> omega
theorem long_val (b : UInt8) : ((2 ^ (b.toNat / 64) : Nat) : Int) = if b.toNat / 64 = 0 then 1 else if b.toNat / 64 = 1 then 2 else if b.toNat / 64 = 2 then 4 else 8 := by
  have := k4 b
  obtain h | h | h | h : b.toNat / 64 = 0 ∨ b.toNat / 64 = 1 ∨ b.toNat / 64 = 2 ∨ b.toNat / 64 = 3 := by omega
  all_goals rw [h]; rfl
theorem vsize_range (n : Int) : 0 ≤ vsize n ∧ vsize n ≤ 8 := by unfold vsize; (repeat' split) <;> omega
theorem vsize_zero {n : Int} : vsize n = 0 ↔ vbad n := by unfold vsize; (repeat' split) <;> simp_all
theorem add_mark {a k : Int} (h0 : 0 ≤ a) (h1 : a < 64) (h2 : 0 ≤ k) (h3 : k < 4) : int2 .add .u8 a (64 * k) = some (.int .u8 (a + 64 * k)) := by
  simp only [int2]; rw [wrap_u8, Int.emod_eq_of_lt (by omega) (by omega)]
theorem head_at {s : List UInt8} (h : s ≠ []) : s[(0 : Int).toNat]? = some (s.headD 0) := by
  cases s with
  | nil => exact absurd rfl h
  | cons b r => rfl
theorem vget_cut {s : List UInt8} (h : s = [] ∨ (s.length : Int) < ((2 ^ ((s.headD 0).toNat / 64) : Nat) : Int)) : vget s = (0, 0, 3) := by
  cases s with
  | nil => rfl
  | cons b r =>
    rcases h with h | h
    · cases h
    · exact vget_short (by simp only [List.headD_cons] at h; omega)
theorem vsize_iff {n : Int} {k : Nat} (hk : k ≤ 3) : vsize n = ((2 ^ k : Nat) : Int) ↔ vkind n = (k : Int) := by
  unfold vsize vkind
  obtain rfl | rfl | rfl | rfl : k = 0 ∨ k = 1 ∨ k = 2 ∨ k = 3 := by omega
  all_goals (repeat' split) <;> simp
end Go.IL
namespace Go.IL
theorem tail_at {b c : UInt8} {r : List UInt8} {m j : Nat} (h : (r.take m)[j]? = some c) : (b :: r)[((j + 1 : Nat) : Int).toNat]? = some c := by
  rw [Int.toNat_natCast, List.getElem?_cons_succ]
  rw [List.getElem?_take] at h
  split at h
  · exact h
  · cases h
end Go.IL
namespace Go.IL
def intD (n : Int) : D := .int .i64 n
def vjoin (l : List Int) : List UInt8 × Int := if l.all (fun x => !decide (vbad x)) then (l.flatMap vput, 0) else ([], 8)
theorem vjoin_bad {l : List Int} {j : Nat} {x : Int} (h : l[j]? = some x) (hb : vbad x) : vjoin l = ([], 8) := by
  have hm := List.mem_of_getElem? h
  unfold vjoin; rw [if_neg]
  simp only [List.all_eq_true, Bool.not_eq_true', decide_eq_false_iff_not]
  exact fun h => h x hm hb
theorem vjoin_ok {l : List Int} (h : ∀ x ∈ l, ¬ vbad x) : vjoin l = (l.flatMap vput, 0) := by
  unfold vjoin; rw [if_pos]
  simpa [List.all_eq_true] using h
theorem flat_take {α β : Type} {f : α → List β} {l : List α} {j : Nat} {x : α} (h : l[j]? = some x) : (l.take (j + 1)).flatMap f = (l.take j).flatMap f ++ f x := by
  rw [List.take_add_one, h]; simp
theorem vput_le8 (x : Int) : (vput x).length ≤ 8 := by rw [vput_len]; have := vsize_range x; omega
theorem flat_len_le (l : List Int) : (l.flatMap vput).length ≤ 8 * l.length := by
  induction l with
  | nil => simp
  | cons x l ih => simp only [List.flatMap_cons, List.length_append, List.length_cons]; have := vput_le8 x; omega
theorem all_take {α : Type} {P : α → Prop} {l : List α} {j : Nat} {x : α} (h : ∀ y ∈ l.take j, P y) (hq : l[j]? = some x) (hx : P x) : ∀ y ∈ l.take (j + 1), P y := by
  rw [List.take_add_one, hq]
  intro y hy
  simp only [Option.toList_some, List.mem_append, List.mem_singleton] at hy
  rcases hy with hy | rfl
  · exact h y hy
  · exact hx
theorem vget_size {s : List UInt8} (h : (vget s).2.2 = 0) : 1 ≤ (vget s).2.1 ∧ (vget s).2.1 ≤ s.length := by
  cases s with
  | nil => exact absurd h (by decide)
  | cons b r =>
    by_cases h1 : (b :: r).length < 2 ^ (b.toNat / 64)
    · rw [vget_short h1] at h; exact absurd h (by decide)
    · by_cases h2 : vkind (beN (b.toNat % 64) (r.take (2 ^ (b.toNat / 64) - 1))) = ((b.toNat / 64 : Nat) : Int)
      · rw [vget_ok h1 h2]; have := pow2_k4 (k4 b); constructor <;> simp only <;> omega
      · rw [vget_form h1 h2] at h; exact absurd h (by decide)
def vallF : Nat → List UInt8 → List Int → List Int × Int
  | 0, _, acc => (acc, 0)
  | f + 1, s, acc => if s = [] then (acc, 0) else if (vget s).2.2 = 0 then vallF f (s.drop (vget s).2.1.toNat) (acc ++ [(vget s).1]) else ([], (vget s).2.2)
def vall (s : List UInt8) : List Int × Int := vallF s.length s []
theorem vallF_nil (f : Nat) (acc : List Int) : vallF f [] acc = (acc, 0) := by cases f <;> simp [vallF]
theorem vallF_bad {f : Nat} {s : List UInt8} {acc : List Int} (hs : s ≠ []) (hf : s.length ≤ f) (h : (vget s).2.2 ≠ 0) : vallF f s acc = ([], (vget s).2.2) := by
  cases f with
  | zero => exact absurd (List.length_eq_zero_iff.1 (Nat.le_zero.1 hf)) hs
  | succ f => simp [vallF, hs, h]
theorem vallF_step {f : Nat} {s : List UInt8} {acc : List Int} (hs : s ≠ []) (hf : s.length ≤ f) (h : (vget s).2.2 = 0) : ∃ f', (s.drop (vget s).2.1.toNat).length ≤ f' ∧ vallF f s acc = vallF f' (s.drop (vget s).2.1.toNat) (acc ++ [(vget s).1]) := by
  cases f with
  | zero => exact absurd (List.length_eq_zero_iff.1 (Nat.le_zero.1 hf)) hs
  | succ f =>
    have := vget_size h
    exact ⟨f, by simp; omega, by simp [vallF, hs, h]⟩
end Go.IL
namespace Go.IL
theorem flat_take_le {l : List Int} (j : Nat) (h : j ≤ l.length) : ((l.take j).flatMap vput).length ≤ 8 * j := by
  have := flat_len_le (l.take j); rw [List.length_take] at this; omega
end Go.IL
namespace Go.IL
theorem refsInL_map {α : Type} {p : Nat → Bool} {f : α → D} (h : ∀ x, (f x).refsIn p = true) : ∀ (l : List α), D.refsInL p (l.map f) = true
  | [] => rfl
  | a :: l => by rw [List.map_cons, D.refsInL, h a, refsInL_map h l]; rfl
theorem renL_map {α : Type} {ρ : Nat → Nat} {f : α → D} : ∀ (l : List α), D.renL ρ (l.map f) = l.map fun x => (f x).ren ρ
  | [] => rfl
  | a :: l => by rw [List.map_cons, D.renL, renL_map l]; rfl
/-- An entry of references into one block. -/
theorem EntW.refs {S S' : St} {ρ ρ' : Nat → Nat} {id i i' : Nat} {e : TypeId} {l : List Nat} {ds' : List D} (h : S.ent (ρ id) = .blk e ds') (hd : ds' = D.renL ρ' (l.map (D.ref i'))) (hi : ρ' i' = ρ i) (hr : S'.okn i = true) : EntW S S' ρ id (.blk e (l.map (D.ref i))) :=
  .blk h (by rw [hd, renL_map, renL_map]; simp [D.ren, hi]) (refsInL_map (f := D.ref i) (p := S'.okn) (fun _ => hr) l)
theorem EntW.refs0 {S S' : St} {ρ : Nat → Nat} {id i i' : Nat} {e : TypeId} {l : List Nat} {ds' : List D} (h : S.ent (ρ id) = .blk e ds') (hd : ds' = l.map (D.ref i')) (hi : i' = ρ i) (hr : S'.okn i = true) : EntW S S' ρ id (.blk e (l.map (D.ref i))) :=
  .blk h (by rw [hd, renL_map]; simp [D.ren, hi]) (refsInL_map (f := D.ref i) (p := S'.okn) (fun _ => hr) l)
end Go.IL
