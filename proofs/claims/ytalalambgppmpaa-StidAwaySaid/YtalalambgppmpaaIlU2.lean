/-
  A part of the proof: rules and plain facts. No condition.
-/
import Derived.Test.YtalalambgppmpaaIlZ
set_option linter.all false
/-! Small laws for the plain functions. -/
namespace Go.IL
theorem bnd_d {α β : Type} (e : α) (f : α → Option β) : bnd e f = f e := rfl
theorem bno_s {α β : Type} (x : α) (f : α → Option β) : bno (some x) f = f x := rfl
theorem chk_t {β : Type} {p : Prop} [Decidable p] {o : Option β} (h : p) : chk p o = o := if_pos h
theorem gd_tt {α : Type} (o : Option α) (d : α) : gd true o d = o := rfl
theorem gd_ff {α : Type} (o : Option α) (d : α) : gd false o d = some d := rfl
theorem gix_nat {α : Type} (l : List α) (k : Nat) : gix l (k : Int) = l[k]? := by unfold gix; rw [if_pos (by omega)]; rfl
theorem gix_lit {α : Type} (l : List α) {i : Int} (h : 0 ≤ i) : gix l i = l[i.toNat]? := by unfold gix; rw [if_pos h]
theorem gix_get {α : Type} {l : List α} {i : Int} (h : 0 ≤ i) (hl : i.toNat < l.length) : gix l i = some l[i.toNat] := by rw [gix_lit l h, List.getElem?_eq_getElem hl]
theorem cut_ok {α : Type} {l : List α} {a b : Int} (h0 : 0 ≤ a) (h1 : a ≤ b) (h2 : b ≤ (l.length : Int)) : cut l a b = some ((l.take b.toNat).drop a.toNat) := if_pos ⟨h0, h1, h2⟩
theorem cut_to {α : Type} {l : List α} {a : Int} (h0 : 0 ≤ a) (h1 : a ≤ (l.length : Int)) : cut l a (l.length : Int) = some (l.drop a.toNat) := by
  rw [cut_ok h0 h1 (Int.le_refl _), Int.toNat_natCast, List.take_of_length_le (Nat.le_refl _)]
theorem cut_of {α : Type} {l : List α} {b : Int} (h0 : 0 ≤ b) (h1 : b ≤ (l.length : Int)) : cut l 0 b = some (l.take b.toNat) := by
  rw [cut_ok (Int.le_refl _) h0 h1]; rfl
theorem app_ok {α : Type} {b : Nat} {l m : List α} (h : l.length + m.length ≤ 9223372036854775807) (h1 : (l.length + m.length) * b ≤ 140737488355328) : app b l m = some (l ++ m) := if_pos ⟨h, h1⟩
theorem cat_ok {a b : List UInt8} (h : a.length + b.length ≤ 9223372036854775807) : cat a b = some (a ++ b) := if_pos h
theorem w64 {n : Int} (h0 : -9223372036854775808 ≤ n) (h1 : n ≤ 9223372036854775807) : IntKind.wrap .i64 n = n := wrap_i64 h0 h1
theorem wU64 {n : Int} (h0 : 0 ≤ n) (h1 : n < 18446744073709551616) : IntKind.wrap .u64 n = n := wrap_u64 h0 h1
theorem wU8 {n : Int} (h0 : 0 ≤ n) (h1 : n < 256) : IntKind.wrap .u8 n = n := by rw [wrap_u8, Int.emod_eq_of_lt h0 h1]
theorem wrap_u32 (n : Int) : IntKind.wrap .u32 n = n % 4294967296 := by simp [IntKind.wrap, IntKind.signed, IntKind.bits]
theorem toU8_ok {n : Int} (h0 : 0 ≤ n) (h1 : n < 256) : toU8 n = some (UInt8.ofNat n.toNat) := if_pos ⟨h0, h1⟩
theorem toU8_nat (c : UInt8) : toU8 (c.toNat : Int) = some c := by
  have := c.toNat_lt
  rw [toU8_ok (by omega) (by omega)]; simp
theorem shl_e {k : IntKind} {a b c : Int} (h : shift2 .shl k a b = some (.int k c)) : shlI k a b = some c := by
  unfold shift2 at h; unfold shlI
  split at h
  · cases h
  · rename_i hb; rw [if_neg hb]; simp only [Option.some.injEq, D.int.injEq, true_and] at h; rw [h]
theorem shr_ok {k : IntKind} {a : Int} {n : Nat} (hn : n ≤ k.bits) : shrI k a (n : Int) = some (a / 2 ^ n) := by
  unfold shrI
  rw [if_neg (by omega), Int.toNat_natCast, Nat.min_eq_left hn, Int.fdiv_eq_ediv_of_nonneg _ (Int.le_of_lt (Int.pow_pos (by decide)))]
theorem shr_at {k : IntKind} {a b : Int} (n : Nat) (hb : b = (n : Int)) (hn : n ≤ k.bits) : shrI k a b = some (a / 2 ^ n) := by rw [hb, shr_ok hn]
theorem int_e {op : BinOp} {k : IntKind} {a b c d : Int} (h : int2 op k a b = some (.int k c)) (e : int2 op k a b = some (.int k d)) : d = c := by
  rw [h] at e; simpa using e.symm
theorem quo_ok {a b : Int} (h0 : 0 ≤ a) (h1 : a ≤ 9223372036854775807) (hb : 0 < b) : quoI .i64 a b = some (a / b) := by
  unfold quoI
  have h2 : a / b ≤ a := Int.ediv_le_self _ h0
  have h3 : 0 ≤ a / b := Int.ediv_nonneg h0 (Int.le_of_lt hb)
  rw [if_neg (by omega), Int.tdiv_eq_ediv_of_nonneg h0, w64 (by omega) (by omega)]
theorem rem_ok {a b : Int} (h0 : 0 ≤ a) (hb : 0 < b) : remI a b = some (a % b) := by
  unfold remI
  rw [if_neg (by omega), Int.tmod_eq_emod_of_nonneg h0]
theorem made_ok {α : Type} {b : Nat} {n : Int} {z : α} (h0 : 0 ≤ n) (h1 : (b : Int) * n ≤ 281474976710656) (h2 : n ≤ 9223372036854775807) : made b n z = some (List.replicate n.toNat z) := if_pos ⟨h0, h1, h2⟩
theorem bothE_same {α β : Type} [DecidableEq α] [DecidableEq β] {l : List α} {a b : Option β} (h : l = [] → a = b) : bothE l a b = b := by
  unfold bothE; split
  · rename_i hl; rw [if_pos (h hl), h hl]
  · rfl
theorem fuel_gt {n : Nat} (h : n < 18446744073709551616) : n < fuel := by show n < 2 ^ 64; omega
/-! The same, so that simp keeps a proof of each step (a long term is not looked at anew by the kernel). -/
theorem bndD {α β : Type} (e : α) (f : α → Option β) : bnd e f = f e := (Eq.refl _).trans (bnd_d e f)
theorem bnoS {α β : Type} (x : α) (f : α → Option β) : bno (some x) f = f x := (Eq.refl _).trans (bno_s x f)
theorem bnoN {α β : Type} (f : α → Option β) : bno none f = none := (Eq.refl _).trans (Eq.refl _)
theorem gdX {α : Type} {g : Bool} (o : Option α) (d : α) (h : g = true) : gd g o d = o := by rw [h]; rfl
theorem gdtt {α : Type} (o : Option α) (d : α) : gd true o d = o := (Eq.refl _).trans (gd_tt o d)
theorem gdff {α : Type} (o : Option α) (d : α) : gd false o d = some d := (Eq.refl _).trans (gd_ff o d)
theorem bif_tt {α : Type} (a b : α) : (bif true then a else b) = a := (Eq.refl _).trans (Eq.refl _)
theorem bif_ff {α : Type} (a b : α) : (bif false then a else b) = b := (Eq.refl _).trans (Eq.refl _)
end Go.IL
