/-
  A part of the proof: rules and plain facts. No condition.
-/
import Derived.Test.YtlmdafogcphbbaaIlP4
import Derived.KernelRfl
set_option linter.all false
set_option linter.unusedSimpArgs false
set_option linter.unusedVariables false
open Go Go.IL
namespace Go.Fn
theorem join_loop {l : List Int} (hl : l.length ≤ 1000000) : ∀ (k i : Nat), l.length - i < k → i ≤ l.length → (∀ x ∈ l.take i, ¬ vbad x) → varint_join_L0 l k ((l.take i).flatMap vput) (i : Int) = some (vjoin l) := by
  intro k
  induction k with
  | zero => intro i h; omega
  | succ k ih =>
    intro i h hi ha
    unfold varint_join_L0
    simp only [bnd_d]
    by_cases hc : i < l.length
    · rw [decide_eq_true (by omega), cond_true, gix_nat, List.getElem?_eq_getElem hc, bno_s, put_is, bno_s]
      have hq : l[i]? = some l[i] := List.getElem?_eq_getElem hc
      have h8 := vput_le8 l[i]
      have hfl := flat_take_le (l := l) i (by omega)
      by_cases hb : vbad l[i]
      · rw [if_pos hb, vjoin_bad hq hb]; rfl
      · simp only [if_neg hb, decide_true, Bool.not_true, cond_false]
        rw [app_ok (by omega) (by omega), bno_s, step64 hc (by omega), ← flat_take hq]
        exact ih (i + 1) (by omega) (by omega) (all_take ha hq hb)
    · have : i = l.length := by omega
      subst this
      rw [decide_eq_false (by omega), cond_false, List.take_length]
      rw [List.take_length] at ha
      rw [vjoin_ok ha]
theorem join_is {l : List Int} (hl : l.length ≤ 1000000) : varint_Join l = some (vjoin l) := by
  unfold varint_Join varint_join
  have := join_loop hl fuel 0 (fuel_gt (by omega)) (Nat.zero_le _) (by simp)
  simp only [List.take_zero, List.flatMap_nil] at this
  rw [show (0 : Int) = ((0 : Nat) : Int) from rfl, this, bno_s]
theorem rjoin_loop {l : List Int} (hl : l.length ≤ 1000000) : ∀ (k i : Nat), l.length - i < k → i ≤ l.length → (∀ x ∈ l.take i, ¬ vbad x) → sennitref02_Join_L0 l k ((l.take i).flatMap vput) (i : Int) = some (vjoin l) := by
  intro k
  induction k with
  | zero => intro i h; omega
  | succ k ih =>
    intro i h hi ha
    unfold sennitref02_Join_L0
    simp only [bnd_d]
    by_cases hc : i < l.length
    · rw [decide_eq_true (by omega), cond_true, gix_nat, List.getElem?_eq_getElem hc, bno_s, rput_is, bno_s]
      have hq : l[i]? = some l[i] := List.getElem?_eq_getElem hc
      have h8 := vput_le8 l[i]
      have hfl := flat_take_le (l := l) i (by omega)
      by_cases hb : vbad l[i]
      · rw [if_pos hb, vjoin_bad hq hb]; rfl
      · simp only [if_neg hb, decide_true, Bool.not_true, cond_false]
        rw [app_ok (by omega) (by omega), bno_s, step64 hc (by omega), ← flat_take hq]
        exact ih (i + 1) (by omega) (by omega) (all_take ha hq hb)
    · have : i = l.length := by omega
      subst this
      rw [decide_eq_false (by omega), cond_false, List.take_length]
      rw [List.take_length] at ha
      rw [vjoin_ok ha]
theorem rjoin_is {l : List Int} (hl : l.length ≤ 1000000) : sennitref02_Join l = some (vjoin l) := by
  unfold sennitref02_Join
  have := rjoin_loop hl fuel 0 (fuel_gt (by omega)) (Nat.zero_le _) (by simp)
  simpa using this

theorem vjoin_len (l : List Int) : (vjoin l).1.length ≤ 8 * l.length := by
  unfold vjoin; split
  · exact flat_len_le l
  · simp
def pl (l : List T_api_Pair) : List Int := l.flatMap fun p => [p.ID, p.Value]
theorem pl_len : ∀ (l : List T_api_Pair), (pl l).length = 2 * l.length
  | [] => rfl
  | p :: l => by
    have := pl_len l
    simp only [pl, List.flatMap_cons, List.length_append, List.length_cons, List.length_nil] at this ⊢
    omega
def vals (f : T_frame_Frame) : List Int := (offsK f.Kind).map (nv f) ++ pl f.Pairs
def pay (f : T_frame_Frame) : List UInt8 := (vjoin (vals f)).1 ++ f.Data
def Lite (f : T_frame_Frame) : Prop := f.Pairs.length ≤ 1000 ∧ f.Data.length ≤ 1000
theorem vals_len (f : T_frame_Frame) : (vals f).length ≤ 3 + 2 * f.Pairs.length := by
  unfold vals
  rw [List.length_append, List.length_map, pl_len]
  have := (offs_bounds f.Kind).1; omega
theorem pay_end {f : T_frame_Frame} (h : Lite f) (l : List Int) (hl : l.length ≤ 3000) : (bno (varint_Join l) fun x42 => bno (cat x42.1 f.Data) fun x43 => some x43) = some ((vjoin l).1 ++ f.Data) := by
  rw [join_is (by omega), bno_s]
  have := vjoin_len l
  rw [cat_ok (by have := h.2; omega), bno_s]
theorem rpay_end {f : T_frame_Frame} (h : Lite f) (l : List Int) (hl : l.length ≤ 3000) : (bno (sennitref02_Join l) fun x42 => bno (cat x42.1 f.Data) fun x43 => some x43) = some ((vjoin l).1 ++ f.Data) := by
  rw [rjoin_is (by omega), bno_s]
  have := vjoin_len l
  rw [cat_ok (by have := h.2; omega), bno_s]
theorem pl_step {l : List T_api_Pair} {i : Nat} (hc : i < l.length) : pl (l.take (i + 1)) = pl (l.take i) ++ [l[i].ID, l[i].Value] := by
  unfold pl; rw [List.take_succ_eq_append_getElem hc, List.flatMap_append]; rfl
theorem pay_L1 {f : T_frame_Frame} (h : Lite f) (a : List Int) (ha : a.length ≤ 3) : ∀ (k i : Nat), f.Pairs.length - i < k → i ≤ f.Pairs.length → frame_Frame_payload_L1 f k (a ++ pl (f.Pairs.take i)) (i : Int) = some ((vjoin (a ++ pl f.Pairs)).1 ++ f.Data) := by
  have hp := h.1
  intro k
  induction k with
  | zero => intro i h; omega
  | succ k ih =>
    intro i hk hi
    unfold frame_Frame_payload_L1
    simp only [bnd_d]
    by_cases hc : i < f.Pairs.length
    · have hpl := pl_len (f.Pairs.take i)
      rw [List.length_take] at hpl
      rw [decide_eq_true (by omega), cond_true, gix_nat, List.getElem?_eq_getElem hc, bno_s, app_ok (by simp only [List.length_append, List.length_cons, List.length_nil]; omega) (by simp only [List.length_append, List.length_cons, List.length_nil]; omega), bno_s, step64 hc (by omega), List.append_assoc, ← pl_step hc]
      exact ih (i + 1) (by omega) (by omega)
    · have : i = f.Pairs.length := by omega
      subst this
      rw [decide_eq_false (by omega), cond_false, List.take_length]
      exact pay_end h _ (by rw [List.length_append, pl_len]; omega)
theorem rpay_L1 {f : T_frame_Frame} (h : Lite f) (a : List Int) (ha : a.length ≤ 3) : ∀ (k i : Nat), f.Pairs.length - i < k → i ≤ f.Pairs.length → sennitref15_payload_L1 f k (a ++ pl (f.Pairs.take i)) (i : Int) = some ((vjoin (a ++ pl f.Pairs)).1 ++ f.Data) := by
  have hp := h.1
  intro k
  induction k with
  | zero => intro i h; omega
  | succ k ih =>
    intro i hk hi
    unfold sennitref15_payload_L1
    simp only [bnd_d]
    by_cases hc : i < f.Pairs.length
    · have hpl := pl_len (f.Pairs.take i)
      rw [List.length_take] at hpl
      rw [decide_eq_true (by omega), cond_true, gix_nat, List.getElem?_eq_getElem hc, bno_s, bno_s, app_ok (by simp only [List.length_append, List.length_cons, List.length_nil]; omega) (by simp only [List.length_append, List.length_cons, List.length_nil]; omega), bno_s, step64 hc (by omega), List.append_assoc, ← pl_step hc]
      exact ih (i + 1) (by omega) (by omega)
    · have : i = f.Pairs.length := by omega
      subst this
      rw [decide_eq_false (by omega), cond_false, List.take_length]
      exact rpay_end h _ (by rw [List.length_append, pl_len]; omega)
theorem icell_nv (f : T_frame_Frame) {o : Nat} (h : 2 ≤ o) (h2 : o ≤ 7) : icell [none, none, some f.Stream, some f.Offset, some f.Dep, some f.Weight, some f.N, some f.Code, none, none] o = some (nv f o) := by
  obtain rfl | rfl | rfl | rfl | rfl | rfl : o = 2 ∨ o = 3 ∨ o = 4 ∨ o = 5 ∨ o = 6 ∨ o = 7 := by omega
  all_goals rfl
theorem map_step {α β : Type} {l : List α} {g : α → β} {i : Nat} (hc : i < l.length) : (l.take (i + 1)).map g = (l.take i).map g ++ [g l[i]] := by
  rw [List.take_succ_eq_append_getElem hc, List.map_append]; rfl
theorem pay_L0 {f : T_frame_Frame} (h : Lite f) {l : List Nat} (hl : l.length ≤ 3) (hr : ∀ o ∈ l, 2 ≤ o ∧ o ≤ 7) : ∀ (k i : Nat), l.length - i < k → i ≤ l.length → frame_Frame_payload_L0 f l k ((l.take i).map (nv f)) (i : Int) = some ((vjoin (l.map (nv f) ++ pl f.Pairs)).1 ++ f.Data) := by
  intro k
  induction k with
  | zero => intro i h; omega
  | succ k ih =>
    intro i hk hi
    unfold frame_Frame_payload_L0
    simp only [bnd_d]
    by_cases hc : i < l.length
    · have hx := hr _ (List.getElem_mem hc)
      rw [decide_eq_true (by omega), cond_true, gix_nat, Int.toNat_natCast, List.getElem?_eq_getElem hc, bno_s, bno_s, icell_nv f hx.1 hx.2, bno_s, app_ok (by simp; omega) (by simp; omega), bno_s, step64 hc (by omega), ← map_step hc]
      exact ih (i + 1) (by omega) (by omega)
    · have : i = l.length := by omega
      subst this
      rw [decide_eq_false (by omega), cond_false, List.take_length]
      have := pay_L1 h (l.map (nv f)) (by simp; omega) fuel 0 (fuel_gt (by have := h.1; omega)) (Nat.zero_le _)
      simpa [pl] using this
theorem pay_is {f : T_frame_Frame} (h : Lite f) : frame_Frame_payload f = some (pay f) := by
  unfold frame_Frame_payload pay vals
  rw [numbers_is, bno_s]
  have hb := offs_bounds f.Kind
  have := pay_L0 h hb.1 hb.2 fuel 0 (fuel_gt (by omega)) (Nat.zero_le _)
  simpa using this
theorem rpay_L0 {f : T_frame_Frame} (h : Lite f) {l : List Nat} (hl : l.length ≤ 3) (hr : ∀ o ∈ l, 2 ≤ o ∧ o ≤ 7) : ∀ (k i : Nat), l.length - i < k → i ≤ l.length → sennitref15_payload_L0 f (l.map chrOf) k ((l.take i).map (nv f)) (i : Int) = some ((vjoin (l.map (nv f) ++ pl f.Pairs)).1 ++ f.Data) := by
  intro k
  induction k with
  | zero => intro i h; omega
  | succ k ih =>
    intro i hk hi
    unfold sennitref15_payload_L0
    simp only [bnd_d, List.length_map]
    by_cases hc : i < l.length
    · have hx := hr _ (List.getElem_mem hc)
      rw [decide_eq_true (by omega), cond_true, gix_nat, List.getElem?_map, List.getElem?_eq_getElem hc, Option.map_some, bno_s, value_is f hx.1 hx.2, bno_s, app_ok (by simp; omega) (by simp; omega), bno_s, step64 hc (by omega), ← map_step hc]
      exact ih (i + 1) (by omega) (by omega)
    · have : i = l.length := by omega
      subst this
      rw [decide_eq_false (by omega), cond_false, List.take_length]
      have := rpay_L1 h (l.map (nv f)) (by simp; omega) fuel 0 (fuel_gt (by have := h.1; omega)) (Nat.zero_le _)
      simpa [pl] using this
theorem rpay_is {f : T_frame_Frame} (hk : 0 ≤ f.Kind) (hn : knownK f.Kind = true) (h : Lite f) : sennitref15_payload f = some (pay f) := by
  unfold sennitref15_payload pay vals
  rw [fields_is hk, bno_s, flK, if_pos hn]
  have hb := offs_bounds f.Kind
  have := rpay_L0 h hb.1 hb.2 fuel 0 (fuel_gt (by omega)) (Nat.zero_le _)
  simpa using this
theorem pay_len {f : T_frame_Frame} (h : Lite f) : (pay f).length ≤ 20000 := by
  unfold pay
  have h1 := vjoin_len (vals f)
  have h2 := vals_len f
  have := h.1; have := h.2
  rw [List.length_append]; omega

theorem clone_is {l : List UInt8} (hl : l.length ≤ 1000000) : slices_Clone_byte_byte_h l = some l := by
  unfold slices_Clone_byte_byte_h
  rw [app_ok (by simp; omega) (by simp; omega)]
  exact bothE_same (fun h => by subst h; rfl)
theorem lay_is {l : List UInt8} {n : Int} (hl : l.length ≤ 1000) (h0 : 0 ≤ n) (h1 : n < 256) : cursor_Lay l n 1 = some (l ++ [UInt8.ofNat n.toNat]) := by
  unfold cursor_Lay
  rw [clone_is (by omega), bno_s]
  have hf : cursor_Fits n 1 = some true := by
    unfold cursor_Fits
    simp only [bnd_d]
    rw [decide_eq_true h0, w64 (by decide) (by decide)]
    simp only [decide_true, show decide ((1 : Int) ≤ 7) = true from rfl, show decide ((1 : Int) ≤ 1) = true from rfl, Bool.and_self, beq_self_eq_true, gd, cond_true]
    rw [shr_at (k := .i64) (b := 8 * 1) 8 rfl (by decide), bno_s]
    have : n / 2 ^ 8 = 0 := by omega
    rw [this]; rfl
  rw [hf, bno_s]
  obtain ⟨m, hm⟩ := fuel_is 2 (by decide)
  rw [hm]
  simp only [Bool.not_true, cond_false, cursor_Lay_L0, bnd_d]
  rw [show decide ((0 : Int) < 1) = true from rfl, cond_true, w64 (n := 1 - 1) (by decide) (by decide), w64 (n := 1 - 1 - 0) (by decide) (by decide), w64 (n := 8 * (1 - 1 - 0)) (by decide) (by decide), shr_at (k := .i64) (b := 8 * (1 - 1 - 0)) 0 rfl (by decide), bno_s, w64 (n := 0 + 1) (by decide) (by decide)]
  rw [Int.pow_zero, Int.ediv_one, wU8 h0 h1, toU8_ok h0 h1, bno_s, app_ok (by simp; omega) (by simp; omega), bno_s]
  rfl
def putF (f : T_frame_Frame) : List UInt8 × Int := if chkF f = 0 then ([UInt8.ofNat f.Kind.toNat, if f.Flag then 1 else 0] ++ vput (pay f).length ++ pay f, 0) else ([], chkF f)
theorem len_good {f : T_frame_Frame} (h : Lite f) : ¬ vbad ((pay f).length : Int) := by
  have := pay_len h
  unfold vbad; omega
theorem chk_known {f : T_frame_Frame} (h : chkF f = 0) : knownK f.Kind = true := by
  unfold chkF at h
  cases hk : knownK f.Kind with
  | true => rfl
  | false => rw [hk] at h; simp at h
theorem put_F {f : T_frame_Frame} (hk0 : 0 ≤ f.Kind) (hk1 : f.Kind ≤ 255) (h : Lite f) : frame_Put f = some (putF f) := by
  have hJ : ∀ v : Int, 0 ≤ v → v < 2 → frame_Put_J0 f v = some ([UInt8.ofNat f.Kind.toNat, UInt8.ofNat v.toNat] ++ vput (pay f).length ++ pay f, 0) := by
    intro v h0 h1
    unfold frame_Put_J0
    have h8 := vput_le8 ((pay f).length : Int)
    have hp := pay_len h
    rw [pay_is h, bno_s, put_is, bno_s]
    simp only [if_neg (len_good h), bnd_d, decide_true, Bool.not_true, cond_false]
    rw [w64 (by omega) (by omega), lay_is (by simp) hk0 (by omega), bno_s, lay_is (by simp) h0 (by omega), bno_s, cat_ok (by simp; omega), bno_s, cat_ok (by simp; omega), bno_s]
    rfl
  unfold frame_Put putF
  rw [check_is (by have := h.1; omega), bno_s, bnd_d]
  by_cases hc : chkF f = 0
  · rw [decide_eq_true hc, if_pos hc, hJ 1 (by decide) (by decide), hJ 0 (by decide) (by decide)]
    cases f.Flag <;> rfl
  · rw [decide_eq_false hc, if_neg hc]; rfl
theorem rput_F {f : T_frame_Frame} (hk0 : 0 ≤ f.Kind) (hk1 : f.Kind ≤ 255) (h : Lite f) : sennitref15_Put f = some (putF f) := by
  unfold sennitref15_Put putF
  rw [rcheck_is hk0 (by have := h.1; omega), bno_s, bnd_d]
  by_cases hc : chkF f = 0
  · have hJ : ∀ v : Int, 0 ≤ v → v < 2 → sennitref15_Put_J0 f v = some ([UInt8.ofNat f.Kind.toNat, UInt8.ofNat v.toNat] ++ vput (pay f).length ++ pay f, 0) := by
      intro v h0 h1
      unfold sennitref15_Put_J0
      have h8 := vput_le8 ((pay f).length : Int)
      have hp := pay_len h
      rw [rpay_is hk0 (chk_known hc) h, bno_s, rput_is, bno_s, toU8_ok hk0 (by omega), bno_s, toU8_ok h0 (by omega), bno_s, cat_ok (by simp; omega), bno_s, cat_ok (by simp; omega), bno_s]
    rw [decide_eq_true hc, if_pos hc, hJ 1 (by decide) (by decide), hJ 0 (by decide) (by decide)]
    cases f.Flag <;> rfl
  · rw [decide_eq_false hc, if_neg hc]; rfl
end Go.Fn

namespace Go.Fn
open Go Go.IL
theorem awake15 : sennitlaw15_awake = some true := by kernel_rfl
theorem light_is (f : T_frame_Frame) : sennitref15_Light f = some (decide ((f.Pairs.length : Int) ≤ 10) && decide ((f.Data.length : Int) ≤ 100)) := rfl
theorem light_lite {f : T_frame_Frame} (h : (decide ((f.Pairs.length : Int) ≤ 10) && decide ((f.Data.length : Int) ≤ 100)) = true) : Lite f := by
  simp at h; exact ⟨by omega, by omega⟩
theorem framePuts {f o : T_frame_Frame} (hf : 0 ≤ f.Kind ∧ f.Kind ≤ 255) : sennitlaw15_FramePuts f o = some true := by
  unfold sennitlaw15_FramePuts
  rw [light_is, light_is, bno_s]
  cases h1 : (decide ((f.Pairs.length : Int) ≤ 10) && decide ((f.Data.length : Int) ≤ 100)) with
  | false => simp [gd, bno_s, bnd_d, awake15]
  | true =>
    cases h2 : (decide ((o.Pairs.length : Int) ≤ 10) && decide ((o.Data.length : Int) ≤ 100)) with
    | false => simp [gd, bno_s, bnd_d, awake15]
    | true =>
      have l1 := light_lite h1
      have l2 := light_lite h2
      have e1 := put_F hf.1 hf.2 l1
      have e2 := rput_F hf.1 hf.2 l1
      have e3 := check_is (f := f) (by have := l1.1; omega)
      have e4 := rcheck_is (f := f) hf.1 (by have := l1.1; omega)
      have e5 := same_is (a := f) (b := o) (by have := l1.1; omega) (by have := l2.1; omega)
      have e6 := rsame_is (a := f) (b := o) (by have := l1.1; omega) (by have := l2.1; omega)
      have e7 : frame_Size f = some ((putF f).1.length : Int) := by unfold frame_Size; rw [e1]; rfl
      have e8 : sennitref15_Size f = some ((putF f).1.length : Int) := by unfold sennitref15_Size; rw [e2]; rfl
      simp [gd, bno_s, bnd_d, awake15, e1, e2, e3, e4, e5, e6, e7, e8]
end Go.Fn
