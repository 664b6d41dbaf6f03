/-
  A part of the proof: rules and plain facts. No condition.
-/
import Derived.Test.YtlmdafogcphbbaaIlP6
set_option linter.all false
set_option linter.unusedSimpArgs false
set_option linter.unusedVariables false
open Go Go.IL
namespace Go.Fn

/-! What Put writes Get reads back, and the other way round. -/
theorem beb_val (n : Int) : ∀ (m : Nat) (a : Int), beN a (beb n m) = a * 256 ^ m + n % 256 ^ m
  | 0, a => by simp [beb, beN]
  | m + 1, a => by
    have ih := beb_val n m (a * 256 + n / 256 ^ m % 256)
    simp only [beb, beN, List.foldl_cons, by8_toNat] at ih ⊢
    rw [ih]
    have hP : (0 : Int) < 256 ^ m := Int.pow_pos (by decide)
    have e1 := Int.mul_ediv_add_emod n (256 ^ m)
    have e2 := Int.mul_ediv_add_emod (n / 256 ^ m) 256
    have r0 := Int.emod_nonneg n (b := 256 ^ m) (by omega)
    have r1 := Int.emod_lt_of_pos n hP
    have q0 := Int.emod_nonneg (n / 256 ^ m) (b := 256) (by decide)
    have q1 := Int.emod_lt_of_pos (n / 256 ^ m) (b := 256) (by decide)
    have key : n % 256 ^ (m + 1) = 256 ^ m * (n / 256 ^ m % 256) + n % 256 ^ m := by
      have e3 : n = 256 ^ m * (n / 256 ^ m % 256) + n % 256 ^ m + 256 ^ (m + 1) * (n / 256 ^ m / 256) := by
        rw [Int.pow_succ]
        have : 256 ^ m * 256 * (n / 256 ^ m / 256) = 256 ^ m * (256 * (n / 256 ^ m / 256)) := Int.mul_assoc ..
        rw [this]
        have : 256 ^ m * (n / 256 ^ m) = 256 ^ m * (256 * (n / 256 ^ m / 256)) + 256 ^ m * (n / 256 ^ m % 256) := by rw [← Int.mul_add, e2]
        omega
      have h0 : 0 ≤ 256 ^ m * (n / 256 ^ m % 256) := Int.mul_nonneg (by omega) q0
      have h1 : 256 ^ m * (n / 256 ^ m % 256) ≤ 256 ^ m * 255 := Int.mul_le_mul_of_nonneg_left (by omega) (by omega)
      have := congrArg (fun x => x % (256 : Int) ^ (m + 1)) e3
      simp only [Int.add_mul_emod_self_left] at this
      rw [this]
      apply Int.emod_eq_of_lt
      · omega
      · rw [Int.pow_succ]; omega
    rw [key, Int.add_mul, Int.pow_succ, Int.mul_assoc, Int.mul_comm 256 (256 ^ m), Int.mul_comm (n / 256 ^ m % 256)]
    omega
theorem vget_vput {n : Int} (h : ¬ vbad n) (t : List UInt8) : vget (vput n ++ t) = (n, vsize n, 0) := by
  have hk : 0 ≤ vkind n := by rcases vsize_kind n with h' | h'; exact absurd h'.1 h; exact h'.2.1
  have hk3 := (vkind_range n).2
  obtain ⟨m, hm7, hm, hp, _⟩ := vput_pos hk
  have ht := top_small h hm
  have hmod : n / 256 ^ m % 256 = n / 256 ^ m := Int.emod_eq_of_lt ht.1 (by omega)
  rw [vput_eq hm, hmod, List.cons_append]
  have hb : (UInt8.ofNat ((n / 256 ^ m).toNat + 64 * (vkind n).toNat)).toNat = (n / 256 ^ m).toNat + 64 * (vkind n).toNat := by simp; omega
  have hd : (UInt8.ofNat ((n / 256 ^ m).toNat + 64 * (vkind n).toNat)).toNat / 64 = (vkind n).toNat := by rw [hb]; omega
  have hr : ((UInt8.ofNat ((n / 256 ^ m).toNat + 64 * (vkind n).toNat)).toNat : Int) % 64 = ((n / 256 ^ m).toNat : Int) := by rw [hb]; omega
  have hp2 : 2 ^ (vkind n).toNat = m + 1 := by exact_mod_cast hp
  have hlen := beb_length n m
  have hval : beN ((n / 256 ^ m).toNat : Int) (beb n m) = n := by
    rw [beb_val, Int.toNat_of_nonneg ht.1, Int.mul_comm]
    exact Int.mul_ediv_add_emod n (256 ^ m)
  have htk : (beb n m ++ t).take m = beb n m := by rw [List.take_append_of_le_length (by omega), List.take_of_length_le (by omega)]
  rw [vget_ok (by rw [hd, hp2]; simp; omega) ?_]
  · rw [hd, hr, hp2, Nat.add_sub_cancel, htk]
    have hc : ((((n / 256 ^ m).toNat : Nat) : Int)) = ((n / 256 ^ m).toNat : Int) := rfl
    rw [hval]
    have : vsize n = ((m + 1 : Nat) : Int) := by have := vsize_range n; omega
    rw [this]
  · rw [hd, hr, hp2, Nat.add_sub_cancel, htk, hval]; omega
theorem beb_back : ∀ (q : List UInt8) (a : Int), 0 ≤ a → beN a q / 256 ^ q.length = a ∧ beb (beN a q) q.length = q
  | [], a, h => by simp [beN, beb]
  | c :: q, a, h => by
    have hc := c.toNat_lt
    have ih := beb_back q (a * 256 + c.toNat) (by omega)
    have e : beN a (c :: q) = beN (a * 256 + c.toNat) q := rfl
    rw [e, List.length_cons]
    constructor
    · rw [← div_step', ih.1]; omega
    · rw [beb, ih.2, ih.1]
      have : by8 (a * 256 + c.toNat) = c := by
        unfold by8
        have : (a * 256 + (c.toNat : Int)) % 256 = c.toNat := by omega
        rw [this]; simp
      rw [this]
theorem vput_vget {s : List UInt8} (h : (vget s).2.2 = 0) : ¬ vbad (vget s).1 ∧ vput (vget s).1 = s.take (vget s).2.1.toNat := by
  cases s with
  | nil => exact absurd h (by decide)
  | cons b r =>
    by_cases h1 : (b :: r).length < 2 ^ (b.toNat / 64)
    · rw [vget_short h1] at h; exact absurd h (by decide)
    · by_cases h2 : vkind (beN (b.toNat % 64) (r.take (2 ^ (b.toNat / 64) - 1))) = ((b.toNat / 64 : Nat) : Int)
      · rw [vget_ok h1 h2]
        simp only
        have hlen := get_len h1
        have hk4 := k4 b
        have hpk := pow2_k4 hk4
        generalize hv : beN (b.toNat % 64) (r.take (2 ^ (b.toNat / 64) - 1)) = v at h2
        have hnb : ¬ vbad v := by rw [← vkind_neg, h2]; omega
        have hsz : vsize v = ((2 ^ (b.toNat / 64) : Nat) : Int) := (vsize_iff hk4).2 h2
        have hm : (vsize v).toNat = (2 ^ (b.toNat / 64) - 1) + 1 := by rw [hsz]; omega
        have hbk := beb_back (r.take (2 ^ (b.toNat / 64) - 1)) ((b.toNat : Int) % 64) (by omega)
        rw [hlen] at hbk
        rw [hv] at hbk
        refine ⟨hnb, ?_⟩
        rw [vput_eq hm, hbk.1, hbk.2, h2]
        have e1 : UInt8.ofNat (((b.toNat : Int) % 64 % 256).toNat + 64 * (((b.toNat / 64 : Nat) : Int)).toNat) = b := by
          have hb := b.toNat_lt
          have : (((b.toNat : Int) % 64 % 256).toNat + 64 * (((b.toNat / 64 : Nat) : Int)).toNat) = b.toNat := by omega
          rw [this]; simp
        rw [e1, Int.toNat_natCast]
        obtain ⟨p, hp⟩ : ∃ p, 2 ^ (b.toNat / 64) = p + 1 := ⟨2 ^ (b.toNat / 64) - 1, by omega⟩
        rw [hp, List.take_succ_cons, Nat.add_sub_cancel]
      · rw [vget_form h1 h2] at h; exact absurd h (by decide)
theorem vput_ne {n : Int} (h : ¬ vbad n) : 1 ≤ (vput n).length ∧ ((vput n).length : Int) = vsize n := by
  rw [vput_len]
  have := vsize_range n
  have h2 := vsize_zero (n := n)
  have : vsize n ≠ 0 := fun e => h (h2.1 e)
  omega

theorem nv_setv {g : T_frame_Frame} {o p : Nat} (h : 2 ≤ o) (h2 : o ≤ 7) (h3 : 2 ≤ p) (h4 : p ≤ 7) (v : Int) : nv (setv g o v) p = if p = o then v else nv g p := by
  obtain rfl | rfl | rfl | rfl | rfl | rfl : o = 2 ∨ o = 3 ∨ o = 4 ∨ o = 5 ∨ o = 6 ∨ o = 7 := by omega
  all_goals
    obtain rfl | rfl | rfl | rfl | rfl | rfl : p = 2 ∨ p = 3 ∨ p = 4 ∨ p = 5 ∨ p = 6 ∨ p = 7 := by omega
    all_goals rfl
theorem rd_fwd (h : Nat → Int) : ∀ (os : List Nat) (t : List UInt8) (g : T_frame_Frame), (∀ o ∈ os, ¬ vbad (h o)) → (∀ o ∈ os, 2 ≤ o ∧ o ≤ 7) →
    ∃ g', rd os ((os.map h).flatMap vput ++ t) g = some (t, g') ∧ (∀ o ∈ os, nv g' o = h o) ∧ ∀ p, 2 ≤ p → p ≤ 7 → p ∉ os → nv g' p = nv g p
  | [], t, g, _, _ => ⟨g, rfl, by simp, fun _ _ _ _ => rfl⟩
  | o :: os, t, g, hb, hr => by
    have ho := hr o (by simp)
    have hn := hb o (by simp)
    obtain ⟨g', h1, h2, h3⟩ := rd_fwd h os t (setv g o (h o)) (fun p hp => hb p (by simp [hp])) (fun p hp => hr p (by simp [hp]))
    refine ⟨g', ?_, ?_, ?_⟩
    · rw [List.map_cons, List.flatMap_cons, List.append_assoc]
      unfold rd
      rw [vget_vput hn]
      simp only [if_true]
      rw [← (vput_ne hn).2, Int.toNat_natCast, List.drop_left]
      exact h1
    · intro p hp
      by_cases hpo : p ∈ os
      · exact h2 p hpo
      · have : p = o := by simpa [hpo] using hp
        subst this
        rw [h3 p ho.1 ho.2 hpo, nv_setv ho.1 ho.2 ho.1 ho.2, if_pos rfl]
    · intro p hp2 hp7 hp
      rw [List.mem_cons, not_or] at hp
      rw [h3 p hp2 hp7 hp.2, nv_setv ho.1 ho.2 hp2 hp7, if_neg hp.1]
theorem rd_bwd : ∀ (os : List Nat) (s t : List UInt8) (g g' : T_frame_Frame), os.Nodup → (∀ o ∈ os, 2 ≤ o ∧ o ≤ 7) → rd os s g = some (t, g') →
    s = (os.map (nv g')).flatMap vput ++ t ∧ (∀ o ∈ os, ¬ vbad (nv g' o)) ∧ ∀ p, 2 ≤ p → p ≤ 7 → p ∉ os → nv g' p = nv g p
  | [], s, t, g, g', _, _, h => by simp only [rd, Option.some.injEq, Prod.mk.injEq] at h; obtain ⟨rfl, rfl⟩ := h; simp
  | o :: os, s, t, g, g', hd, hr, h => by
    have ho := hr o (by simp)
    rw [List.nodup_cons] at hd
    unfold rd at h
    split at h
    · rename_i hz
      obtain ⟨h1, h2, h3⟩ := rd_bwd os _ t _ g' hd.2 (fun p hp => hr p (by simp [hp])) h
      have hv := vput_vget hz
      have e : nv g' o = (vget s).1 := by rw [h3 o ho.1 ho.2 hd.1, nv_setv ho.1 ho.2 ho.1 ho.2, if_pos rfl]
      refine ⟨?_, ?_, ?_⟩
      · rw [List.map_cons, List.flatMap_cons, List.append_assoc, ← h1, e, hv.2, List.take_append_drop]
      · intro p hp
        by_cases hpo : p ∈ os
        · exact h2 p hpo
        · have : p = o := by simpa [hpo] using hp
          subst this; rw [e]; exact hv.1
      · intro p hp2 hp7 hp
        rw [List.mem_cons, not_or] at hp
        rw [h3 p hp2 hp7 hp.2, nv_setv ho.1 ho.2 hp2 hp7, if_neg hp.1]
    · cases h
theorem offs_nodup (k : Int) : (offsK k).Nodup := by unfold offsK; (repeat' split) <;> decide
theorem frame_eqv {f g : T_frame_Frame} (h1 : f.Kind = g.Kind) (h2 : f.Flag = g.Flag) (h3 : ∀ p, 2 ≤ p → p ≤ 7 → nv f p = nv g p) (h4 : f.Pairs = g.Pairs) (h5 : f.Data = g.Data) : f = g := by
  have a2 := h3 2 (by decide) (by decide)
  have a3 := h3 3 (by decide) (by decide)
  have a4 := h3 4 (by decide) (by decide)
  have a5 := h3 5 (by decide) (by decide)
  have a6 := h3 6 (by decide) (by decide)
  have a7 := h3 7 (by decide) (by decide)
  simp only [nv] at a2 a3 a4 a5 a6 a7
  obtain ⟨⟩ := f; obtain ⟨⟩ := g
  simp_all

theorem vallF_flat : ∀ (l : List Int) (f : Nat) (acc : List Int), (l.flatMap vput).length ≤ f → (∀ x ∈ l, ¬ vbad x) → vallF f (l.flatMap vput) acc = (acc ++ l, 0)
  | [], f, acc, _, _ => by simp [vallF_nil]
  | x :: l, f, acc, hf, hb => by
    have hx := hb x (by simp)
    have hv := vput_ne hx
    rw [List.flatMap_cons, List.length_append] at hf
    rw [List.flatMap_cons]
    have hg := vget_vput hx (l.flatMap vput)
    have hne : vput x ++ l.flatMap vput ≠ [] := by intro e; have := congrArg List.length e; simp at this; have := hv.1; simp_all
    cases f with
    | zero => omega
    | succ f =>
      rw [vallF, if_neg hne, hg]
      simp only [if_true]
      rw [← hv.2, Int.toNat_natCast, List.drop_left, vallF_flat l f _ (by omega) (fun y hy => hb y (by simp [hy])), List.append_assoc]
      rfl
theorem vallF_back : ∀ (f : Nat) (s : List UInt8) (acc : List Int), s.length ≤ f → (vallF f s acc).2 = 0 → ∃ l, (vallF f s acc).1 = acc ++ l ∧ s = l.flatMap vput ∧ ∀ x ∈ l, ¬ vbad x
  | 0, s, acc, hf, h => ⟨[], by simp [vallF], by simpa using hf, by simp⟩
  | f + 1, s, acc, hf, h => by
    rw [vallF] at h ⊢
    by_cases hs : s = []
    · rw [if_pos hs]; exact ⟨[], by simp, by simpa using hs, by simp⟩
    · rw [if_neg hs] at h ⊢
      by_cases hz : (vget s).2.2 = 0
      · rw [if_pos hz] at h ⊢
        have hsz := vget_size hz
        obtain ⟨l, h1, h2, h3⟩ := vallF_back f (s.drop (vget s).2.1.toNat) (acc ++ [(vget s).1]) (by rw [List.length_drop]; omega) h
        have hv := vput_vget hz
        refine ⟨(vget s).1 :: l, by rw [h1, List.append_assoc]; rfl, ?_, ?_⟩
        · rw [List.flatMap_cons, ← h2, hv.2, List.take_append_drop]
        · intro x hx
          rcases List.mem_cons.1 hx with rfl | hx
          · exact hv.1
          · exact h3 x hx
      · rw [if_neg hz] at h; exact absurd h hz
theorem pairUp_pl : ∀ (l : List T_api_Pair), pairUp (pl l) = l
  | [] => rfl
  | p :: l => by
    have := pairUp_pl l
    simp only [pl, List.flatMap_cons, List.cons_append, List.nil_append] at this ⊢
    rw [pairUp, this]
theorem pl_pairUp : ∀ (l : List Int), l.length % 2 = 0 → pl (pairUp l) = l
  | [], _ => rfl
  | [a], h => by simp at h
  | a :: b :: l, h => by
    have := pl_pairUp l (by simp only [List.length_cons] at h; omega)
    simp only [pairUp, pl, List.flatMap_cons, List.cons_append, List.nil_append] at this ⊢
    rw [this]

structure Good (f : T_frame_Frame) : Prop where
  known : knownK f.Kind = true
  rng : rng f = true
  data : f.Data.length ≤ 32
  pairs : f.Pairs.length ≤ 4
  spr : spr f = false
theorem chk_good {f : T_frame_Frame} (h : chkF f = 0) : Good f := by
  unfold chkF at h
  cases hk : knownK f.Kind with
  | false => rw [hk] at h; simp at h
  | true =>
    rw [hk, if_neg (by decide)] at h
    cases hr : rng f with
    | false => rw [hr] at h; simp at h
    | true =>
      rw [hr, if_neg (by decide)] at h
      by_cases hl : 32 < f.Data.length ∨ 4 < f.Pairs.length
      · rw [if_pos hl] at h; simp at h
      · rw [if_neg hl] at h
        cases hs : spr f with
        | true => rw [hs] at h; simp at h
        | false => exact ⟨hk, hr, by omega, by omega, hs⟩
theorem Good.zero {f : T_frame_Frame} (h : Good f) {p : Nat} (h2 : 2 ≤ p) (h7 : p ≤ 7) (hp : p ∉ offsK f.Kind) : nv f p = 0 := by
  have hs := h.spr
  have hz : zr f p = true := by
    unfold Fn.spr at hs
    simp only [Bool.or_eq_false_iff, Bool.not_eq_false', Bool.and_eq_true] at hs
    obtain rfl | rfl | rfl | rfl | rfl | rfl : p = 2 ∨ p = 3 ∨ p = 4 ∨ p = 5 ∨ p = 6 ∨ p = 7 := by omega
    all_goals simp_all
  unfold zr at hz
  simpa [hp] using hz
theorem Good.nodata {f : T_frame_Frame} (h : Good f) (hk : f.Kind ≠ 0) : f.Data = [] := by
  have hs := h.spr
  unfold Fn.spr at hs
  simp only [Bool.or_eq_false_iff] at hs
  have := hs.1.1.2
  simpa [hk] using this
theorem Good.nopairs {f : T_frame_Frame} (h : Good f) (hk : f.Kind ≠ 4) : f.Pairs = [] := by
  have hs := h.spr
  unfold Fn.spr at hs
  simp only [Bool.or_eq_false_iff] at hs
  have := hs.1.2
  simpa [hk] using this
theorem inb_bounds {x a b : Int} (h : inb x a b = true) : a ≤ x ∧ x ≤ b := by unfold inb at h; simpa using h
theorem rngs_bounds {f : T_frame_Frame} {a b c : Int} (h : rngs f a b c = true) : (∀ p ∈ f.Pairs, pairOk p = true) ∧ (0 ≤ f.Stream ∧ f.Stream ≤ 1048576) ∧ (0 ≤ f.Offset ∧ f.Offset ≤ 1099511627776) ∧ (0 ≤ f.Dep ∧ f.Dep ≤ 1048576) ∧ (a ≤ f.N ∧ f.N ≤ b) ∧ 0 ≤ f.Code ∧ f.Code ≤ c := by
  unfold rngs at h
  simp only [Bool.and_eq_true, List.all_eq_true] at h
  exact ⟨h.1.1.1.1.1, inb_bounds h.1.1.1.1.2, inb_bounds h.1.1.1.2, inb_bounds h.1.1.2, inb_bounds h.1.2, inb_bounds h.2⟩
theorem Good.vals {f : T_frame_Frame} (h : Good f) : ∀ x ∈ vals f, ¬ vbad x := by
  have hr := h.rng
  have hR : (∀ p ∈ f.Pairs, pairOk p = true) ∧ (0 ≤ f.Stream ∧ f.Stream ≤ 1048576) ∧ (0 ≤ f.Offset ∧ f.Offset ≤ 1099511627776) ∧ (0 ≤ f.Dep ∧ f.Dep ≤ 1048576) ∧ (0 ≤ f.N ∧ f.N ≤ 1099511627776) ∧ (0 ≤ f.Code ∧ f.Code ≤ 255) ∧ (5 ∈ offsK f.Kind → 0 ≤ f.Weight ∧ f.Weight ≤ 256) := by
    unfold Fn.rng at hr
    by_cases h8 : f.Kind = 8
    · rw [if_pos h8] at hr
      have := rngs_bounds hr
      exact ⟨this.1, this.2.1, this.2.2.1, this.2.2.2.1, by omega, by omega, by rw [h8]; intro h5; exact absurd h5 (by decide)⟩
    · rw [if_neg h8] at hr
      by_cases h10 : f.Kind = 10
      · rw [if_pos h10] at hr
        have := rngs_bounds hr
        exact ⟨this.1, this.2.1, this.2.2.1, this.2.2.2.1, by omega, by omega, by rw [h10]; intro h5; exact absurd h5 (by decide)⟩
      · rw [if_neg h10] at hr
        by_cases h12 : f.Kind = 1 ∨ f.Kind = 2
        · rw [if_pos h12, Bool.and_eq_true] at hr
          have := rngs_bounds hr.2
          have hw := inb_bounds hr.1
          exact ⟨this.1, this.2.1, this.2.2.1, this.2.2.2.1, by omega, by omega, fun _ => by omega⟩
        · rw [if_neg h12] at hr
          have := rngs_bounds hr
          refine ⟨this.1, this.2.1, this.2.2.1, this.2.2.2.1, by omega, by omega, fun h5 => ?_⟩
          unfold offsK at h5
          rw [if_neg (c := f.Kind = 1) (fun e => h12 (.inl e)), if_neg (c := f.Kind = 2) (fun e => h12 (.inr e))] at h5
          revert h5
          (repeat' split) <;> intro h5 <;> exact absurd h5 (by decide)
  intro x hx
  unfold Fn.vals at hx
  rw [List.mem_append, List.mem_map] at hx
  rcases hx with ⟨o, ho, rfl⟩ | hx
  · have hb := (offs_bounds f.Kind).2 o ho
    unfold vbad
    obtain rfl | rfl | rfl | rfl | rfl | rfl : o = 2 ∨ o = 3 ∨ o = 4 ∨ o = 5 ∨ o = 6 ∨ o = 7 := by omega
    · simp only [nv]; simp; omega
    · simp only [nv]; simp; omega
    · simp only [nv]; simp; omega
    · have := hR.2.2.2.2.2.2 ho; simp only [nv]; simp; omega
    · simp only [nv]; simp; omega
    · simp only [nv]; simp; omega
  · unfold pl at hx
    rw [List.mem_flatMap] at hx
    obtain ⟨p, hp, hx⟩ := hx
    have := hR.1 p hp
    unfold pairOk at this
    rw [Bool.and_eq_true] at this
    have h1 := inb_bounds this.1
    have h2 := inb_bounds this.2
    unfold vbad
    simp at hx
    rcases hx with rfl | rfl <;> omega
theorem Good.pay {f : T_frame_Frame} (h : Good f) : pay f = ((offsK f.Kind).map (nv f)).flatMap vput ++ ((pl f.Pairs).flatMap vput ++ f.Data) := by
  unfold Fn.pay
  rw [vjoin_ok h.vals]
  unfold Fn.vals
  rw [List.flatMap_append, List.append_assoc]
theorem Good.pay_le {f : T_frame_Frame} (h : Good f) : (Fn.pay f).length ≤ 64 := by
  rw [h.pay]
  have h1 := flat_len_le ((offsK f.Kind).map (nv f))
  have h2 := flat_len_le (pl f.Pairs)
  rw [pl_len] at h2
  have h3 := (offs_bounds f.Kind).1
  rw [List.length_map] at h1
  simp only [List.length_append]
  have hd := h.data
  have hp := h.pairs
  by_cases h4 : f.Kind = 4
  · have e : offsK f.Kind = [] := by rw [h4]; rfl
    have hn := h.nodata (by omega)
    rw [e] at h1
    simp only [List.length_nil] at h1
    rw [hn]; simp only [List.length_nil]
    rw [e]; omega
  · have hn := h.nopairs h4
    rw [hn] at h2 ⊢
    simp only [List.length_nil] at h2
    omega
theorem Good.read {f : T_frame_Frame} (h : Good f) : readF (Fn.pay f) ⟨f.Kind, f.Flag, 0, 0, 0, 0, 0, 0, [], []⟩ = some f := by
  have hb := offs_bounds f.Kind
  obtain ⟨g, h1, h2, h3⟩ := rd_fwd (nv f) (offsK f.Kind) ((pl f.Pairs).flatMap vput ++ f.Data) ⟨f.Kind, f.Flag, 0, 0, 0, 0, 0, 0, [], []⟩
    (fun o ho => h.vals _ (by unfold Fn.vals; rw [List.mem_append, List.mem_map]; exact .inl ⟨o, ho, rfl⟩)) hb.2
  obtain ⟨_, k1, k2, k3, k4⟩ := rd_kept _ _ _ _ _ h1
  have hz : ∀ p, 2 ≤ p → p ≤ 7 → nv ⟨f.Kind, f.Flag, 0, 0, 0, 0, 0, 0, [], []⟩ p = 0 := by
    intro p h2 h7
    obtain rfl | rfl | rfl | rfl | rfl | rfl : p = 2 ∨ p = 3 ∨ p = 4 ∨ p = 5 ∨ p = 6 ∨ p = 7 := by omega
    all_goals rfl
  have hall : ∀ p, 2 ≤ p → p ≤ 7 → nv g p = nv f p := by
    intro p hp2 hp7
    by_cases hp : p ∈ offsK f.Kind
    · exact h2 p hp
    · rw [h3 p hp2 hp7 hp, h.zero hp2 hp7 hp, hz p hp2 hp7]
  unfold readF
  rw [h.pay]
  simp only
  rw [h1, Option.bind_some]
  unfold body
  simp only at k1 k2 k3 k4
  have hnv : ∀ (P : List T_api_Pair) (D : List UInt8) p, nv ⟨g.Kind, g.Flag, g.Stream, g.Offset, g.Dep, g.Weight, g.N, g.Code, P, D⟩ p = nv g p := fun _ _ _ => rfl
  by_cases h0 : f.Kind = 0
  · rw [if_pos (by rw [k3]; exact h0)]
    have hp := h.nopairs (by omega)
    rw [hp]
    congr 1
    refine frame_eqv (by simp only [k3]) (by simp only [k4]) (fun p a b => by rw [hnv, hall p a b]) (by simp only [k1]; rw [hp]) ?_
    simp [pl]
  · rw [if_neg (by rw [k3]; exact h0)]
    have hd := h.nodata h0
    rw [hd, List.append_nil]
    by_cases h4 : f.Kind = 4
    · rw [if_pos (by rw [k3]; exact h4)]
      have hv : vall ((pl f.Pairs).flatMap vput) = (pl f.Pairs, 0) := by
        unfold vall
        rw [vallF_flat _ _ _ (Nat.le_refl _) (fun x hx => h.vals x (by unfold Fn.vals; rw [List.mem_append]; exact .inr hx)), List.nil_append]
      have hl := pl_len f.Pairs
      unfold setS
      rw [hv, if_pos ⟨rfl, by simp only; omega⟩, Option.map_some]
      congr 1
      exact frame_eqv (by simp only [k3]) (by simp only [k4]) (fun p a b => by rw [hnv, hall p a b]) (by simp only [pairUp_pl]) (by simp only [k2]; rw [hd])
    · rw [if_neg (by rw [k3]; exact h4)]
      have hp := h.nopairs h4
      rw [hp]
      rw [if_pos (by simp [pl])]
      congr 1
      exact frame_eqv k3 k4 hall (by rw [k1, hp]) (by rw [k2, hd])
theorem Good.vpay {f : T_frame_Frame} (h : Good f) : ¬ vbad ((Fn.pay f).length : Int) := by have := h.pay_le; unfold vbad; omega
theorem flag_byte (b : Bool) : ((if b then 1 else 0 : UInt8).toNat : Int) = if b then 1 else 0 := by cases b <;> rfl
theorem get_back {f : T_frame_Frame} (hk0 : 0 ≤ f.Kind) (hk1 : f.Kind ≤ 255) (hc : chkF f = 0) (rest : List UInt8) : getF ((putF f).1 ++ rest) = (f, ((putF f).1.length : Int), 0) := by
  have h := chk_good hc
  have hl := h.pay_le
  have hv := vput_ne h.vpay
  unfold putF
  rw [if_pos hc]
  simp only [List.cons_append, List.nil_append, List.append_assoc]
  have hkk : (((UInt8.ofNat f.Kind.toNat).toNat : Nat) : Int) = f.Kind := by simp; omega
  rw [getF_two (by rw [hkk]; exact h.known), vget_vput h.vpay]
  simp only
  rw [if_neg (by cases f.Flag <;> decide), if_neg (by decide), if_neg (by omega), if_neg (by rw [← hv.2]; simp; omega), hkk, ← hv.2, Int.toNat_natCast, Int.toNat_natCast, List.drop_left, List.take_left]
  have hfl : decide (((if f.Flag = true then 1 else 0 : UInt8).toNat : Int) = 1) = f.Flag := by cases f.Flag <;> rfl
  rw [hfl, h.read]
  simp only [hc, if_true]
  congr 2
  simp; omega
theorem get_cut {f : T_frame_Frame} (hk0 : 0 ≤ f.Kind) (hk1 : f.Kind ≤ 255) (hc : chkF f = 0) : getF ((putF f).1.take ((putF f).1.length - 1)) = (zF, 0, 3) := by
  have h := chk_good hc
  have hl := h.pay_le
  have hv := vput_ne h.vpay
  unfold putF
  rw [if_pos hc]
  simp only [List.cons_append, List.nil_append, List.append_assoc, List.length_cons, List.length_append]
  have hkk : (((UInt8.ofNat f.Kind.toNat).toNat : Nat) : Int) = f.Kind := by simp; omega
  obtain ⟨q, hq⟩ : ∃ q, (vput ((Fn.pay f).length : Int)).length + (Fn.pay f).length + 1 + 1 - 1 = q + 1 + 1 := ⟨(vput ((Fn.pay f).length : Int)).length + (Fn.pay f).length - 1, by omega⟩
  rw [hq, List.take_succ_cons, List.take_succ_cons, getF_two (by rw [hkk]; exact h.known), if_neg (by cases f.Flag <;> decide)]
  by_cases hp : Fn.pay f = []
  · rw [hp]
    rw [hp] at hq
    have e : vput (([] : List UInt8).length : Int) = [0] := by decide
    rw [e] at hq ⊢
    simp only [List.length_cons, List.length_nil] at hq
    have : q = 0 := by omega
    subst this
    rfl
  · have hpos : 1 ≤ (Fn.pay f).length := by rcases hx : Fn.pay f with _ | ⟨a, l⟩; exact absurd hx hp; simp
    have hq2 : q = (vput ((Fn.pay f).length : Int)).length + ((Fn.pay f).length - 1) := by omega
    rw [hq2, List.take_append, List.take_of_length_le (by omega), Nat.add_sub_cancel_left, vget_vput h.vpay]
    simp only
    rw [if_neg (by decide), if_neg (by omega), if_pos (by rw [← hv.2]; simp; omega)]

theorem getF_cases (s : List UInt8) : (∃ c, c ≠ 0 ∧ getF s = (zF, 0, c)) ∨ ∃ k b t g, s = k :: b :: t ∧ ¬ 1 < b.toNat ∧ (vget t).2.2 = 0 ∧ ¬ (t.length : Int) - (vget t).2.1 < (vget t).1 ∧
    readF ((t.drop (vget t).2.1.toNat).take (vget t).1.toNat) ⟨k.toNat, decide ((b.toNat : Int) = 1), 0, 0, 0, 0, 0, 0, [], []⟩ = some g ∧ chkF g = 0 ∧ getF s = (g, 2 + (vget t).2.1 + (vget t).1, 0) := by
  match s with
  | [] => exact .inl ⟨3, by decide, rfl⟩
  | k :: r =>
    cases hk : knownK (k.toNat : Int) with
    | false => exact .inl ⟨12, by decide, getF_bad hk⟩
    | true =>
      match r with
      | [] => exact .inl ⟨3, by decide, getF_one hk⟩
      | b :: t =>
        rw [getF_two hk]
        by_cases hb : 1 < b.toNat
        · rw [if_pos hb]; exact .inl ⟨4, by decide, rfl⟩
        · rw [if_neg hb]
          by_cases hv : (vget t).2.2 = 0
          · rw [if_neg (fun h => h hv)]
            by_cases h64 : 64 < (vget t).1
            · rw [if_pos h64]; exact .inl ⟨5, by decide, rfl⟩
            · rw [if_neg h64]
              by_cases hl : (t.length : Int) - (vget t).2.1 < (vget t).1
              · rw [if_pos hl]; exact .inl ⟨3, by decide, rfl⟩
              · rw [if_neg hl]
                cases hR : readF ((t.drop (vget t).2.1.toNat).take (vget t).1.toNat) ⟨k.toNat, decide ((b.toNat : Int) = 1), 0, 0, 0, 0, 0, 0, [], []⟩ with
                | none => exact .inl ⟨4, by decide, rfl⟩
                | some g =>
                  by_cases hc : chkF g = 0
                  · refine .inr ⟨k, b, t, g, rfl, hb, hv, hl, hR, hc, ?_⟩
                    simp only [hc, if_true]
                  · refine .inl ⟨chkF g, hc, ?_⟩
                    simp only [hc, if_false]
          · rw [if_pos hv]; exact .inl ⟨_, hv, rfl⟩
theorem read_back {p : List UInt8} {g0 g : T_frame_Frame} (hp0 : g0.Pairs = []) (hd0 : g0.Data = []) (h : readF p g0 = some g) : pay g = p := by
  unfold readF at h
  cases hr : rd (offsK g0.Kind) p g0 with
  | none => rw [hr] at h; cases h
  | some q =>
    obtain ⟨t, z⟩ := q
    rw [hr] at h
    simp only [Option.bind_some] at h
    have hb := offs_bounds g0.Kind
    obtain ⟨h1, h2, h3⟩ := rd_bwd _ _ _ _ _ (offs_nodup g0.Kind) hb.2 hr
    obtain ⟨_, k1, k2, k3, k4⟩ := rd_kept _ _ _ _ _ hr
    have key : ∀ (l : List Int) (P : List T_api_Pair) (D : List UInt8), pl P = l → (∀ x ∈ l, ¬ vbad x) → t = l.flatMap vput ++ D → pay ⟨z.Kind, z.Flag, z.Stream, z.Offset, z.Dep, z.Weight, z.N, z.Code, P, D⟩ = p := by
      intro l P D e hl ht
      unfold pay vals
      simp only
      have hnv : nv ⟨z.Kind, z.Flag, z.Stream, z.Offset, z.Dep, z.Weight, z.N, z.Code, P, D⟩ = nv z := rfl
      rw [hnv, k3, e, vjoin_ok, List.flatMap_append, List.append_assoc, ← ht, ← h1]
      intro x hx
      rw [List.mem_append, List.mem_map] at hx
      rcases hx with ⟨o, ho, rfl⟩ | hx
      · exact h2 o ho
      · exact hl x hx
    unfold body at h
    split at h
    · simp only [Option.some.injEq] at h; subst h
      exact key [] z.Pairs t (by rw [k1, hp0]; rfl) (by simp) (by simp)
    · split at h
      · cases hs : setS t with
        | none => rw [hs] at h; cases h
        | some P =>
          rw [hs] at h; simp only [Option.map_some, Option.some.injEq] at h; subst h
          unfold setS at hs
          split at hs
          · rename_i hv
            simp only [Option.some.injEq] at hs; subst hs
            obtain ⟨l, e1, e2, e3⟩ := vallF_back t.length t [] (Nat.le_refl _) hv.1
            have e4 : (vall t).1 = l := by unfold vall; rw [e1, List.nil_append]
            refine key l _ _ ?_ e3 (by rw [k2, hd0, List.append_nil]; exact e2)
            rw [e4] at hv ⊢
            exact pl_pairUp l hv.2
          · cases hs
      · split at h
        · rename_i ht
          simp only [Option.some.injEq] at h; subst h
          exact key [] z.Pairs z.Data (by rw [k1, hp0]; rfl) (by simp) (by rw [k2, hd0]; simpa using ht)
        · cases h
theorem get_again {s : List UInt8} (h : (getF s).2.2 = 0) : chkF (getF s).1 = 0 ∧ 0 < (getF s).2.1 ∧ (getF s).2.1 ≤ s.length ∧ putF (getF s).1 = (s.take (getF s).2.1.toNat, 0) ∧ 0 ≤ (getF s).1.Kind ∧ (getF s).1.Kind ≤ 255 := by
  rcases getF_cases s with ⟨c, hc, e⟩ | ⟨k, b, t, g, rfl, hb, hv, hl, hR, hc, e⟩
  · rw [e] at h; exact absurd h hc
  · rw [e]
    have h3 := vget_size hv
    have h4 := vget_nonneg (s := t)
    have hkk := (readF_len hR).2.2
    have hp := read_back rfl rfl hR
    have hbt := k.toNat_lt
    simp only at hkk ⊢
    have hk2 : g.Kind = (k.toNat : Int) := hkk.1
    refine ⟨hc, by omega, by simp; omega, ?_, by omega, by omega⟩
    unfold putF
    rw [if_pos hc, hp]
    have hlen : (((t.drop (vget t).2.1.toNat).take (vget t).1.toNat).length : Int) = (vget t).1 := by rw [List.length_take, List.length_drop]; omega
    have hpv := vput_vget hv
    have e2 : (2 + (vget t).2.1 + (vget t).1).toNat = ((vget t).2.1.toNat + (vget t).1.toNat) + 1 + 1 := by omega
    have hfb : (if g.Flag = true then 1 else 0 : UInt8) = b := by
      rw [hkk.2]
      have hbn : b.toNat = 0 ∨ b.toNat = 1 := by omega
      rcases hbn with hbn | hbn
      · have : b = 0 := UInt8.toNat_inj.1 hbn
        subst this; rfl
      · have : b = 1 := UInt8.toNat_inj.1 hbn
        subst this; rfl
    have hkb : UInt8.ofNat g.Kind.toNat = k := by rw [hk2, Int.toNat_natCast]; simp
    rw [hlen, hpv.2, hfb, hkb, e2, List.take_succ_cons, List.take_succ_cons]
    congr 1
    simp only [List.cons_append, List.nil_append, List.append_assoc]
    congr 2
    rw [List.take_add]

theorem frameBack {f : T_frame_Frame} {r : List UInt8} (hf : 0 ≤ f.Kind ∧ f.Kind ≤ 255) : sennitlaw15_FrameBack f r = some true := by
  unfold sennitlaw15_FrameBack
  rw [light_is, bno_s]
  simp only [bnd_d, awake15, bno_s]
  cases h1 : (decide ((f.Pairs.length : Int) ≤ 10) && decide ((f.Data.length : Int) ≤ 100)) with
  | false => rfl
  | true =>
    have l1 := light_lite h1
    by_cases h40 : 40 < (r.length : Int)
    · rw [decide_eq_true h40]; rfl
    · rw [decide_eq_false h40]
      simp only [Bool.not_true, Bool.or_false, cond_false]
      have e1 := put_F hf.1 hf.2 l1
      have e3 := check_is (f := f) (by have := l1.1; omega)
      have e7 : frame_Size f = some ((putF f).1.length : Int) := by unfold frame_Size; rw [e1]; rfl
      rw [e1, bno_s, e3, bno_s, e7]
      by_cases hc : chkF f = 0
      · have hg := chk_good hc
        have hpl := hg.pay_le
        have hv := vput_ne hg.vpay
        have hlen : (putF f).1.length = 2 + (vput ((pay f).length : Int)).length + (pay f).length := by unfold putF; rw [if_pos hc]; simp; omega
        have hv2 : (vput ((pay f).length : Int)).length ≤ 2 := by
          have : vsize ((pay f).length : Int) ≤ 2 := by unfold vsize vbad; (repeat' split) <;> omega
          omega
        have h2 : (putF f).2 = 0 := by unfold putF; rw [if_pos hc]
        have hne : (putF f).1 ≠ [] := by intro e; rw [e] at hlen; simp at hlen; omega
        rw [decide_eq_true hc, Bool.not_true, cond_false, cat_ok (by omega), bno_s, get_F (by rw [List.length_append]; omega), bno_s, get_back hf.1 hf.2 hc, h2, decide_eq_false hne]
        simp only [show decide ((0 : Int) = 0) = true from rfl, Bool.not_true, Bool.or_false, cond_false]
        rw [w64 (by omega) (by omega), cut_of (by omega) (by omega), bno_s, get_F (by rw [List.length_take]; omega), bno_s, show ((putF f).1.length - 1 : Int).toNat = (putF f).1.length - 1 from by omega, get_cut hf.1 hf.2 hc]
        have e5 := same_is (a := f) (b := f) (by have := l1.1; omega) (by have := l1.1; omega)
        have h68 : decide (((putF f).1.length : Int) ≤ 68) = true := decide_eq_true (by omega)
        simp [gd, bno_s, e5, h68]
      · have h2 : putF f = ([], chkF f) := by unfold putF; rw [if_neg hc]
        rw [h2]
        simp [gd, bno_s, hc, e3]
theorem frameAgain {s : List UInt8} : sennitlaw15_FrameAgain s = some true := by
  unfold sennitlaw15_FrameAgain
  simp only [bnd_d, awake15, bno_s]
  by_cases h : 120 < (s.length : Int)
  · rw [decide_eq_true h]; rfl
  · have hp := getF_pairs s
    rw [decide_eq_false h, cond_false, get_F (by omega), bno_s]
    have e5 := same_is (a := (getF s).1) (b := zF) (by omega) (by simp [zF])
    by_cases hz : (getF s).2.2 = 0
    · obtain ⟨h1, h2, h3, h4, h5, h6⟩ := get_again hz
      have e1 := put_F h5 h6 (f := (getF s).1) ⟨by omega, by omega⟩
      have e3 := check_is (f := (getF s).1) (by omega)
      rw [e1, bno_s, h4, decide_eq_true hz, decide_eq_true h2, decide_eq_true h3, cut_of (by omega) h3, e3, h1]
      simp [gd, bno_s]
    · rcases getF_cases s with ⟨c, hc, e⟩ | ⟨k, b, t, g, rfl, hb, hv, hl, hR, hc, e⟩
      · rw [e] at e5 ⊢
        have e5' : frame_Same zF ⟨0, false, 0, 0, 0, 0, 0, 0, [], []⟩ = some true := by
          have e6 : frame_Same zF zF = some true := by rw [e5]; simp
          exact e6
        simp [gd, bno_s, hc, e5']
      · rw [e] at hz; exact absurd rfl hz
theorem frameUnlike {f g : T_frame_Frame} (hf : 0 ≤ f.Kind ∧ f.Kind ≤ 255) (hg : 0 ≤ g.Kind ∧ g.Kind ≤ 255) : sennitlaw15_FrameUnlike f g = some true := by
  unfold sennitlaw15_FrameUnlike
  rw [light_is, light_is, bno_s]
  simp only [bnd_d, awake15, bno_s]
  cases h1 : (decide ((f.Pairs.length : Int) ≤ 10) && decide ((f.Data.length : Int) ≤ 100)) with
  | false => simp [gd, bno_s]
  | true =>
    cases h2 : (decide ((g.Pairs.length : Int) ≤ 10) && decide ((g.Data.length : Int) ≤ 100)) with
    | false => simp [gd, bno_s]
    | true =>
      have l1 := light_lite h1
      have l2 := light_lite h2
      have e1 := put_F hf.1 hf.2 l1
      have e2 := put_F hg.1 hg.2 l2
      have e3 := check_is (f := f) (by have := l1.1; omega)
      have e4 := check_is (f := g) (by have := l2.1; omega)
      have e5 := same_is (a := f) (b := g) (by have := l1.1; omega) (by have := l2.1; omega)
      have e7 : frame_Size f = some ((putF f).1.length : Int) := by unfold frame_Size; rw [e1]; rfl
      have p2 : ∀ x : T_frame_Frame, (putF x).2 = chkF x := fun x => by unfold putF; by_cases hc : chkF x = 0; rw [if_pos hc, hc]; rw [if_neg hc]
      simp only [Bool.not_true, show (false == false) = true from rfl, gd_tt, bno_s, Bool.or_false, cond_false]
      rw [e1, bno_s, e2, bno_s, p2, p2, e3, bno_s, e4, e5, e7]
      by_cases c1 : chkF f = 0
      · by_cases c2 : chkF g = 0
        · rw [c1, c2]
          simp only [show decide ((0 : Int) = 0) = true from rfl, Bool.not_true, Bool.or_false, cond_false]
          have b1 := fun r => get_back hf.1 hf.2 c1 r
          have b2 := fun r => get_back hg.1 hg.2 c2 r
          have hinj : decide ((putF f).1 = (putF g).1) = decide (f = g) := by
            rw [decide_eq_decide]
            refine ⟨fun h => ?_, fun h => by rw [h]⟩
            have := b1 []
            rw [h, b2 []] at this
            simp only [Prod.mk.injEq] at this
            exact this.1.symm
          rw [hinj]
          by_cases hl : ((putF f).1.length : Int) ≤ ((putF g).1.length : Int)
          · rw [decide_eq_true hl, show (true == true) = true from rfl, gd_tt, cut_of (by omega) hl, bno_s, Int.toNat_natCast]
            have hpre : decide ((putF g).1.take (putF f).1.length = (putF f).1) = decide (f = g) := by
              rw [decide_eq_decide]
              constructor
              · intro h
                have h3 := b2 []
                rw [List.append_nil, ← List.take_append_drop (putF f).1.length (putF g).1, h, b1] at h3
                simp only [Prod.mk.injEq] at h3
                exact h3.1
              · rintro rfl; rw [List.take_of_length_le (Nat.le_refl _)]
            rw [hpre]
            simp [gd, bno_s]
          · rw [decide_eq_false hl]
            have hne : decide (f = g) = false := by
              rw [decide_eq_false_iff_not]; rintro rfl; exact hl (Int.le_refl _)
            rw [hne]
            simp [gd, bno_s]
        · simp [gd, bno_s, c1, c2]
      · simp [gd, bno_s, c1]
end Go.Fn
