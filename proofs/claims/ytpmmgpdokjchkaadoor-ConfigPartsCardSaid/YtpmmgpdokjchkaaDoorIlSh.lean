/-
  A part of the proof: rules and plain facts. No condition.
-/
import Derived.Test.YtpmmgpdokjchkaaDoorIlP100
set_option linter.all false
set_option linter.unusedSimpArgs false
set_option linter.unusedVariables false
open Go Go.IL
namespace Go.Fn
/-! strings.Split at one byte: what is joined is parted. -/
def joinL (c : UInt8) : List (List UInt8) → List UInt8
  | [] => []
  | [w] => w
  | w :: v :: ws => w ++ c :: joinL c (v :: ws)
theorem joinL_cons {c : UInt8} {w : List UInt8} {ws : List (List UInt8)} (h : ws ≠ []) : joinL c (w :: ws) = w ++ c :: joinL c ws := by
  cases ws with
  | nil => exact absurd rfl h
  | cons v ws => rfl
theorem u8_int (c : UInt8) : ((c.toNat : Int)).toNat.toUInt8 = c := by
  rw [Int.toNat_natCast]; exact UInt8.ofNat_toNat
theorem ib_yes : ∀ {w r : List UInt8} {c : UInt8}, c ∉ w → Lib.indexByte (w ++ c :: r) c = (w.length : Int)
  | [], r, c, _ => by
    show Lib.indexByte (c :: r) c = 0
    unfold Lib.indexByte
    rw [if_pos (by simp)]
  | b :: w, r, c, h => by
    have h1 : b ≠ c := fun e => h (by simp [e])
    have h2 := ib_yes (w := w) (r := r) (c := c) (fun hh => h (by simp [hh]))
    show Lib.indexByte (b :: (w ++ c :: r)) c = _
    unfold Lib.indexByte
    rw [if_neg (by simpa using h1), h2, if_neg (by simp; try omega)]
    simp only [List.length_cons]; omega
theorem idx_yes {w r : List UInt8} {c : UInt8} (h : c ∉ w) : idxB (w ++ c :: r) (c.toNat : Int) = (w.length : Int) := by unfold idxB; rw [u8_int, ib_yes h]
theorem count_join {c : UInt8} : ∀ {ws : List (List UInt8)}, ws ≠ [] → (∀ w ∈ ws, c ∉ w) → (joinL c ws).count c + 1 = ws.length
  | [], h, _ => absurd rfl h
  | [w], _, h => by
    show w.count c + 1 = 1
    rw [List.count_eq_zero.2 (h w (by simp))]
  | w :: v :: ws, _, h => by
    have := count_join (ws := v :: ws) (by simp) (fun x hx => h x (by simp [hx]))
    rw [joinL_cons (by simp), List.count_append, List.count_eq_zero.2 (h w (by simp)), List.count_cons_self]
    simp only [List.length_cons] at this ⊢
    omega
theorem sidx_yes {w r : List UInt8} {c : UInt8} (h : c ∉ w) : strings_Index (w ++ c :: r) [c] = some (w.length : Int) := by
  unfold strings_Index internal_stringslite_Index internal_stringslite_IndexByte
  simp only [bndD, List.length_singleton, show decide (((1 : Nat) : Int) = 0) = false from rfl, show decide (((1 : Nat) : Int) = 1) = true from rfl, Bool.false_or]
  by_cases e : [c] = w ++ c :: r
  · rw [decide_eq_true e, bif_tt, bnoS]
    have := congrArg List.length e
    simp at this
    rw [show w.length = 0 by omega]; rfl
  · rw [decide_eq_false e, bif_ff, bif_tt, show gix [c] 0 = some c from rfl]
    simp only [bnoS, idx_yes h]
theorem split_end {v : List (List UInt8)} {w : List UInt8} {done : List (List UInt8)} (hd : done.length ≤ 1000000) : strings_genSplit_J2 w (done ++ [v.headD []]) (done.length : Int) = some (done ++ [w]) := by
  unfold strings_genSplit_J2
  have hl : (done ++ [v.headD []]) = done ++ (v.headD []) :: [] := rfl
  have hg : (done ++ [v.headD []])[((done.length : Nat) : Int).toNat]? = some (v.headD []) := by rw [Int.toNat_natCast]; exact get_at0
  rw [gix_at hl, bnoS, hg, bnoS, bndD, bndD, Int.toNat_natCast, w64 (by omega) (by omega)]
  have hs : (done ++ [v.headD []]).set done.length w = done ++ [w] := by rw [List.set_append_right _ _ (Nat.le_refl _)]; simp
  rw [hs, cut_of (by omega) (by simp), bnoS]
  have : ((done.length : Int) + 1).toNat = (done ++ [w]).length := by simp
  rw [this, List.take_length]
where
  get_at0 {α : Type} {p : List α} {x : α} : (p ++ [x])[p.length]? = some x := by simp
theorem split_L {c : UInt8} {N : Nat} (hN : N ≤ 1000000) : ∀ (rest done : List (List UInt8)) (f : Nat), rest ≠ [] → (∀ w ∈ rest, c ∉ w) → done.length + rest.length = N → (joinL c rest).length ≤ 1000000 → rest.length < f →
    strings_genSplit_L3 [c] 0 ((N : Int) - 1) f (joinL c rest) (done ++ List.replicate rest.length []) (done.length : Int) = some (done ++ rest)
  | [], _, _, h, _, _, _, _ => absurd rfl h
  | [w], done, f + 1, _, hc, hn, hl, _ => by
    simp only [List.length_singleton] at hn
    rw [strings_genSplit_L3]
    simp only [bndD]
    rw [decide_eq_false (by omega), bif_ff]
    exact split_end (v := []) (by omega)
  | w :: v :: ws, done, f + 1, _, hc, hn, hl, hf => by
    have hcw : c ∉ w := hc w (by simp)
    have hj : joinL c (w :: v :: ws) = w ++ c :: joinL c (v :: ws) := rfl
    simp only [List.length_cons] at hn hf
    have hlw : w.length + ((joinL c (v :: ws)).length + 1) ≤ 1000000 := by rw [hj] at hl; simpa using hl
    have hrec := split_L hN (v :: ws) (done ++ [w]) f (by simp) (fun x hx => hc x (by simp [hx])) (by simp; omega) (by omega) (by simp; omega)
    rw [strings_genSplit_L3]
    simp only [bndD]
    rw [decide_eq_true (by omega), bif_tt, hj, sidx_yes hcw, bnoS, decide_eq_false (by omega), bif_ff, w64 (by omega) (by omega), Int.add_zero]
    rw [cut_at (p := w) (r := c :: joinL c (v :: ws)) rfl, bnoS]
    have hl2 : (done ++ List.replicate (w :: v :: ws).length ([] : List UInt8)) = done ++ [] :: List.replicate (v :: ws).length [] := rfl
    have hg : (done ++ List.replicate (w :: v :: ws).length ([] : List UInt8))[((done.length : Nat) : Int).toNat]? = some [] := by
      rw [Int.toNat_natCast, hl2, List.getElem?_append_right (Nat.le_refl _)]; simp
    rw [gix_at hl2, bnoS, hg, bnoS]
    have hs : (done ++ List.replicate (w :: v :: ws).length ([] : List UInt8)).set (((done.length : Nat) : Int).toNat) w = (done ++ [w]) ++ List.replicate (v :: ws).length [] := by
      rw [Int.toNat_natCast, hl2, List.set_append_right _ _ (Nat.le_refl _)]; simp
    rw [hs, w64 (by simp; omega) (by simp; omega), show ((w.length : Int) + ((([c] : List UInt8).length : Nat) : Int)) = ((w ++ [c]).length : Int) by simp,
      cut_from (p := w ++ [c]) (r := joinL c (v :: ws)) (by simp), bnoS, w64 (by omega) (by omega)]
    rw [show ((done.length : Int) + 1) = ((done ++ [w]).length : Int) by simp]
    rw [hrec, List.append_assoc]; rfl
theorem split35 {c : UInt8} {ws : List (List UInt8)} (h0 : ws ≠ []) (hc : ∀ w ∈ ws, c ∉ w) (hl : (joinL c ws).length ≤ 900000) : strings_Split (joinL c ws) [c] = some ws := by
  have hcnt := count_join h0 hc
  have hcl : (joinL c ws).count c ≤ (joinL c ws).length := List.count_le_length
  have hw : 0 < ws.length := List.length_pos_iff.2 h0
  have hL := split_L (N := ws.length) (by omega) ws [] fuel h0 hc (by simp) (by omega) (fuel_gt (by omega))
  unfold strings_Split strings_genSplit
  rw [bndD, show decide ((-1 : Int) = 0) = false from rfl, bif_ff, bndD, decide_eq_false (by simp), bif_ff, bndD, show decide ((-1 : Int) < 0) = true from rfl, bif_tt]
  have hC : strings_Count (joinL c ws) [c] = some ((ws.length : Int) - 1) := by
    unfold strings_Count
    rw [bndD, List.length_singleton, show decide (((1 : Nat) : Int) = 0) = false from rfl, bif_ff, bndD, show decide (((1 : Nat) : Int) = 1) = true from rfl, bif_tt, show gix [c] 0 = some c from rfl, bnoS, bndD]
    unfold cntB Lib.countByte
    rw [u8_int]
    congr 1; omega
  rw [hC, bnoS, bndD, w64 (by omega) (by omega)]
  unfold strings_genSplit_J0
  rw [bndD, bndD, w64 (by omega) (by omega), show min ((ws.length : Int) - 1 + 1) (((joinL c ws).length : Int) + 1) = (ws.length : Int) by omega, made_ok (by omega) (by omega) (by omega), bnoS, bndD, w64 (by omega) (by omega), Int.toNat_natCast]
  have hL : strings_genSplit_L3 [c] 0 ((ws.length : Int) - 1) fuel (joinL c ws) (List.replicate ws.length []) 0 = some ws := hL
  rw [hL, bnoS]
end Go.Fn
set_option linter.unusedSimpArgs false
set_option linter.unusedVariables false
open Go Go.IL
namespace Go.Fn
/-! Config: numbers, lines, Parse of what was printed. -/
theorem num_L {s : List UInt8} (hs : s.length ≤ 10) (hd : ∀ b ∈ s, isDig b) : ∀ (r p : List UInt8) (f : Nat), s = p ++ r → r.length < f → valS p < 10 ^ p.length → config_number_L0 s f (valS p : Int) (p.length : Int) = some ((valS s : Int), true)
  | [], p, f + 1, h, _, _ => by
    rw [List.append_nil] at h
    rw [config_number_L0]
    simp only [bndD, h, lt_len, bif_ff]
  | b :: r, p, f + 1, h, hf, hv => by
    have hb := hd b (by rw [h]; simp)
    obtain ⟨b0, b1⟩ := hb
    have hpl : p.length + 1 ≤ 10 := by rw [h] at hs; simp at hs; omega
    have hp10 : 10 ^ p.length ≤ 10 ^ 9 := Nat.pow_le_pow_right (by decide) (by omega)
    have hp9 : 10 ^ 9 = 1000000000 := by decide
    have e1 : IntKind.wrap .u8 ((b.toNat : Int) - 48) = (b.toNat : Int) - 48 := by rw [IntKind.wrap_u8, Int.emod_eq_of_lt (by omega) (by omega)]
    have hvs : (valS (p ++ [b]) : Int) = 10 * (valS p : Int) + ((b.toNat : Int) - 48) := by rw [valS_app]; omega
    have hrec := num_L hs hd r (p ++ [b]) f (next_at h) (by simpa using hf) (by
      rw [List.length_append, List.length_singleton, Nat.pow_succ, valS_app]; omega)
    rw [config_number_L0]
    simp only [bndD, lt_at h, bif_tt, gix_at h, bnoS, decide_eq_false (show ¬ (b.toNat : Int) < 48 by omega), decide_eq_false (show ¬ (57 : Int) < (b.toNat : Int) by omega), Bool.or_self, bif_ff, e1, w64 (show -9223372036854775808 ≤ 10 * (valS p : Int) by omega) (by omega), w64 (show -9223372036854775808 ≤ (b.toNat : Int) - 48 by omega) (by omega), w_at h (show s.length ≤ 1000000 by omega)]
    rw [w64 (by omega) (by omega), ← hvs]
    exact hrec
theorem number35 {n : Int} (h0 : 0 ≤ n) (h1 : n ≤ 4294967295) : config_number (itoaF n) = some (n, true) := by
  have hp : 10 ^ (9 + 1) = 10000000000 := by decide
  have hb : n.toNat < 10 ^ (9 + 1) := by rw [hp]; omega
  have hlen := decF_len 9 n.toNat
  have hne := decF_ne 9 n.toNat
  rw [itoaF_of h0 9 hb (by decide)]
  have hL := num_L (s := decF 9 n.toNat) (by omega) (decF_dig 9 n.toNat hb) (decF 9 n.toNat) [] fuel rfl (fuel_gt (by omega)) (by decide)
  rw [decF_val 9 n.toNat hb, show ((n.toNat : Nat) : Int) = n by omega] at hL
  unfold config_number
  simp only [bndD, decide_eq_false hne, decide_eq_false (show ¬ (10 : Int) < ((decF 9 n.toNat).length : Int) by omega), Bool.or_self]
  by_cases hl : 1 < (decF 9 n.toNat).length
  · have hn : 0 < n.toNat := by
      refine Nat.pos_of_ne_zero fun e => ?_
      rw [e, decF_one (by decide)] at hl
      simp at hl
    have hh := decF_head 9 n.toNat hn hb
    obtain ⟨x, r, hx⟩ : ∃ x r, decF 9 n.toNat = x :: r := by
      cases hd : decF 9 n.toNat with
      | nil => exact absurd hd hne
      | cons x r => exact ⟨x, r, rfl⟩
    have hg : gix (decF 9 n.toNat) 0 = some x := by rw [hx]; rfl
    have hx48 : ¬ (x.toNat : Int) = 48 := fun e => hh (by
      rw [hx]
      show some x = some 48
      congr 1
      exact UInt8.toNat_inj.1 (by show x.toNat = 48; omega))
    simp only [decide_eq_true (show (1 : Int) < ((decF 9 n.toNat).length : Int) by omega), beq_self_eq_true, Bool.and_self, gdtt, hg, bnoS, decide_eq_false hx48, Bool.and_false, Bool.or_self, bif_ff]
    exact hL
  · simp only [decide_eq_false (show ¬ (1 : Int) < ((decF 9 n.toNat).length : Int) by omega), ft, Bool.and_false, gdff, bnoS, Bool.false_and, Bool.or_self, bif_ff]
    exact hL
theorem nums_L {l : List Int} (hl : l.length ≤ 10) (hr : ∀ n ∈ l, 0 ≤ n ∧ n ≤ 4294967295) (many : Int) : ∀ (r p : List Int) (f : Nat), l = p ++ r → r.length < f → config_numbers_L0 (l.map itoaF) many f p (p.length : Int) = some (l, decide ((l.length : Int) = many))
  | [], p, f + 1, h, _ => by
    rw [List.append_nil] at h
    rw [config_numbers_L0]
    have : decide ((p.length : Int) < ((p.map itoaF).length : Int)) = false := by rw [List.length_map]; exact lt_len
    simp only [bndD, h, this, bif_ff]
  | n :: r, p, f + 1, h, hf => by
    have hm : l.map itoaF = p.map itoaF ++ itoaF n :: r.map itoaF := by rw [h]; simp
    have hp : p.length ≤ 10 := by rw [h] at hl; simp at hl; omega
    have hrec := nums_L hl hr many r (p ++ [n]) f (next_at h) (by simpa using hf)
    have hn := hr n (by rw [h]; simp)
    have h1 := lt_at hm
    have h2 := gix_at hm
    have h3 := w_at hm (by rw [List.length_map]; omega)
    rw [List.length_map] at h1 h2 h3
    rw [show (p.map itoaF ++ [itoaF n]).length = (p ++ [n]).length by simp] at h3
    rw [config_numbers_L0]
    simp only [bndD, h1, bif_tt, h2, bnoS, number35 hn.1 hn.2, Bool.not_true, bif_ff, app_ok (b := 8) (l := p) (m := [n]) (by simp; omega) (by simp; omega), h3]
    exact hrec
theorem nums35 {l : List Int} (hl : l.length ≤ 10) (hr : ∀ n ∈ l, 0 ≤ n ∧ n ≤ 4294967295) (many : Int) : config_numbers (l.map itoaF) many = some (l, decide ((l.length : Int) = many)) := nums_L hl hr many l [] fuel rfl (fuel_gt (by omega))
theorem words_of (key : List UInt8) : ∀ l : List Int, key ++ numsS l = joinL 32 (key :: l.map itoaF)
  | [] => by simp [numsS, joinL]
  | n :: l => by
    have := words_of (itoaF n) l
    rw [List.map_cons, joinL_cons (by simp), ← this]
    simp [numsS]
theorem itoa_free {n : Int} (h : 0 ≤ n ∧ n ≤ 4294967295) {b : UInt8} (hb : b.toNat < 48) : b ∉ itoaF n := fun hm => by
  have := (itoaF_dig h.1 (by omega) b hm).1; omega
theorem split_line {key : List UInt8} (hk : (32 : UInt8) ∉ key) (hkl : key.length ≤ 100) {l : List Int} (hl : l.length ≤ 10) (hr : ∀ n ∈ l, 0 ≤ n ∧ n ≤ 4294967295) : strings_Split (key ++ numsS l) [32] = some (key :: l.map itoaF) := by
  have hn := numsS_len l
  rw [words_of]
  refine split35 (by simp) (fun w hw => ?_) (by rw [← words_of, List.length_append]; omega)
  rcases List.mem_cons.1 hw with e | hw
  · rw [e]; exact hk
  · obtain ⟨n, hn, rfl⟩ := List.mem_map.1 hw
    exact itoa_free (hr n hn) (by decide)
abbrev Rd35 := T_config_reader
theorem cut_one35 {w : List UInt8} {ws : List (List UInt8)} : cut (w :: ws) 1 ((w :: ws).length : Int) = some ws := cut_from (p := [w]) (r := ws) rfl
theorem take_path {R : Rd35} {n : Int} (h : 0 ≤ n ∧ n ≤ 4294967295) (hs : R.seen.c0 = false) : config_reader_take_h (kP ++ numsS [n]) R = some (0, ⟨⟨n, R.Config.Values, R.Config.First⟩, ⟨true, R.seen.c1, R.seen.c2, R.seen.c3, R.seen.c4⟩⟩) := by
  have hr : ∀ m ∈ [n], 0 ≤ m ∧ m ≤ 4294967295 := fun m hm => by rw [List.mem_singleton.1 hm]; exact h
  have hsp := split_line (key := kP) (by decide) (by decide) (l := [n]) (by simp) hr
  have hnu := nums35 (l := [n]) (by simp) hr 1
  unfold config_reader_take_h
  rw [hsp, bnoS, show gix (kP :: [n].map itoaF) 0 = some kP from rfl, bnoS, bndD, show decide (kP = ([112, 97, 116, 104, 115] : List UInt8)) = true from rfl, bif_tt]
  unfold config_reader_take_h_J0
  rw [cut_one35, bnoS, hnu, bnoS]
  simp only [bndD, List.length_singleton, show decide (((1 : Nat) : Int) = 1) = true from rfl, Bool.not_true, show decide ((1 : Int) < 1) = false from rfl, Bool.and_self, ft, Bool.and_false, Bool.false_and, gdff, bnoS, show decide ((1 : Int) = 2) = false from rfl, Bool.or_self, bif_ff, show decide ((1 : Int) = 5) = false from rfl]
  unfold config_reader_take_h_J1
  rw [chk_t (by decide), show gix [R.seen.c0, R.seen.c1, R.seen.c2, R.seen.c3, R.seen.c4] 0 = some R.seen.c0 from rfl, bnoS, hs, bif_ff, chk_t (by decide)]
  rfl
theorem take_val0 {R : Rd35} {v : Vl} (h : okV v) (hs : R.seen.c1 = false) : config_reader_take_h (kV ++ numsS [0, v.Streams, v.Window, v.Whole, v.Chunk]) R = some (0, ⟨⟨R.Config.Paths, ⟨v, R.Config.Values.c1⟩, R.Config.First⟩, ⟨R.seen.c0, true, R.seen.c2, R.seen.c3, R.seen.c4⟩⟩) := by
  have hr : ∀ m ∈ [0, v.Streams, v.Window, v.Whole, v.Chunk], 0 ≤ m ∧ m ≤ 4294967295 := fun m hm => by
    obtain ⟨h1, h2, h3, h4⟩ := h
    simp only [List.mem_cons, List.mem_nil_iff, or_false] at hm
    rcases hm with e | e | e | e | e <;> subst e <;> omega
  have hsp := split_line (key := kV) (by decide) (by decide) (l := [0, v.Streams, v.Window, v.Whole, v.Chunk]) (by simp) hr
  have hnu := nums35 (l := [0, v.Streams, v.Window, v.Whole, v.Chunk]) (by simp) hr 5
  unfold config_reader_take_h
  rw [hsp, bnoS, show gix (kV :: [0, v.Streams, v.Window, v.Whole, v.Chunk].map itoaF) 0 = some kV from rfl, bnoS, bndD, show decide (kV = ([112, 97, 116, 104, 115] : List UInt8)) = false from rfl, bif_ff, bndD, show decide (kV = ([102, 105, 114, 115, 116] : List UInt8)) = false from rfl, bif_ff, bndD, show decide (kV = ([118, 97, 108, 117, 101, 115] : List UInt8)) = true from rfl, bif_tt]
  unfold config_reader_take_h_J0
  rw [cut_one35, bnoS, hnu, bnoS]
  simp only [bndD, show decide (((([0, v.Streams, v.Window, v.Whole, v.Chunk] : List Int).length : Nat) : Int) = 5) = true from rfl, Bool.not_true, show decide ((1 : Int) < 5) = true from rfl, beq_self_eq_true, Bool.and_self, gdtt, show gix [0, v.Streams, v.Window, v.Whole, v.Chunk] 0 = some 0 from rfl, bnoS, show decide ((1 : Int) < 0) = false from rfl, Bool.and_false, Bool.or_self, show decide ((5 : Int) = 2) = false from rfl, ft, gdff, Bool.false_and, bif_ff, show decide ((5 : Int) = 5) = true from rfl, bif_tt, show IntKind.wrap .i64 ((1 : Int) + 0) = 1 from rfl]
  unfold config_reader_take_h_J1
  rw [chk_t (by decide), show gix [R.seen.c0, R.seen.c1, R.seen.c2, R.seen.c3, R.seen.c4] 1 = some R.seen.c1 from rfl, bnoS, hs, bif_ff, chk_t (by decide)]
  rfl
theorem take_val1 {R : Rd35} {v : Vl} (h : okV v) (hs : R.seen.c2 = false) : config_reader_take_h (kV ++ numsS [1, v.Streams, v.Window, v.Whole, v.Chunk]) R = some (0, ⟨⟨R.Config.Paths, ⟨R.Config.Values.c0, v⟩, R.Config.First⟩, ⟨R.seen.c0, R.seen.c1, true, R.seen.c3, R.seen.c4⟩⟩) := by
  have hr : ∀ m ∈ [1, v.Streams, v.Window, v.Whole, v.Chunk], 0 ≤ m ∧ m ≤ 4294967295 := fun m hm => by
    obtain ⟨h1, h2, h3, h4⟩ := h
    simp only [List.mem_cons, List.mem_nil_iff, or_false] at hm
    rcases hm with e | e | e | e | e <;> subst e <;> omega
  have hsp := split_line (key := kV) (by decide) (by decide) (l := [1, v.Streams, v.Window, v.Whole, v.Chunk]) (by simp) hr
  have hnu := nums35 (l := [1, v.Streams, v.Window, v.Whole, v.Chunk]) (by simp) hr 5
  unfold config_reader_take_h
  rw [hsp, bnoS, show gix (kV :: [1, v.Streams, v.Window, v.Whole, v.Chunk].map itoaF) 0 = some kV from rfl, bnoS, bndD, show decide (kV = ([112, 97, 116, 104, 115] : List UInt8)) = false from rfl, bif_ff, bndD, show decide (kV = ([102, 105, 114, 115, 116] : List UInt8)) = false from rfl, bif_ff, bndD, show decide (kV = ([118, 97, 108, 117, 101, 115] : List UInt8)) = true from rfl, bif_tt]
  unfold config_reader_take_h_J0
  rw [cut_one35, bnoS, hnu, bnoS]
  simp only [bndD, show decide (((([1, v.Streams, v.Window, v.Whole, v.Chunk] : List Int).length : Nat) : Int) = 5) = true from rfl, Bool.not_true, show decide ((1 : Int) < 5) = true from rfl, beq_self_eq_true, Bool.and_self, gdtt, show gix [1, v.Streams, v.Window, v.Whole, v.Chunk] 0 = some 1 from rfl, bnoS, show decide ((1 : Int) < 1) = false from rfl, Bool.and_false, Bool.or_self, show decide ((5 : Int) = 2) = false from rfl, ft, gdff, Bool.false_and, bif_ff, show decide ((5 : Int) = 5) = true from rfl, bif_tt, show IntKind.wrap .i64 ((1 : Int) + 1) = 2 from rfl]
  unfold config_reader_take_h_J1
  rw [chk_t (by decide), show gix [R.seen.c0, R.seen.c1, R.seen.c2, R.seen.c3, R.seen.c4] 2 = some R.seen.c2 from rfl, bnoS, hs, bif_ff, chk_t (by decide)]
  rfl
theorem wu32 {n : Int} (h : 0 ≤ n ∧ n ≤ 4294967295) : IntKind.wrap .u32 n = n := by rw [IntKind.wrap_u32, Int.emod_eq_of_lt h.1 (by omega)]
theorem take_fst0 {R : Rd35} {n : Int} (h : 0 ≤ n ∧ n ≤ 4294967295) (hs : R.seen.c3 = false) : config_reader_take_h (kF ++ numsS [0, n]) R = some (0, ⟨⟨R.Config.Paths, R.Config.Values, ⟨n, R.Config.First.c1⟩⟩, ⟨R.seen.c0, R.seen.c1, R.seen.c2, true, R.seen.c4⟩⟩) := by
  have hr : ∀ m ∈ [0, n], 0 ≤ m ∧ m ≤ 4294967295 := fun m hm => by
    simp only [List.mem_cons, List.mem_nil_iff, or_false] at hm
    rcases hm with e | e <;> subst e <;> omega
  have hsp := split_line (key := kF) (by decide) (by decide) (l := [0, n]) (by simp) hr
  have hnu := nums35 (l := [0, n]) (by simp) hr 2
  unfold config_reader_take_h
  rw [hsp, bnoS, show gix (kF :: [0, n].map itoaF) 0 = some kF from rfl, bnoS, bndD, show decide (kF = ([112, 97, 116, 104, 115] : List UInt8)) = false from rfl, bif_ff, bndD, show decide (kF = ([102, 105, 114, 115, 116] : List UInt8)) = true from rfl, bif_tt]
  unfold config_reader_take_h_J0
  rw [cut_one35, bnoS, hnu, bnoS]
  simp only [bndD, show decide (((([0, n] : List Int).length : Nat) : Int) = 2) = true from rfl, Bool.not_true, show decide ((1 : Int) < 2) = true from rfl, beq_self_eq_true, Bool.and_self, gdtt, show gix [0, n] 0 = some 0 from rfl, show gix [0, n] 1 = some n from rfl, bnoS, show decide ((1 : Int) < 0) = false from rfl, Bool.and_false, Bool.or_self, decide_true, decide_eq_false (show ¬ (4294967295 : Int) < n by omega), bif_ff, bif_tt, show IntKind.wrap .i64 ((3 : Int) + 0) = 3 from rfl]
  unfold config_reader_take_h_J1
  rw [chk_t (by decide), show gix [R.seen.c0, R.seen.c1, R.seen.c2, R.seen.c3, R.seen.c4] 3 = some R.seen.c3 from rfl, bnoS, hs, bif_ff, chk_t (by decide)]
  simp only [bndD, show decide ((2 : Int) = 1) = false from rfl, bif_ff, decide_true, bif_tt, show gix [0, n] 0 = some 0 from rfl, show gix [0, n] 1 = some n from rfl, bnoS, wu32 h]
  rw [chk_t (by decide)]
  rfl
theorem take_fst1 {R : Rd35} {n : Int} (h : 0 ≤ n ∧ n ≤ 4294967295) (hs : R.seen.c4 = false) : config_reader_take_h (kF ++ numsS [1, n]) R = some (0, ⟨⟨R.Config.Paths, R.Config.Values, ⟨R.Config.First.c0, n⟩⟩, ⟨R.seen.c0, R.seen.c1, R.seen.c2, R.seen.c3, true⟩⟩) := by
  have hr : ∀ m ∈ [1, n], 0 ≤ m ∧ m ≤ 4294967295 := fun m hm => by
    simp only [List.mem_cons, List.mem_nil_iff, or_false] at hm
    rcases hm with e | e <;> subst e <;> omega
  have hsp := split_line (key := kF) (by decide) (by decide) (l := [1, n]) (by simp) hr
  have hnu := nums35 (l := [1, n]) (by simp) hr 2
  unfold config_reader_take_h
  rw [hsp, bnoS, show gix (kF :: [1, n].map itoaF) 0 = some kF from rfl, bnoS, bndD, show decide (kF = ([112, 97, 116, 104, 115] : List UInt8)) = false from rfl, bif_ff, bndD, show decide (kF = ([102, 105, 114, 115, 116] : List UInt8)) = true from rfl, bif_tt]
  unfold config_reader_take_h_J0
  rw [cut_one35, bnoS, hnu, bnoS]
  simp only [bndD, show decide (((([1, n] : List Int).length : Nat) : Int) = 2) = true from rfl, Bool.not_true, show decide ((1 : Int) < 2) = true from rfl, beq_self_eq_true, Bool.and_self, gdtt, show gix [1, n] 0 = some 1 from rfl, show gix [1, n] 1 = some n from rfl, bnoS, show decide ((1 : Int) < 1) = false from rfl, Bool.and_false, Bool.or_self, decide_true, decide_eq_false (show ¬ (4294967295 : Int) < n by omega), bif_ff, bif_tt, show IntKind.wrap .i64 ((3 : Int) + 1) = 4 from rfl]
  unfold config_reader_take_h_J1
  rw [chk_t (by decide), show gix [R.seen.c0, R.seen.c1, R.seen.c2, R.seen.c3, R.seen.c4] 4 = some R.seen.c4 from rfl, bnoS, hs, bif_ff, chk_t (by decide)]
  simp only [bndD, show decide ((2 : Int) = 1) = false from rfl, bif_ff, decide_true, bif_tt, show gix [1, n] 0 = some 1 from rfl, show gix [1, n] 1 = some n from rfl, bnoS, wu32 h]
  rw [chk_t (by decide)]
  rfl
/-! Parse, line by line. -/
def parL (a0 : List UInt8) (x : List (List UInt8)) (f : Nat) (i : Int) (R : Rd35) : Option (Cf × Int × Int) := config_Parse_L1 a0 x f i R.Config.Paths R.Config.Values.c0.Streams R.Config.Values.c0.Window R.Config.Values.c0.Whole R.Config.Values.c0.Chunk R.Config.Values.c1.Streams R.Config.Values.c1.Window R.Config.Values.c1.Whole R.Config.Values.c1.Chunk R.Config.First.c0 R.Config.First.c1 R.seen.c0 R.seen.c1 R.seen.c2 R.seen.c3 R.seen.c4
/-- A line is passed over, or taken. -/
def Line (w : List UInt8) (R R' : Rd35) : Prop := (w = [] ∧ R' = R) ∨ ∃ b l, w = b :: l ∧ ((b = 35 ∧ R' = R) ∨ (b ≠ 35 ∧ config_reader_take_h w R = some (0, R')))
theorem par_step {a0 : List UInt8} {x p r : List (List UInt8)} {w : List UInt8} {R R' : Rd35} (hx : x = p ++ w :: r) (hl : x.length ≤ 1000000) (h : Line w R R') (f : Nat) : parL a0 x (f + 1) (p.length : Int) R = parL a0 x f ((p ++ [w]).length : Int) R' := by
  unfold parL
  rw [config_Parse_L1]
  simp only [bndD, lt_at hx, bif_tt, gix_at hx, bnoS, w_at hx hl]
  rcases h with ⟨e, e2⟩ | ⟨b, l, e, h⟩
  · subst e2; rw [e]
    simp only [decide_true, Bool.not_true, ft, gdff, bnoS, Bool.false_and, bif_ff]
  · rw [e]
    have hne : decide (b :: l = ([] : List UInt8)) = false := rfl
    have hg : gix (b :: l) 0 = some b := rfl
    simp only [hne, Bool.not_false, beq_self_eq_true, gdtt, hg, bnoS, Bool.true_and]
    rcases h with ⟨e1, e2⟩ | ⟨e1, e2⟩
    · subst e2; rw [e1]
      rfl
    · have hb : ¬ (b.toNat : Int) = 35 := fun hh => e1 (UInt8.toNat_inj.1 (by show b.toNat = 35; omega))
      rw [e] at e2
      simp only [decide_eq_false hb, Bool.not_false, beq_self_eq_true, bif_tt]
      show bno (config_reader_take_h (b :: l) R) _ = _
      rw [e2, bnoS]
      simp only [bndD, decide_true, Bool.not_true, bif_ff]
theorem par_end {t : List UInt8} {x : List (List UInt8)} {R : Rd35} (ht : t.length ≤ 1000000) (h : okC R.Config) (f : Nat) : parL (t ++ [10]) x (f + 1) (x.length : Int) R = some (R.Config, 0, 0) := by
  have hsuf : strings_HasSuffix (t ++ [10]) [10] = some true := by
    unfold strings_HasSuffix internal_stringslite_HasSuffix
    have e2 : (((t ++ [10]).length : Int) - (([10] : List UInt8).length : Int)) = (t.length : Int) := by simp
    have e3 : decide ((([10] : List UInt8).length : Int) ≤ ((t ++ [10]).length : Int)) = true := decide_eq_true (by simp; omega)
    rw [bndD, bndD, e2, w64 (by omega) (by omega), e3, beq_self_eq_true, gdtt, cut_from (p := t) (r := [10]) rfl, bnoS]
    rfl
  unfold parL
  rw [config_Parse_L1]
  simp only [bndD, lt_len, bif_ff, decide_eq_false (show ¬ (t ++ [10] : List UInt8) = [] by simp), Bool.not_false, beq_self_eq_true, gdtt, hsuf, bnoS, Bool.not_true, Bool.and_false]
  show bno (config_Check R.Config) _ = _
  rw [ccheck35, if_pos h, bnoS]
  rfl
def start35 : Rd35 := ⟨⟨2, ⟨⟨8, 256, 4096, 32⟩, ⟨8, 256, 4096, 32⟩⟩, ⟨1, 2⟩⟩, ⟨false, false, false, false, false⟩⟩
/-- All lines, one behind the other. -/
inductive Lines : List (List UInt8) → Rd35 → Rd35 → Prop
  | nil (R) : Lines [] R R
  | cons {w ws R R' R''} (h : Line w R R') (t : Lines ws R' R'') : Lines (w :: ws) R R''
theorem par_all {t : List UInt8} (ht : t.length ≤ 800000) {x : List (List UInt8)} (hl : x.length ≤ 800000) : ∀ {r : List (List UInt8)} {R R' : Rd35}, Lines r R R' → ∀ (p : List (List UInt8)) (f : Nat), x = p ++ r → r.length < f → okC R'.Config → parL (t ++ [10]) x f (p.length : Int) R = some (R'.Config, 0, 0)
  | _, R, _, .nil _, p, f + 1, hx, _, hk => by
    rw [List.append_nil] at hx
    rw [← hx]
    exact par_end (by omega) hk f
  | _, R, R', .cons (w := w) (ws := ws) h tl, p, f + 1, hx, hf, hk => by
    rw [par_step hx (by omega) h]
    exact par_all ht hl tl (p ++ [w]) f (next_at hx) (by simpa using hf) hk
theorem parse35 {ws : List (List UInt8)} {R : Rd35} (h0 : ws ≠ []) (hf : ∀ w ∈ ws, (10 : UInt8) ∉ w) (hl : (joinL 10 (ws ++ [[]])).length ≤ 700000) (h : Lines (ws ++ [[]]) start35 R) (hk : okC R.Config) : config_Parse (joinL 10 (ws ++ [[]])) = some (R.Config, 0, 0) := by
  have hfree : ∀ w ∈ ws ++ [[]], (10 : UInt8) ∉ w := fun w hw => by
    rcases List.mem_append.1 hw with hw | hw
    · exact hf w hw
    · rw [List.mem_singleton.1 hw]; simp
  have hsp := split35 (c := 10) (ws := ws ++ [[]]) (by simp) hfree (by omega)
  have hc := count_join (c := 10) (ws := ws ++ [[]]) (by simp) hfree
  have hcl : (joinL 10 (ws ++ [[]])).count 10 ≤ (joinL 10 (ws ++ [[]])).length := List.count_le_length
  obtain ⟨t, ht⟩ : ∃ t, joinL 10 (ws ++ [[]]) = t ++ [10] := by
    have : ∀ ws : List (List UInt8), ws ≠ [] → ∃ t, joinL 10 (ws ++ [[]]) = t ++ [10] := by
      intro ws
      induction ws with
      | nil => exact fun h => absurd rfl h
      | cons w ws ih =>
        intro _
        cases ws with
        | nil => exact ⟨w, rfl⟩
        | cons v ws =>
          obtain ⟨t, ht⟩ := ih (by simp)
          refine ⟨w ++ 10 :: t, ?_⟩
          show w ++ 10 :: joinL 10 ((v :: ws) ++ [[]]) = _
          rw [ht]; simp
    exact this ws h0
  have htl : t.length + 1 = (joinL 10 (ws ++ [[]])).length := by rw [ht]; simp
  unfold config_Parse
  rw [first35, bnoS, hsp, bnoS]
  rw [ht]
  exact par_all (by omega) (by omega) h [] fuel rfl (fuel_gt (by omega)) hk
end Go.Fn
set_option linter.unusedSimpArgs false
set_option linter.unusedVariables false
open Go Go.IL
namespace Go.Fn
/-! ConfigParts, ConfigSame. -/
def pLn (n : Int) : List UInt8 := kP ++ numsS [n]
def vLn (i : Int) (v : Vl) : List UInt8 := kV ++ numsS [i, v.Streams, v.Window, v.Whole, v.Chunk]
def fLn (i n : Int) : List UInt8 := kF ++ numsS [i, n]
theorem textS_lines (c : Cf) : textS c = pLn c.Paths ++ [10] ++ (vLn 0 c.Values.c0 ++ [10]) ++ (vLn 1 c.Values.c1 ++ [10]) ++ (fLn 0 c.First.c0 ++ [10]) ++ (fLn 1 c.First.c1 ++ [10]) := by
  unfold textS valL fstL lineS pLn vLn fLn
  simp only [List.append_assoc]
theorem free_nums {b : UInt8} (hb : b.toNat < 48) (hb2 : b ≠ 32) {l : List Int} (h : ∀ n ∈ l, 0 ≤ n ∧ n ≤ 4294967295) : b ∉ numsS l := by
  intro hm
  obtain ⟨n, hn, hx⟩ := List.mem_flatMap.1 hm
  rcases List.mem_cons.1 hx with e | hx
  · exact hb2 e
  · exact itoa_free (h n hn) hb hx
theorem r_val {i : Int} {v : Vl} (hi : 0 ≤ i ∧ i ≤ 1) (h : okV v) : ∀ n ∈ [i, v.Streams, v.Window, v.Whole, v.Chunk], 0 ≤ n ∧ n ≤ 4294967295 := by
  obtain ⟨h1, h2, h3, h4⟩ := h
  intro n hn
  simp only [List.mem_cons, List.mem_nil_iff, or_false] at hn
  rcases hn with e | e | e | e | e <;> subst e <;> omega
theorem r_fst {i n : Int} (hi : 0 ≤ i ∧ i ≤ 1) (h : 0 ≤ n ∧ n ≤ 4294967295) : ∀ m ∈ [i, n], 0 ≤ m ∧ m ≤ 4294967295 := by
  intro m hm
  simp only [List.mem_cons, List.mem_nil_iff, or_false] at hm
  rcases hm with e | e <;> subst e <;> omega
theorem r_path {n : Int} (h : 1 ≤ n ∧ n ≤ 4) : ∀ m ∈ [n], 0 ≤ m ∧ m ≤ 4294967295 := by
  intro m hm
  rw [List.mem_singleton.1 hm]; omega
theorem free_app {b : UInt8} {k l : List UInt8} (h1 : b ∉ k) (h2 : b ∉ l) : b ∉ k ++ l := fun h => (List.mem_append.1 h).elim h1 h2
theorem pLn_free {n : Int} (h : 1 ≤ n ∧ n ≤ 4) : (10 : UInt8) ∉ pLn n := free_app (by decide) (free_nums (by decide) (by decide) (r_path h))
theorem vLn_free {i : Int} {v : Vl} (hi : 0 ≤ i ∧ i ≤ 1) (h : okV v) : (10 : UInt8) ∉ vLn i v := free_app (by decide) (free_nums (by decide) (by decide) (r_val hi h))
theorem fLn_free {i n : Int} (hi : 0 ≤ i ∧ i ≤ 1) (h : 0 ≤ n ∧ n ≤ 4294967295) : (10 : UInt8) ∉ fLn i n := free_app (by decide) (free_nums (by decide) (by decide) (r_fst hi h))
theorem ln_path {R : Rd35} {n : Int} (h : 1 ≤ n ∧ n ≤ 4) (hs : R.seen.c0 = false) : Line (pLn n) R ⟨⟨n, R.Config.Values, R.Config.First⟩, ⟨true, R.seen.c1, R.seen.c2, R.seen.c3, R.seen.c4⟩⟩ :=
  .inr ⟨112, _, rfl, .inr ⟨by decide, take_path ⟨by omega, by omega⟩ hs⟩⟩
theorem ln_val0 {R : Rd35} {v : Vl} (h : okV v) (hs : R.seen.c1 = false) : Line (vLn 0 v) R ⟨⟨R.Config.Paths, ⟨v, R.Config.Values.c1⟩, R.Config.First⟩, ⟨R.seen.c0, true, R.seen.c2, R.seen.c3, R.seen.c4⟩⟩ :=
  .inr ⟨118, _, rfl, .inr ⟨by decide, take_val0 h hs⟩⟩
theorem ln_val1 {R : Rd35} {v : Vl} (h : okV v) (hs : R.seen.c2 = false) : Line (vLn 1 v) R ⟨⟨R.Config.Paths, ⟨R.Config.Values.c0, v⟩, R.Config.First⟩, ⟨R.seen.c0, R.seen.c1, true, R.seen.c3, R.seen.c4⟩⟩ :=
  .inr ⟨118, _, rfl, .inr ⟨by decide, take_val1 h hs⟩⟩
theorem ln_fst0 {R : Rd35} {n : Int} (h : 0 ≤ n ∧ n ≤ 4294967295) (hs : R.seen.c3 = false) : Line (fLn 0 n) R ⟨⟨R.Config.Paths, R.Config.Values, ⟨n, R.Config.First.c1⟩⟩, ⟨R.seen.c0, R.seen.c1, R.seen.c2, true, R.seen.c4⟩⟩ :=
  .inr ⟨102, _, rfl, .inr ⟨by decide, take_fst0 h hs⟩⟩
theorem ln_fst1 {R : Rd35} {n : Int} (h : 0 ≤ n ∧ n ≤ 4294967295) (hs : R.seen.c4 = false) : Line (fLn 1 n) R ⟨⟨R.Config.Paths, R.Config.Values, ⟨R.Config.First.c0, n⟩⟩, ⟨R.seen.c0, R.seen.c1, R.seen.c2, R.seen.c3, true⟩⟩ :=
  .inr ⟨102, _, rfl, .inr ⟨by decide, take_fst1 h hs⟩⟩
theorem ln_nil (R : Rd35) : Line [] R R := .inl ⟨rfl, rfl⟩
theorem ln_note (R : Rd35) (l : List UInt8) : Line (35 :: l) R R := .inr ⟨35, l, rfl, .inl ⟨rfl, rfl⟩⟩
theorem len_pLn (n : Int) : (pLn n).length ≤ 30 := by
  have := numsS_len [n]
  unfold pLn kP; rw [List.length_append]; simp at this ⊢; omega
theorem len_vLn (i : Int) (v : Vl) : (vLn i v).length ≤ 130 := by
  have := numsS_len [i, v.Streams, v.Window, v.Whole, v.Chunk]
  unfold vLn kV; rw [List.length_append]; simp at this ⊢; omega
theorem len_fLn (i n : Int) : (fLn i n).length ≤ 60 := by
  have := numsS_len [i, n]
  unfold fLn kF; rw [List.length_append]; simp at this ⊢; omega
theorem join_len (c : UInt8) : ∀ (ws : List (List UInt8)) (n : Nat), (∀ w ∈ ws, w.length ≤ n) → (joinL c ws).length ≤ (n + 1) * ws.length
  | [], n, _ => Nat.le_refl _
  | [w], n, h => by
    have := h w (by simp)
    show w.length ≤ (n + 1) * 1
    omega
  | w :: v :: ws, n, h => by
    have h1 := h w (by simp)
    have h2 := join_len c (v :: ws) n (fun x hx => h x (by simp [hx]))
    rw [joinL_cons (by simp), List.length_append, List.length_cons, List.length_cons (as := v :: ws), Nat.mul_succ]
    omega
theorem note_len {note : List UInt8} (h : note.length ≤ 100) : (35 :: note).length ≤ 101 := by simp; omega
theorem parse_noted {c : Cf} (h : okC c) (hf : F32 c) {note : List UInt8} (hn : (10 : UInt8) ∉ note) (hl : note.length ≤ 100) : config_Parse ([35] ++ note ++ [10] ++ textS c ++ [10, 35] ++ note ++ [10]) = some (c, 0, 0) := by
  obtain ⟨h1, h2, h3⟩ := h
  obtain ⟨f1, f2⟩ := hf
  have l1 := len_pLn c.Paths; have l2 := len_vLn 0 c.Values.c0; have l3 := len_vLn 1 c.Values.c1; have l4 := len_fLn 0 c.First.c0; have l5 := len_fLn 1 c.First.c1
  have l6 := note_len hl
  have hnf : (10 : UInt8) ∉ 35 :: note := fun h => (List.mem_cons.1 h).elim (by decide) hn
  have hj : [35] ++ note ++ [10] ++ textS c ++ [10, 35] ++ note ++ [10] = joinL 10 ([35 :: note, pLn c.Paths, vLn 0 c.Values.c0, vLn 1 c.Values.c1, fLn 0 c.First.c0, fLn 1 c.First.c1, [], 35 :: note] ++ [[]]) := by
    rw [textS_lines]
    simp only [joinL, List.cons_append, List.nil_append, List.append_assoc]
  rw [hj]
  refine parse35 (R := ⟨c, ⟨true, true, true, true, true⟩⟩) (by simp) (fun w hw => ?_) ?_ ?_ ⟨h1, h2, h3⟩
  · simp only [List.mem_cons, List.mem_nil_iff, or_false] at hw
    rcases hw with e | e | e | e | e | e | e | e
    · rw [e]; exact hnf
    · rw [e]; exact pLn_free h1
    · rw [e]; exact vLn_free (by decide) h2
    · rw [e]; exact vLn_free (by decide) h3
    · rw [e]; exact fLn_free (by decide) f1
    · rw [e]; exact fLn_free (by decide) f2
    · rw [e]; simp
    · rw [e]; exact hnf
  · have := join_len 10 ([35 :: note, pLn c.Paths, vLn 0 c.Values.c0, vLn 1 c.Values.c1, fLn 0 c.First.c0, fLn 1 c.First.c1, [], 35 :: note] ++ [[]]) 200 (fun w hw => by
      simp only [List.mem_append, List.mem_cons, List.mem_nil_iff, or_false] at hw
      rcases hw with (e | e | e | e | e | e | e | e) | e <;> rw [e] <;> first | omega | simp)
    simp only [List.length_append, List.length_cons, List.length_nil] at this
    omega
  · exact .cons (ln_note _ _) (.cons (ln_path h1 rfl) (.cons (ln_val0 h2 rfl) (.cons (ln_val1 h3 rfl) (.cons (ln_fst0 f1 rfl) (.cons (ln_fst1 f2 rfl) (.cons (ln_nil _) (.cons (ln_note _ _) (.cons (ln_nil _) (.nil _)))))))))
theorem back35 (c : Cf) : sennitlaw35_back c = some c := rfl
theorem parts_L {p q : Int} (hp : 0 ≤ p ∧ p ≤ 255) (hq : 0 ≤ q ∧ q ≤ 4294967295) {note : List UInt8} (hl : note.length ≤ 100) : ∀ (r u : List UInt8) (f : Nat), note = u ++ r → r.length < f → (10 : UInt8) ∉ u → sennitlaw35_ConfigParts_L0 p q note f (u.length : Int) = some true
  | [], u, f + 1, h, _, hu => by
    rw [List.append_nil] at h
    rw [sennitlaw35_ConfigParts_L0]
    simp only [bndD, ← h, lt_len, bif_ff, rem_ok hp.1 (show (0 : Int) < 4 by decide), bnoS, first35]
    have hx : 0 ≤ p % 4 ∧ p % 4 < 4 := by omega
    rw [w64 (show -9223372036854775808 ≤ p % 4 by omega) (by omega), w64 (show -9223372036854775808 ≤ 1 + p % 4 by omega) (by omega)]
    have hok : okC ⟨1 + p % 4, ⟨⟨8, 256, 4096, 32⟩, ⟨8, 256, 4096, 32⟩⟩, ⟨1, q⟩⟩ := ⟨⟨by show 1 ≤ 1 + p % 4; omega, by show 1 + p % 4 ≤ 4; omega⟩, show okV ⟨8, 256, 4096, 32⟩ by decide, show okV ⟨8, 256, 4096, 32⟩ by decide⟩
    have hf : F32 ⟨1 + p % 4, ⟨⟨8, 256, 4096, 32⟩, ⟨8, 256, 4096, 32⟩⟩, ⟨1, q⟩⟩ := ⟨by show (0 : Int) ≤ 1 ∧ (1 : Int) ≤ _; decide, hq⟩
    have hpr := cprint hf hok
    have hpa := parse_noted hok hf (by rw [h]; exact hu) hl
    have htl := textS_len ⟨1 + p % 4, ⟨⟨8, 256, 4096, 32⟩, ⟨8, 256, 4096, 32⟩⟩, ⟨1, q⟩⟩
    simp only [hpr, bnoS]
    rw [cat_ok (by simp; omega), bnoS, cat_ok (by simp; omega), bnoS, cat_ok (by simp; omega), bnoS, cat_ok (by simp; omega), bnoS, cat_ok (by simp; omega), bnoS, cat_ok (by simp; omega), bnoS, hpa, bnoS]
    simp only [decide_true, beq_self_eq_true, gdtt, back35, bnoS, Bool.and_self, awake35, Bool.and_true]
  | b :: r, u, f + 1, h, hf, hu => by
    rw [sennitlaw35_ConfigParts_L0]
    simp only [bndD, lt_at h, bif_tt, gix_at h, bnoS, w_at h (show note.length ≤ 1000000 by omega)]
    by_cases hb : (b.toNat : Int) = 10
    · rw [decide_eq_true hb, bif_tt, awake35, bnoS]
    · rw [decide_eq_false hb, bif_ff]
      refine parts_L hp hq hl r (u ++ [b]) f (next_at h) (by simpa using hf) (fun hm => ?_)
      rcases List.mem_append.1 hm with hm | hm
      · exact hu hm
      · rw [← List.mem_singleton.1 hm] at hb; exact hb rfl
theorem configParts {p q : Int} (hp : 0 ≤ p ∧ p ≤ 255) (hq : 0 ≤ q ∧ q ≤ 4294967295) {note : List UInt8} : sennitlaw35_ConfigParts p q note = some true := by
  unfold sennitlaw35_ConfigParts
  rw [bndD]
  by_cases h : 100 < (note.length : Int)
  · rw [decide_eq_true h, bif_tt, awake35, bnoS]
  · rw [decide_eq_false h, bif_ff]
    exact parts_L hp hq (by omega) note [] fuel rfl (fuel_gt (by omega)) (by simp)
end Go.Fn
namespace Go.IL
section
variable {P : Program} {O : Origin} {N : Nat} {S S' : St} {o : Oper} {t : Nat} {Q : Exit → St → Prop}
/-! Short names. -/
theorem lb {a b : Nat} (h : Nat.ble (a + 1) b = true) : a < b := Nat.le_of_ble_eq_true h
theorem svI {x : Operand} {k : IntKind} {n : Int} (h : S.op x = .int k n) : SV S x (.int k n) := sv h
theorem svB {x : Operand} {n : Bool} (h : S.op x = .bool n) : SV S x (.bool n) := sv h
theorem svR {x : Operand} {i j : Nat} (h : S.op x = .ref i j) : SV S x (.ref i j) := sv h
theorem svL {x : Operand} {f : Bool} {l : List D} (h : S.op x = .slice f l) : SV S x (.slice f l) := sv h
theorem svA {x : Operand} (l : List D) (h : S.op x = .agg l) : SV S x (.agg l) := sv h
theorem svcI {x : Operand} {b : Bool} {k : IntKind} {n : Int} (h : S.op x = .cnd b (.int k n)) (hb : b = true) : SV S x (.int k n) := svc h hb
theorem svcB {x : Operand} {b n : Bool} (h : S.op x = .cnd b (.bool n)) (hb : b = true) : SV S x (.bool n) := svc h hb
theorem svcR {x : Operand} {b : Bool} {i j : Nat} (h : S.op x = .cnd b (.ref i j)) (hb : b = true) : SV S x (.ref i j) := svc h hb
theorem svcL {x : Operand} {b : Bool} {f : Bool} {l : List D} (h : S.op x = .cnd b (.slice f l)) (hb : b = true) : SV S x (.slice f l) := svc h hb
theorem svcA {x : Operand} {b : Bool} (l : List D) (h : S.op x = .cnd b (.agg l)) (hb : b = true) : SV S x (.agg l) := svc h hb
theorem mvI {x : Operand} {k : IntKind} {n : Int} (ho : o.op = .move x) (hd : o.dst = some t) (ht : Nat.ble (t + 1) N = true) (hx : S.op x = .int k n) : IOp P O N o S (S.set t (.int k n)) := iop_move ho hd (lb ht) (sv hx)
theorem mvB {x : Operand} {n : Bool} (ho : o.op = .move x) (hd : o.dst = some t) (ht : Nat.ble (t + 1) N = true) (hx : S.op x = .bool n) : IOp P O N o S (S.set t (.bool n)) := iop_move ho hd (lb ht) (sv hx)
theorem mvR {x : Operand} {i j : Nat} (ho : o.op = .move x) (hd : o.dst = some t) (ht : Nat.ble (t + 1) N = true) (hx : S.op x = .ref i j) : IOp P O N o S (S.set t (.ref i j)) := iop_move ho hd (lb ht) (sv hx)
theorem mvL {x : Operand} {f : Bool} {l : List D} (ho : o.op = .move x) (hd : o.dst = some t) (ht : Nat.ble (t + 1) N = true) (hx : S.op x = .slice f l) : IOp P O N o S (S.set t (.slice f l)) := iop_move ho hd (lb ht) (sv hx)
theorem asI {x : Operand} {k : IntKind} {n : Int} (ho : o.op = .assign x) (hd : o.dst = some t) (ht : Nat.ble (t + 1) N = true) (hx : S.op x = .int k n) : IOp P O N o S (S.set t (.int k n)) := iop_assign ho hd (lb ht) (sv hx)
theorem asB {x : Operand} {n : Bool} (ho : o.op = .assign x) (hd : o.dst = some t) (ht : Nat.ble (t + 1) N = true) (hx : S.op x = .bool n) : IOp P O N o S (S.set t (.bool n)) := iop_assign ho hd (lb ht) (sv hx)
def LA (P : Program) (T : TypeId) (u : TypeDesc) (z : Option Value) (size bytes : Nat) (g : Bool) : Prop := P.underlying T = some u ∧ aggOf P T = g ∧ TI P T z size bytes ∧ 0 < size
theorem LA.mk {T : TypeId} {u : TypeDesc} {z : Option Value} {size bytes : Nat} {g : Bool} (h1 : P.underlying T = some u) (h2 : aggOf P T = g) (h3 : TI P T z size bytes) (h4 : 0 < size) : LA P T u z size bytes g := ⟨h1, h2, h3, h4⟩
theorem lra {T : TypeId} {x : Operand} {u : TypeDesc} {z : Option Value} {size bytes : Nat} {id off : Nat} {e : TypeId} {ds : List D} (cs : List D) (l : LA P T u z size bytes true) (ho : o.op = .load T x) (hd : o.dst = some t) (ht : Nat.ble (t + 1) N = true)
    (hx : S.op x = .ref id off) (he : S.ent id = .blk e ds) (hn : off + size ≤ ds.length) (hdd : (ds.drop off).take size = cs) : IOp P O N o S (S.set t (.agg cs)) := iop_load_ra ho hd (lb ht) l.1 l.2.1 l.2.2.1 l.2.2.2 (sv hx) he hn hdd
theorem rva {x : Nat} {T : TypeId} {id off : Nat} {e : TypeId} {ds cs : List D} {u : TypeDesc} {z : Option Value} {size bytes : Nat} (l : LA P T u z size bytes true) (hx : S.get x = .ref id off) (he : S.ent id = .blk e ds)
    (hn : off + size ≤ ds.length) (hd : (ds.drop off).take size = cs) : ResV P S (.cell x T) (.agg cs) := resv_a hx he l.1 l.2.1 l.2.2.1 l.2.2.2 hn hd
theorem stA {T : TypeId} {x y : Operand} {z : Option Value} {size bytes : Nat} {id off : Nat} {e : TypeId} {ds : List D} (c ds' : List D) (hi : TI P T z size bytes) (ho : o.op = .store T x y) (hd : o.dst = none)
    (hx : S.op x = .ref id off) (he : S.ent id = .blk e ds) (hy : S.op y = .agg c) (hb : (D.agg c).boxable = true) (hsz : (D.agg c).cells.length = size) (h1 : (D.agg c).cells.all D.one = true)
    (hn : off + size ≤ ds.length) (hds : splice ds off (D.agg c).cells = ds') : IOp P O N o S (S.setE id (.blk e ds')) := iop_store ho hd hi (sv hx) he (sv hy) hb hsz h1 hn hds
theorem faR {T : TypeId} {x : Operand} {i : Nat} {fs : Array Field} {F : Field} {z : Option Value} {size bytes : Nat} {id off : Nat} (off' : Nat) (ho : o.op = .fieldAddr T x i) (hd : o.dst = some t) (ht : Nat.ble (t + 1) N = true)
    (hu : P.underlying T = some (.struct fs)) (hf : fs[i]? = some F) (hi : TI P F.type z size bytes) (hs : 0 < size) (hx : S.op x = .ref id off) (ho' : off + F.offset = off') : IOp P O N o S (S.set t (.ref id off')) :=
  iop_fieldAddr_ref ho hd (lb ht) hu hf hi hs (sv hx) ho'
theorem svaI {n : Node} {S0 : St} {s : Nat} {k : IntKind} {m : Int} (hA : Agree n S S0) (hm : n.rs.elem s = true) (h : S0.get s = .int k m) : SV S (.tmp s) (.int k m) := sv (agr hA hm h)
theorem svaB {n : Node} {S0 : St} {s : Nat} {m : Bool} (hA : Agree n S S0) (hm : n.rs.elem s = true) (h : S0.get s = .bool m) : SV S (.tmp s) (.bool m) := sv (agr hA hm h)
theorem svaR {n : Node} {S0 : St} {s i j : Nat} (hA : Agree n S S0) (hm : n.rs.elem s = true) (h : S0.get s = .ref i j) : SV S (.tmp s) (.ref i j) := sv (agr hA hm h)
theorem svaL {n : Node} {S0 : St} {s : Nat} {f : Bool} {l : List D} (hA : Agree n S S0) (hm : n.rs.elem s = true) (h : S0.get s = .slice f l) : SV S (.tmp s) (.slice f l) := sv (agr hA hm h)
theorem svaA {n : Node} {S0 : St} {s : Nat} (l : List D) (hA : Agree n S S0) (hm : n.rs.elem s = true) (h : S0.get s = .agg l) : SV S (.tmp s) (.agg l) := sv (agr hA hm h)
theorem AllW.s {ρ : Nat → Nat} {t : Nat} {d : D} {l : List (Nat × D)} (h : S.get t = d.ren ρ) (hr : d.refsIn S'.okn = true) (k : AllW (SlW S S' ρ) l) : AllW (SlW S S' ρ) ((t, d) :: l) := .cons (.same h hr) k
theorem AllW.sames {ρ : Nat → Nat} : ∀ {l : List (Nat × D)}, l.map (fun p => S.get p.1) = l.map (fun p => p.2.ren ρ) → (l.all fun p => p.2.refsIn S'.okn) = true → AllW (SlW S S' ρ) l
  | [], _, _ => .nil
  | (t, d) :: l, h, hr => by
    simp only [List.map_cons, List.cons.injEq] at h
    simp only [List.all_cons, Bool.and_eq_true] at hr
    exact .cons (.same h.1 hr.1) (AllW.sames h.2 hr.2)
end
theorem SubL.k {d : D} {ds ds' : List D} (t : SubL ds ds') : SubL (d :: ds) (d :: ds') := .cons (.refl d) t
theorem FDL.k {S : St} {d : D} {ds ds' : List D} (t : FDL S ds ds') : FDL S (d :: ds) (d :: ds') := .cons (.refl d) t
theorem SubL.all : ∀ (l : List D), SubL l l
  | [] => .nil
  | d :: l => .cons (.refl d) (SubL.all l)
theorem FDL.all {S : St} (l : List D) : FDL S l l := fdl_refl l
theorem and_ff {a b : Bool} (h : (a && false) = b) : b = false := by rw [← h, Bool.and_false]
theorem and_tt {a b : Bool} (h : (a && true) = b) (k : a = true) : b = true := by rw [← h, k]; rfl
theorem and_cf {a b c : Bool} (h : (a && c) = b) (k : a = false) : b = false := by rw [← h, k]; rfl
theorem beq_t {a : Bool} (h : (a == true) = true) : a = true := by simpa using h
theorem beq_f {a : Bool} (h : (a == true) = false) : a = false := by simpa using h
end Go.IL
