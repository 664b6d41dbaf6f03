/-
  A part of the proof: rules and plain facts. No condition.
-/
import Derived.Test.YthjfhdlaockolaaIlP83
import Derived.Test.YthjfhdlaockolaaIlA34bD
import Derived.Test.YthjfhdlaockolaaIlSh
import Derived.ProofKit
import Derived.OpenShut
set_option linter.all false
set_option linter.unusedSimpArgs false
set_option linter.unusedVariables false
open Go Go.IL
namespace Go.Fn
/-! FoldDeeper. -/
theorem dsc_deep {K : Int} {st : Fs} (h : FV K st) {y : Nd} (hy : y ∈ st.Nodes) {z : Int} (hd : Dsc st.Nodes y.ID z) : (∃ a b : Int, fold_Depth st z = some a ∧ fold_Depth st y.ID = some b ∧ b < a) ∧ fold_Meet st z y.ID = some y.ID ∧ fold_Meet st y.ID z = some y.ID := by
  obtain ⟨r, ht⟩ := h.tr
  have hid := ht.id y hy
  have h0 : y.ID ≠ 0 := by omega
  have hzn := dsc_node hd
  have hyn : ∃ n ∈ st.Nodes, n.ID = y.ID := ⟨y, hy, rfl⟩
  obtain ⟨xs, e, hx⟩ := dsc_path ht h0 hd
  have hrz := dsc_rank ht h0 hd
  refine ⟨⟨_, _, depth_any h hzn, depth_any h hyn, ?_⟩, ?_, ?_⟩
  · rw [e, List.length_append, List.length_cons]; omega
  · refine meet_any h hzn hyn (u := z :: xs) (e := y.ID) (v := pathS st.Nodes st.Nodes.length y.ID) (by rw [e]; rfl) (by simp) (fun w hw hm => ?_)
    have hrw : r y.ID < r w := by
      rcases List.mem_cons.1 hw with e2 | hw
      · rw [e2]; exact hrz
      · exact dsc_rank ht h0 (hx w hw)
    rcases List.mem_append.1 hm with hm | hm
    · have := path_rank ht.rk _ _ _ hm; omega
    · rw [List.mem_singleton.1 hm] at hrw; omega
  · exact meet_any h hyn hzn (u := []) (e := y.ID) (v := pathS st.Nodes st.Nodes.length y.ID) rfl (by rw [e]; simp) (fun w hw => (List.not_mem_nil hw).elim)
theorem meet_self {K : Int} {st : Fs} (h : FV K st) {y : Nd} (hy : y ∈ st.Nodes) : fold_Meet st y.ID y.ID = some y.ID :=
  meet_any h ⟨y, hy, rfl⟩ ⟨y, hy, rfl⟩ (u := []) (e := y.ID) (v := pathS st.Nodes st.Nodes.length y.ID) rfl (by simp) (fun w hw => (List.not_mem_nil hw).elim)
theorem d2_L {K : Int} {st : Fs} (h : FV K st) {y : Nd} (hy : y ∈ st.Nodes) {v a b : Int} {kk : Int → Int → Int → Option Bool} {l : List Int} (hl : l.length ≤ 1000) (hd : ∀ z ∈ l, Dsc st.Nodes y.ID z) : ∀ (r p : List Int) (f : Nat), l = p ++ r → r.length < f → sennitlaw34_FoldDeeper_L2 st.Room st.Keep st.Nodes st.Ended v kk y a b l f (p.length : Int) = kk b a (IntKind.wrap .i64 (v + 1))
  | [], p, f + 1, hp, _ => by
    have hms : fold_Meet ⟨st.Room, st.Keep, st.Nodes, st.Ended⟩ y.ID y.ID = some y.ID := meet_self h hy
    have hdy : fold_Depth ⟨st.Room, st.Keep, st.Nodes, st.Ended⟩ y.ID = some ((pathS st.Nodes st.Nodes.length y.ID).length + 1 : Int) := depth_any h ⟨y, hy, rfl⟩
    rw [List.append_nil] at hp
    rw [sennitlaw34_FoldDeeper_L2]
    simp only [bndD, hp, lt_len, bif_ff, hms, bnoS, decide_true, Bool.not_true, beq_self_eq_true, gdtt, hdy, decide_eq_false (show ¬ ((pathS st.Nodes st.Nodes.length y.ID).length + 1 : Int) < 1 by omega), Bool.or_self]
  | z :: r, p, f + 1, hp, hf => by
    have hrec := d2_L h hy (v := v) (a := a) (b := b) (kk := kk) hl hd r (p ++ [z]) f (next_at hp) (by simpa using hf)
    obtain ⟨⟨c, e, h1, h2, h3⟩, h4, h5⟩ := dsc_deep h hy (hd z (by rw [hp]; simp))
    have h1 : fold_Depth ⟨st.Room, st.Keep, st.Nodes, st.Ended⟩ z = some c := h1
    have h2 : fold_Depth ⟨st.Room, st.Keep, st.Nodes, st.Ended⟩ y.ID = some e := h2
    have h4 : fold_Meet ⟨st.Room, st.Keep, st.Nodes, st.Ended⟩ z y.ID = some y.ID := h4
    have h5 : fold_Meet ⟨st.Room, st.Keep, st.Nodes, st.Ended⟩ y.ID z = some y.ID := h5
    rw [sennitlaw34_FoldDeeper_L2]
    simp only [bndD, lt_at hp, bif_tt, gix_at hp, bnoS, h1, h2, decide_eq_false (show ¬ c ≤ e by omega), beq_self_eq_true, gdtt, h4, decide_true, Bool.not_true, Bool.or_self, h5, bif_ff, w_at hp (show l.length ≤ 1000000 by omega)]
    exact hrec
/-- All the weights; all the weights below the nodes. -/
def allW : List Nd → Int
  | [] => 0
  | n :: r => n.Weight + allW r
def kidW (N : List Nd) : List Nd → Int
  | [] => 0
  | m :: r => sumS N m.ID + kidW N r
theorem allW_app : ∀ a b : List Nd, allW (a ++ b) = allW a + allW b
  | [], b => by show allW b = 0 + allW b; omega
  | n :: a, b => by
    have := allW_app a b
    show n.Weight + allW (a ++ b) = n.Weight + allW a + allW b
    omega
theorem kidW_app (N : List Nd) : ∀ a b : List Nd, kidW N (a ++ b) = kidW N a + kidW N b
  | [], b => by show kidW N b = 0 + kidW N b; omega
  | n :: a, b => by
    have := kidW_app N a b
    show sumS N n.ID + kidW N (a ++ b) = sumS N n.ID + kidW N a + kidW N b
    omega
def oneW (p w : Int) : List Nd → Int
  | [] => 0
  | m :: r => (if p = m.ID then w else 0) + oneW p w r
theorem kidW_cons (n : Nd) (N : List Nd) : ∀ M : List Nd, kidW (n :: N) M = oneW n.Parent n.Weight M + kidW N M
  | [] => rfl
  | m :: M => by
    have := kidW_cons n N M
    show ((if n.Parent = m.ID then n.Weight else 0) + sumS N m.ID) + kidW (n :: N) M = ((if n.Parent = m.ID then n.Weight else 0) + oneW n.Parent n.Weight M) + (sumS N m.ID + kidW N M)
    omega
theorem oneW_no {p w : Int} : ∀ M : List Nd, (∀ m ∈ M, m.ID ≠ p) → oneW p w M = 0
  | [], _ => rfl
  | m :: M, h => by
    show (if p = m.ID then w else 0) + oneW p w M = 0
    rw [if_neg (fun e => h m (by simp) e.symm), oneW_no M (fun x hx => h x (by simp [hx]))]; rfl
theorem oneW_yes {p w : Int} : ∀ M : List Nd, M.Pairwise (fun a b => a.ID < b.ID) → (∃ m ∈ M, m.ID = p) → oneW p w M = w
  | [], _, ⟨_, h, _⟩ => (List.not_mem_nil h).elim
  | m :: M, hs, hx => by
    have hs2 := List.pairwise_cons.1 hs
    show (if p = m.ID then w else 0) + oneW p w M = w
    by_cases e : p = m.ID
    · rw [if_pos e, oneW_no M (fun x hx => by have := hs2.1 x hx; omega)]; omega
    · obtain ⟨x, hx, e2⟩ := hx
      rw [if_neg e, oneW_yes M hs2.2 ⟨x, (List.mem_cons.1 hx).resolve_left (fun h => e (by rw [← h, e2])), e2⟩]; omega
theorem all_kid {M : List Nd} (hs : M.Pairwise (fun a b => a.ID < b.ID)) (h1 : ∀ m ∈ M, m.ID ≠ 0) : ∀ N : List Nd, (∀ n ∈ N, n.Parent = 0 ∨ ∃ m ∈ M, m.ID = n.Parent) → sumS N 0 + kidW N M = allW N
  | [], _ => by
    have : ∀ M : List Nd, kidW [] M = 0 := fun M => by
      induction M with
      | nil => rfl
      | cons m M ih => show (0 : Int) + kidW [] M = 0; rw [ih]; rfl
    show (0 : Int) + kidW [] M = 0
    rw [this]; rfl
  | n :: N, h => by
    have ih := all_kid hs h1 N (fun x hx => h x (by simp [hx]))
    rw [kidW_cons]
    show ((if n.Parent = 0 then n.Weight else 0) + sumS N 0) + _ = n.Weight + allW N
    rcases h n (by simp) with e | e
    · rw [if_pos e, oneW_no M (fun m hm e2 => h1 m hm (e2.trans e))]; omega
    · have e0 : n.Parent ≠ 0 := by obtain ⟨m, hm, e2⟩ := e; rw [← e2]; exact h1 m hm
      rw [if_neg e0, oneW_yes M hs e]; omega
theorem allW_le : ∀ N : List Nd, (∀ n ∈ N, 1 ≤ n.Weight ∧ n.Weight ≤ 256) → 0 ≤ allW N ∧ allW N ≤ 256 * N.length
  | [], _ => ⟨Int.le_refl _, Int.le_refl _⟩
  | n :: N, h => by
    have h1 := allW_le N (fun x hx => h x (by simp [hx]))
    have h2 := h n (by simp)
    show 0 ≤ n.Weight + allW N ∧ n.Weight + allW N ≤ 256 * ((N.length + 1 : Nat) : Int)
    omega
theorem kidW_nn {N : List Nd} (h : ∀ n ∈ N, 1 ≤ n.Weight ∧ n.Weight ≤ 256) : ∀ M : List Nd, 0 ≤ kidW N M ∧ kidW N M ≤ 256 * N.length * M.length
  | [] => ⟨Int.le_refl _, by show (0 : Int) ≤ 256 * N.length * 0; omega⟩
  | m :: M => by
    have h1 := kidW_nn h M
    have h2 := sum_nn h m.ID
    have e : (256 * (N.length : Int)) * ((m :: M).length : Int) = 256 * (N.length : Int) * (M.length : Int) + 256 * (N.length : Int) := by
      rw [List.length_cons]; push_cast; rw [Int.mul_add, Int.mul_one]
    show 0 ≤ sumS N m.ID + kidW N M ∧ sumS N m.ID + kidW N M ≤ _
    omega
theorem d1_end {K : Int} {st : Fs} (h : FV K st) : ∃ l, fold_Below st 0 = some l ∧ (l.length : Int) = (st.Nodes.length : Int) := by
  obtain ⟨r, ht⟩ := h.tr
  have h0 : ∀ n ∈ st.Nodes, n.ID ≠ 0 := fun n hn => by have := ht.id n hn; omega
  obtain ⟨l, h1, h2, _⟩ := below_any h (id := 0) (.inl rfl)
  have hnd := bel_nodup ht (st.Nodes.length + 1) 0
  have ha := nodup_le hnd (m := st.Nodes.map (·.ID)) (fun z hz => by
    obtain ⟨n, hn, e⟩ := dsc_node (bel_mem _ 0 z h0 hz)
    exact List.mem_map.2 ⟨n, hn, e⟩)
  have hb := nodup_le (ids_nodup h.so) (m := belowS st.Nodes (st.Nodes.length + 1) 0) (fun z hz => by
    obtain ⟨n, hn, e⟩ := List.mem_map.1 hz
    rw [← e]
    exact bel_all ht _ 0 n.ID (hb_root ht) (dsc_root ht (r n.ID) hn (Nat.le_refl _)))
  rw [List.length_map] at ha hb
  exact ⟨l, h1, by omega⟩
theorem d1_L {K : Int} {st : Fs} (h : FV K st) : ∀ (r p : List Nd) (f : Nat), st.Nodes = p ++ r → r.length < f → sennitlaw34_FoldDeeper_L1 st.Room st.Keep st.Nodes st.Ended f (sumS st.Nodes 0 + kidW st.Nodes p) (allW p) (p.length : Int) = some true
  | [], p, f + 1, hp, _ => by
    obtain ⟨q, ht⟩ := h.tr
    rw [List.append_nil] at hp
    subst hp
    have hk := all_kid h.so (fun m hm => by have := ht.id m hm; omega) st.Nodes h.pa
    obtain ⟨l, hl1, hl2⟩ := d1_end h
    have hl1 : fold_Below ⟨st.Room, st.Keep, st.Nodes, st.Ended⟩ 0 = some l := hl1
    rw [sennitlaw34_FoldDeeper_L1]
    simp only [bndD, lt_len, bif_ff, decide_eq_true hk, beq_self_eq_true, gdtt, hl1, bnoS, decide_eq_true hl2, Bool.and_self, awake34]
  | y :: r, p, f + 1, hp, hf => by
    have hy : y ∈ st.Nodes := by rw [hp]; simp
    have hln := h.ln
    have hw : ∀ n ∈ st.Nodes, 1 ≤ n.Weight ∧ n.Weight ≤ 256 := fun n hn => (h.ra n hn).2
    have hrec := d1_L h r (p ++ [y]) f (next_at hp) (by simpa using hf)
    have hpl : p.length ≤ 24 := by rw [hp] at hln; simp at hln; omega
    have b1 := allW_le p (fun n hn => hw n (by rw [hp]; simp [hn]))
    have b2 := hw y hy
    have b3 := sum_nn hw 0
    have b4 := sum_nn hw y.ID
    have b5 := kidW_nn hw p
    have b6 : 256 * (st.Nodes.length : Int) * (p.length : Int) ≤ 6144 * 24 := Int.mul_le_mul (by omega) (by omega) (by omega) (by decide)
    have hs : fold_Sum ⟨st.Room, st.Keep, st.Nodes, st.Ended⟩ y.ID = some (sumS st.Nodes y.ID) := sum_any h (.inr ⟨y, hy, rfl⟩)
    obtain ⟨l, hl1, hl2, hl3⟩ := below_any h (id := y.ID) (.inr ⟨y, hy, rfl⟩)
    have hl1 : fold_Below ⟨st.Room, st.Keep, st.Nodes, st.Ended⟩ y.ID = some l := hl1
    rw [allW_app, kidW_app, show allW [y] = y.Weight + 0 from rfl, show kidW st.Nodes [y] = sumS st.Nodes y.ID + 0 from rfl, Int.add_zero, Int.add_zero, ← Int.add_assoc] at hrec
    have hln2 : l.length ≤ 1000 := by
      obtain ⟨q, ht⟩ := h.tr
      have hnd := bel_nodup ht (st.Nodes.length + 1) y.ID
      have ha := nodup_le hnd (m := st.Nodes.map (·.ID)) (fun z hz => by
        obtain ⟨n, hn, e⟩ := dsc_node (bel_mem _ y.ID z (fun n hn => by have := ht.id n hn; omega) hz)
        exact List.mem_map.2 ⟨n, hn, e⟩)
      rw [List.length_map] at ha
      omega
    have h2 := d2_L h hy (v := (p.length : Int)) (a := allW p + y.Weight) (b := sumS st.Nodes 0 + kidW st.Nodes p + sumS st.Nodes y.ID) (kk := sennitlaw34_FoldDeeper_L1 st.Room st.Keep st.Nodes st.Ended f) hln2 hl3 l [] fuel rfl (fuel_gt (by omega))
    have h2 : sennitlaw34_FoldDeeper_L2 st.Room st.Keep st.Nodes st.Ended (p.length : Int) (sennitlaw34_FoldDeeper_L1 st.Room st.Keep st.Nodes st.Ended f) y (allW p + y.Weight) (sumS st.Nodes 0 + kidW st.Nodes p + sumS st.Nodes y.ID) l fuel 0 = _ := h2
    rw [sennitlaw34_FoldDeeper_L1]
    simp only [bndD, lt_at hp, bif_tt, gix_at hp, bnoS, hs, hl1, w64 (show -9223372036854775808 ≤ allW p + y.Weight by omega) (by omega), w64 (show -9223372036854775808 ≤ sumS st.Nodes 0 + kidW st.Nodes p + sumS st.Nodes y.ID by omega) (by omega)]
    rw [h2, w_at hp (by omega)]
    exact hrec
theorem d0_L {ds : List Fo} (hl : ds.length ≤ 60) (hd : ∀ d ∈ ds, I64 d.ID) (r : List Fo) : ∀ (p : List Fo) (f : Nat) (st : Fs), ds = p ++ r → r.length < f → FV 4 st → sennitlaw34_FoldDeeper_L0 ds f (p.length : Int) st.Room st.Keep st.Nodes st.Ended = some true := by
  induction r with
  | nil =>
    intro p f st h hf hst
    obtain ⟨f, rfl⟩ : ∃ g, f = g + 1 := ⟨f - 1, by omega⟩
    have hs : fold_Sum ⟨st.Room, st.Keep, st.Nodes, st.Ended⟩ 0 = some (sumS st.Nodes 0) := sum_any hst (.inl rfl)
    have hln := hst.ln
    have h1 := d1_L hst st.Nodes [] fuel rfl (fuel_gt (by omega))
    rw [show kidW st.Nodes [] = 0 from rfl, show allW [] = 0 from rfl, Int.add_zero] at h1
    rw [List.append_nil] at h
    rw [sennitlaw34_FoldDeeper_L0, bndD, ← h, lt_len, bif_ff, hs, bnoS]
    exact h1
  | cons d r ih =>
    intro p f st h hf hst
    obtain ⟨f, rfl⟩ : ∃ g, f = g + 1 := ⟨f - 1, by omega⟩
    obtain ⟨st', e, h1, h2⟩ := do_any hst d (hd d (by rw [h]; simp))
    have h1 : fold_Do ⟨st.Room, st.Keep, st.Nodes, st.Ended⟩ d = some (st', e) := h1
    rw [sennitlaw34_FoldDeeper_L0, bndD, lt_at h, bif_tt, gix_at h, bnoS, h1, bnoS, bndD, w_at h (show ds.length ≤ 1000000 by omega)]
    exact ih (p ++ [d]) f st' (next_at h) (by simpa using hf) h2
theorem foldDeeper {ds : List Fo} (hd : ∀ d ∈ ds, I64 d.ID) : sennitlaw34_FoldDeeper ds = some true := by
  unfold sennitlaw34_FoldDeeper
  rw [bndD]
  by_cases hl : 60 < (ds.length : Int)
  · rw [decide_eq_true hl, bif_tt, awake34, bnoS]
  · rw [decide_eq_false hl, bif_ff]
    exact d0_L (ds := ds) (by omega) hd ds [] fuel ⟨24, 4, [], []⟩ rfl (fuel_gt (by omega)) (fv_keep fv_start (by decide) (by decide))
end Go.Fn
open Go.RowKit Go.WideShapes Go.ChangeShapes
namespace Go.IL

/-! A law's arguments: how they read. -/
def Spotless (v : Value) : Prop := ∀ a n c, v = .slice (some a) n c → a.spot = none
theorem spot_cell {P : Program} {w : World} {r : Reach} {b : Nat} {t : TypeId} {v : Value} (h : Cell.okWide P w r b t v) : Spotless v := by
  intro a n c e
  subst e
  have h2 : Cell.ok P w r b t (.slice (some a) n c) := by
    unfold Cell.okWide at h
    split at h <;> first | exact h | (rename_i h3 _; cases h3) | (rename_i h3; cases h3) | skip
    all_goals first | exact h | simp_all
  unfold Cell.ok at h2
  split at h2 <;> simp_all [World.has]
theorem spot_val {P : Program} {w : World} {r : Reach} {b : Nat} {t : TypeId} {v : Value} (h : Value.okWide P w r b t v) : ∀ u ∈ v.cells.toList, Spotless u := by
  have agg : ∀ cs : Array Value, Row.okWide P w r b t cs → ∀ u ∈ cs.toList, Spotless u := by
    intro cs ⟨ts, _, _, h3⟩ u hu
    obtain ⟨i, hi⟩ := List.getElem?_of_mem hu
    obtain ⟨q, _, hq⟩ := h3 i u (by simpa using hi)
    exact spot_cell hq
  unfold Value.okWide at h
  split at h
  · obtain ⟨cs, rfl, _, h⟩ := h; simpa [Value.cells] using agg cs h
  · obtain ⟨cs, rfl, _, h⟩ := h; simpa [Value.cells] using agg cs h
  · have h2 := spot_cell h
    intro u hu
    cases v with
    | agg cs =>
      exfalso
      unfold Cell.okWide at h
      split at h <;> simp_all [Cell.ok]
    | _ => simp [Value.cells] at hu; subst hu; exact h2

def Env.none (w : World) : Env := ⟨w, fun _ _ => False⟩
/-- What the cells of a type read as. -/
def OpD (P : Program) (sp : Bool) (t : TypeId) (Q : List D → Prop) : Prop :=
  ∀ {H : Type} {enc : TypeId × Value → H} {w : World} {base : Nat} {spare : Nat → Bool} {held : Bool} {fuel : Nat} {cs : List Value} {x : DataW H × List MemPlace},
    DataW.trod enc P w base spare held fuel t cs = some x → (sp = true → ∀ v ∈ cs, Spotless v) → ∃ ds, RdL (Env.none w) β0 cs ds ∧ Q ds
def qInt (k : IntKind) (ds : List D) : Prop := ∃ n : Int, ds = [.int k n] ∧ (k.min ≤ n ∧ n ≤ k.max)
def qBool (ds : List D) : Prop := ∃ b : Bool, ds = [.bool b]
def qSlice {α : Type} (f : Enc α) (wf : α → Prop) (ds : List D) : Prop := ∃ l : List α, ds = [.slice false (l.map f.d)] ∧ l.length ≤ 9223372036854775807 ∧ ∀ x ∈ l, wf x
def qList : List (List D → Prop) → List D → Prop
  | [], ds => ds = []
  | Q :: Qs, ds => ∃ a b, ds = a ++ b ∧ Q a ∧ qList Qs b

section
variable {P : Program} {sp : Bool} {t : TypeId}
theorem opd_int {k : IntKind} (hu : P.underlying t = some (.int k)) : OpD P sp t (qInt k) := by
  intro H enc w base spare held fuel cs x h _
  obtain ⟨n, rfl, rfl, hw⟩ := DataW.trod_int hu h
  exact ⟨[.int k n], .cons (.int _ _ _) (.nil _), n, rfl, by simpa [Lit.wf] using hw⟩
theorem opd_bool (hu : P.underlying t = some .bool) : OpD P sp t qBool := by
  intro H enc w base spare held fuel cs x h _
  obtain ⟨b, rfl, rfl⟩ := DataW.trod_bool hu h
  exact ⟨[.bool b], .cons (.bool _ _) (.nil _), b, rfl⟩
theorem opd_slice {α : Type} {f : Enc α} {e : TypeId} {wf : α → Prop} (hu : P.underlying t = some (.slice e)) (hc : P.cellsOf e = f.sz) (he : OpD P false e (fun ds => ∃ a, ds = (f.d a).cells ∧ wf a)) : OpD P sp t (qSlice f wf) := by
  intro H enc w base spare held fuel cs x h hs
  rcases DataW.trod_slice hu h with ⟨rfl, _⟩ | ⟨a, len, cap, elems, rest, n, _, rfl, rfl, hb, hl, hm, hlen, hel, _, _⟩
  · exact ⟨[.slice false []], .cons (.nslice _ _) (.nil _), [], rfl, by simp, by simp⟩
  · by_cases hl0 : len = 0
    · subst hl0; exact ⟨[.slice false []], .cons (.eslice _ a cap false (fun h => by cases h)) (.nil _), [], rfl, by simp, by simp⟩
    have hsp0 : a.spot = none := by
      have h1 := hel 0 (by omega)
      have h2 : elems[0]? = some (elems[0]'(by omega)) := List.getElem?_eq_getElem _
      rw [h2, Option.bind_eq_some_iff] at h1
      obtain ⟨vs, h3, _⟩ := h1
      have h7 := World.cells?_some h3
      have hp := f.pos
      have h8 := h7.2.2 0 (by rw [hc]; exact hp)
      rw [Nat.zero_mul] at h8
      have e0 : ((a.add 0).add 0) = a := rfl
      rw [e0] at h8
      cases hsp : a.spot with
      | none => rfl
      | some q =>
        exfalso
        unfold World.cell? at h8
        rw [hsp] at h8
        split at h8
        · simp at h8; have := h7.1; simp_all
        · have := h7.1; simp_all
    have ha : a = ⟨a.block, a.off, none⟩ := by cases a; simp_all
    have each : ∀ i, i < len → ∃ (vs : List Value) (y : α), (∀ k v, vs[k]? = some v → w.cell? ⟨a.block, a.off + (i * f.sz + k), none⟩ = some v) ∧ RdL (Env.none w) β0 vs (f.d y).cells ∧ wf y := by
      intro i hi
      have h1 := hel i hi
      have h2 : elems[i]? = some (elems[i]'(by omega)) := List.getElem?_eq_getElem _
      rw [h2, Option.bind_eq_some_iff] at h1
      obtain ⟨vs, h3, h4⟩ := h1
      obtain ⟨ds, h5, y, rfl, h6⟩ := he h4 (by simp)
      refine ⟨vs, y, fun k v hk => ?_, h5, h6⟩
      have h7 := World.cells?_some h3
      have hk' := (List.getElem?_eq_some_iff.1 hk).1
      have h8 := h7.2.2 k (by omega)
      rw [hk, ha, hc] at h8
      rw [← h8]
      congr 1
      by_cases h9 : i * f.sz = 0
      · by_cases h10 : k = 0
        · simp [Addr.add, h9, h10]
        · simp [Addr.add, h9, h10]
      · by_cases h10 : k = 0
        · simp [Addr.add, h9, h10]
        · simp [Addr.add, h9, h10, Nat.add_assoc]
    have all : ∀ m, m ≤ len → ∃ (vs : List Value) (l : List α), l.length = m ∧ (∀ k v, vs[k]? = some v → w.cell? ⟨a.block, a.off + k, none⟩ = some v) ∧ RdL (Env.none w) β0 vs (D.flat (l.map f.d)) ∧ ∀ y ∈ l, wf y := by
      intro m
      induction m with
      | zero => intro _; exact ⟨[], [], rfl, by simp, .nil _, by simp⟩
      | succ m ih =>
        intro hm'
        obtain ⟨vs, l, h1, h2, h3, h4⟩ := ih (by omega)
        obtain ⟨us, y, h5, h6, h7⟩ := each m (by omega)
        have hvl : vs.length = m * f.sz := by rw [h3.length, f.flat_len, h1]
        refine ⟨vs ++ us, l ++ [y], by simp [h1], fun k v hk => ?_, ?_, ?_⟩
        · by_cases hk' : k < vs.length
          · exact h2 k v (by rwa [List.getElem?_append_left hk'] at hk)
          · rw [List.getElem?_append_right (by omega)] at hk
            have := h5 _ _ hk
            rwa [hvl, show m * f.sz + (k - m * f.sz) = k by omega] at this
        · rw [List.map_append]
          have e2 : D.flat (l.map f.d ++ [y].map f.d) = D.flat (l.map f.d) ++ (f.d y).cells := by simp [D.flat]
          rw [e2]; exact h3.append h6
        · intro z hz
          rcases List.mem_append.1 hz with h | h
          · exact h4 z h
          · simp at h; subst h; exact h7
    obtain ⟨vs, l, h1, h2, h3, h4⟩ := all len (Nat.le_refl _)
    refine ⟨[.slice false (l.map f.d)], .cons ?_ (.nil _), l, rfl, by unfold maxLen at hm; omega, h4⟩
    rw [ha]
    exact .slice _ _ _ len cap f.sz false vs _ (by rw [List.length_map, h1]) hl (by simp) (f.len l) f.pos (fun k v hk => ⟨h2 k v hk, fun h => h⟩) h3

/-- The fields of a struct, one behind the other. -/
def fieldsAt (P : Program) : Nat → List Field → Bool
  | _, [] => true
  | k, f :: fs => f.offset == k && fieldsAt P (k + P.cellsOf f.type) fs
inductive OpFs (P : Program) (sp : Bool) : List Field → List (List D → Prop) → Prop
  | nil : OpFs P sp [] []
  | cons {f fs Q Qs} (h : OpD P sp f.type Q) (t : OpFs P sp fs Qs) : OpFs P sp (f :: fs) (Q :: Qs)
theorem opd_struct {fs : Array Field} {Qs : List (List D → Prop)} (hu : P.underlying t = some (.struct fs)) (hf : fieldsAt P 0 fs.toList = true) (hn : P.cellsOf t = (fs.toList.map fun f => P.cellsOf f.type).sum) (h : OpFs P sp fs.toList Qs) : OpD P sp t (qList Qs) := by
  intro H enc w base spare held fuel cs x hx hs
  obtain ⟨xs, n, _, _, hlen, hxl, hfld⟩ := DataW.trod_struct hu hx
  have key : ∀ (l : List Field) (Qs : List (List D → Prop)) (k : Nat), OpFs P sp l Qs → fieldsAt P k l = true → k + (l.map fun f => P.cellsOf f.type).sum = cs.length →
      (∀ f ∈ l, ∃ y, DataW.trod enc P w base spare held n f.type ((cs.drop f.offset).take (P.cellsOf f.type)) = some y) → ∃ ds, RdL (Env.none w) β0 (cs.drop k) ds ∧ qList Qs ds := by
    intro l Qs k ho
    induction ho generalizing k with
    | nil =>
      intro _ h1 _
      refine ⟨[], ?_, rfl⟩
      rw [List.drop_of_length_le (by simp at h1; omega)]; exact .nil _
    | @cons f fs Q Qs h t ih =>
      intro h1 h2 h3
      simp only [fieldsAt, Bool.and_eq_true, beq_iff_eq] at h1
      simp only [List.map_cons, List.sum_cons] at h2
      obtain ⟨y, hy⟩ := h3 f (by simp)
      rw [h1.1] at hy
      obtain ⟨ds, h4, h5⟩ := h hy (fun hsp v hv => hs hsp v (List.mem_of_mem_drop (List.mem_of_mem_take hv)))
      obtain ⟨es, h6, h7⟩ := ih (k + P.cellsOf f.type) h1.2 (by omega) (fun g hg => h3 g (by simp [hg]))
      refine ⟨ds ++ es, ?_, ds, es, rfl, h5, h7⟩
      have := h4.append h6
      rwa [← List.drop_drop, List.take_append_drop] at this
  have := key fs.toList Qs 0 h hf (by rw [Nat.zero_add, ← hn, hlen]) (fun f hf => by
    obtain ⟨i, hi⟩ := List.getElem?_of_mem hf
    have h1 := hfld i f (by simpa using hi)
    have h2 : i < xs.length := by rw [hxl]; have := (List.getElem?_eq_some_iff.1 hi).1; simpa using this
    exact ⟨xs[i], by rw [h1, List.getElem?_eq_getElem h2]⟩)
  rwa [List.drop_zero] at this
theorem OpD.to {Q R : List D → Prop} (h : OpD P sp t Q) (k : ∀ ds, Q ds → R ds) : OpD P sp t R := by
  intro H enc w base spare held fuel cs x hx hs
  obtain ⟨ds, h1, h2⟩ := h hx hs
  exact ⟨ds, h1, k ds h2⟩
/-- An argument. -/
theorem opd_val {Q : List D → Prop} (h : OpD P true t Q) {H : Type} {enc : TypeId × Value → H} {w : World} {base b0 : Nat} {spare : Nat → Bool} {held : Bool} {v : Value} {d : DataW H} {ps : List MemPlace} {r : Reach}
    (hv : Value.okWide P w r b0 t v) (hd : DataW.Trod enc P w base spare held t v d ps) : ∃ ds, RdL (Env.none w) β0 v.cells.toList ds ∧ Q ds := by
  obtain ⟨fuel, hf⟩ := hd
  exact h hf (fun _ => spot_val hv)
theorem rd_scalar {E : Env} {v : Value} {d : D} (h : RdL E β0 v.cells.toList [d]) (hn : ∀ cs, v ≠ .agg cs) : Rd E β0 v d := by
  cases v with
  | agg cs => exact absurd rfl (hn cs)
  | _ => simp [Value.cells] at h; cases h with | cons h _ => exact h
section
variable {H : Type} {enc : TypeId × Value → H}
theorem trodAll_below (hl : laidOutB P = true) {W W' : World} (hb : Below W.heap.size W W') {sp : Nat → Bool} : ∀ {ts : List TypeId} {vs : List Value} {ds : List (DataW H)} {ps : List MemPlace},
    (∀ t ∈ ts, P.readableRec t = true ∧ t < P.types.size) → DataW.TrodAll enc P W 0 (fun _ => true) true ts vs ds ps → (∀ x ∈ ps, x.block < W.heap.size) → (∀ x ∈ ps, sp x.block = true) →
    DataW.TrodAll enc P W' 0 sp true ts vs ds ps
  | [], vs, ds, ps, _, h, _, _ => by
    obtain ⟨rfl, rfl, rfl⟩ := trodAll_nil h; exact rfl
  | t :: ts, vs, ds, ps, hr, h, hlt, hsp => by
    obtain ⟨v, vs', d, ds', p, q, rfl, rfl, rfl, h1, h2⟩ := trodAll_cons h
    refine ⟨p, q, ?_, trodAll_below hl hb (fun t ht => hr t (by simp [ht])) h2 (fun x hx => hlt x (by simp [hx])) (fun x hx => hsp x (by simp [hx])), rfl⟩
    have hx : ∀ x ∈ p, x ∈ p ++ q := fun x hx => by simp [hx]
    exact WideElems.Trod_stays hl (hr t (by simp)).1 (hr t (by simp)).2 h1 (fun x hxp => hb.same (hlt x (hx x hxp))) (fun x hxp => hsp x (hx x hxp))
theorem post_of_below {f : Func} {s : ChangeSpec} {apart fresh handsOn again : Bool} {W W' : World} {args : Array Value} {v : Value} {ds gs : List (DataW H)} {before pa pv : List MemPlace}
    (hW : DataW.Whole enc P f.params.toList s.vars apart W args.toList ds gs before)
    (hres : ∀ (b : Nat) (sp : Nat → Bool) (hd : Bool), DataW.TrodAll enc P W' b sp hd f.resultTypes.toList (v.resultList f.resultTypes.size) (s.fn H (ds ++ gs)).results [])
    (hargs : ∀ sp : Nat → Bool, (∀ p ∈ before, sp p.block = true) → DataW.TrodAll enc P W' 0 sp true f.params.toList args.toList (s.fn H (ds ++ gs)).args pa)
    (hvars : ∀ sp : Nat → Bool, (∀ p ∈ before, sp p.block = true) → DataW.TrodVars enc P W' sp s.vars (s.fn H (ds ++ gs)).vars pv)
    (hps : before = pa ++ pv) (hb : Below W.heap.size W W')
    (hok : ∀ (j : Nat) (t : TypeId) (r : Value), f.resultTypes[j]? = some t → (v.resultList f.resultTypes.size)[j]? = some r → Value.okWide P W' .any 0 t r) :
    s.post enc P f apart fresh handsOn again W args v W' := by
  have hlt : ∀ p ∈ before, p.block < W.heap.size := fun p hp => hW.lt p hp
  have hold : ∀ p ∈ before, (fun b => decide (b < W.heap.size)) p.block = true := fun p hp => by simpa using hlt p hp
  refine ⟨ds, gs, before, [], pa, pv, hW, hres _ _ _, hargs _ hold, hvars _ hold, World.keptBut_mono (fun p hp => ⟨hp, ?_⟩) (hb.frame (· ∈ before)), fun _ => ?_⟩
  · rw [hps, List.mem_append] at hp
    exact Or.inr hp
  · obtain ⟨_, _, _, _, _, hz, hn⟩ := hW
    refine ⟨hok, _, _, ([] ++ pa) ++ pv, ⟨[] ++ pa, pv, trodAll_append (hargs _ (fun _ _ => rfl)) (hres _ _ _), hvars _ (fun _ _ => rfl), rfl, ?_, ?_⟩, ?_⟩
    · intro b off hp
      have hin : MemPlace.cell b off ∈ before := by rw [hps]; simpa using hp
      rw [hb.frozen (hlt _ hin)]
      exact hz b off hin
    · intro ha
      have := hn ha
      rw [hps] at this
      simpa using this
    · intro p hp _
      rw [hps]
      simpa using hp
theorem law_post {f : Func} {s : ChangeSpec} {apart fresh handsOn again : Bool} {W W' : World} {args : Array Value} {ds gs : List (DataW H)} {before : List MemPlace} {tb : TypeId}
    (hl : laidOutB P = true) (hr : ∀ t ∈ f.params.toList, P.readableRec t = true ∧ t < P.types.size) (hv : s.vars = []) (hres : f.resultTypes = #[tb]) (hbool : P.underlying tb = some .bool)
    (hfn : s.fn H (ds ++ gs) = { results := [.lit (.bool true)], args := ds })
    (hW : DataW.Whole enc P f.params.toList s.vars apart W args.toList ds gs before) (hb : Below W.heap.size W W') : s.post enc P f apart fresh handsOn again W args (.bool true) W' := by
  have hW' := hW
  obtain ⟨p, q, hA, hV, hbef, hfz, hnd⟩ := hW
  rw [hv] at hV
  obtain ⟨rfl, rfl⟩ := trodVars_none hV
  have hlt : ∀ x ∈ before, x.block < W.heap.size := fun x hx => hW'.lt x hx
  have hsub : ∀ x ∈ p, x ∈ before := fun x hx => by rw [hbef]; simp [hx]
  refine post_of_below (pa := p) (pv := []) hW' ?_ ?_ ?_ ?_ hb ?_
  · intro b sp hd
    rw [hfn, hres]
    exact trodAll_mk1 (shut_bool hbool true)
  · intro sp hsp
    rw [hfn]
    exact trodAll_below hl hb hr hA (fun x hx => hlt x (hsub x hx)) (fun x hx => hsp x (hsub x hx))
  · intro sp hsp
    rw [hfn, hv]; exact rfl
  · exact hbef
  · exact ok_one hres rfl (okWide_bool_mk hbool true)
end
end
end Go.IL
namespace Go.IL
theorem rd_arg_one {P : Program} {w W : World} {r : Reach} {b : Nat} {t : TypeId} {v : Value} {d : D} (hv : Value.okWide P W r b t v) (hg : aggOf P t = false) (h : RdL (Env.none w) β0 v.cells.toList [d]) : Rd (Env.none w) β0 v d := by
  refine rd_scalar h fun cs e => ?_
  subst e
  unfold aggOf at hg
  unfold Value.okWide at hv
  split at hv
  · rename_i h1; rw [h1] at hg; cases hg
  · rename_i h1; rw [h1] at hg; cases hg
  · unfold Cell.okWide at hv
    split at hv <;> simp_all [Cell.ok]
end Go.IL
open Go.RowKit Go.WideShapes Go.ChangeShapes
namespace Go.IL
end Go.IL
