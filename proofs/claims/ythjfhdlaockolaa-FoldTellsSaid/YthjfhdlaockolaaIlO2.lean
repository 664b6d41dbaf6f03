/-
  A part of the proof: rules and plain facts. No condition.
-/
import Derived.Test.YthjfhdlaockolaaIlP86
import Derived.Test.YthjfhdlaockolaaIlTr
import Derived.ProofKit
import Derived.OpenShut
set_option linter.all false
set_option linter.unusedSimpArgs false
set_option linter.unusedVariables false
open Go Go.IL
namespace Go.Fn
/-! Fold: what is told of any state (FoldTells). -/
/-- A search in any list ends. -/
theorem bs_end {N : List Nd} (hl : N.length ≤ 1000) (id : Int) : ∀ (f lo hi : Nat), hi - lo < f → lo ≤ hi → hi ≤ N.length → ∃ r, slices_BinarySearchFunc_ptree_Node_ptree_Node_int_find_1_L0 N id f (lo : Int) (hi : Int) = some r
  | 0, lo, hi, h, _, _ => absurd h (by omega)
  | f + 1, lo, hi, h, h1, h2 => by
    rw [slices_BinarySearchFunc_ptree_Node_ptree_Node_int_find_1_L0, bndD]
    by_cases hlt : lo < hi
    · have hm : (lo + hi) / 2 < N.length := by omega
      have e1 : shrI .u64 ((lo : Int) + (hi : Int)) 1 = some (((lo + hi) / 2 : Nat) : Int) := by
        rw [shr_at (k := .u64) (b := 1) 1 rfl (by decide)]; congr 1
      have hg : N[(lo + hi) / 2]? = some N[(lo + hi) / 2] := List.getElem?_eq_getElem hm
      have hc : fold_State_find_1 N[(lo + hi) / 2] id = some (IntKind.wrap .i64 (N[(lo + hi) / 2].ID - id)) := rfl
      simp only [bndD, decide_eq_true (show (lo : Int) < (hi : Int) by omega), bif_tt, w64 (show -9223372036854775808 ≤ (lo : Int) + (hi : Int) by omega) (by omega), wU64 (show 0 ≤ (lo : Int) + (hi : Int) by omega) (by omega), e1, bnoS,
        w64 (show -9223372036854775808 ≤ (((lo + hi) / 2 : Nat) : Int) by omega) (by omega), gix_nat, hg, hc]
      by_cases hx : IntKind.wrap .i64 (N[(lo + hi) / 2].ID - id) < 0
      · rw [decide_eq_true hx, bif_tt, w64 (by omega) (by omega)]
        have := bs_end hl id f ((lo + hi) / 2 + 1) hi (by omega) (by omega) h2
        exact this
      · rw [decide_eq_false hx, bif_ff]
        exact bs_end hl id f lo ((lo + hi) / 2) (by omega) (by omega) (by omega)
    · simp only [bndD, decide_eq_false (show ¬ (lo : Int) < (hi : Int) by omega), bif_ff]
      by_cases hl' : lo < N.length
      · have hg : N[lo]? = some N[lo] := List.getElem?_eq_getElem hl'
        have hc : fold_State_find_1 N[lo] id = some (IntKind.wrap .i64 (N[lo].ID - id)) := rfl
        simp only [decide_eq_true (show (lo : Int) < (N.length : Int) by omega), beq_self_eq_true, gdtt, gix_nat, hg, bnoS, hc]
        exact ⟨_, rfl⟩
      · simp only [decide_eq_false (show ¬ (lo : Int) < (N.length : Int) by omega), ft, gdff, bnoS, Bool.false_and]
        exact ⟨_, rfl⟩
theorem find_end {st : Fs} (hl : st.Nodes.length ≤ 1000) (id : Int) : ∃ r, fold_State_find st id = some r := by
  obtain ⟨r, h⟩ := bs_end hl id fuel 0 st.Nodes.length (fuel_gt (by omega)) (Nat.zero_le _) (Nat.le_refl _)
  exact ⟨r, find_st st id h⟩
def hasB (N : List Nd) (id : Int) : Bool := N.any fun n => decide (n.ID = id)
section
variable {st : Fs}
theorem thereF (h : GV st) (hc : fold_Check st = some 0) {id : Int} (h64 : I64 id) : fold_State_there st id = some (hasB st.Nodes id) := by
  obtain ⟨r, h1, h2⟩ := find34 h.ok h64
  unfold fold_State_there
  rw [h1, bnoS]
  cases h2 with
  | yes A y C hN he hA hC =>
    have e : hasB st.Nodes id = true := any_lost.2 ⟨y, by rw [hN]; simp, he⟩
    simp only [beq_self_eq_true, gdtt, hc, bnoS, bndD, decide_true, Bool.and_self, e]
  | no p hp hno _ =>
    have e : hasB st.Nodes id = false := by
      rw [← Bool.not_eq_true]
      exact fun hh => by obtain ⟨n, hn, e⟩ := any_lost.1 hh; exact hno n hn e
    simp only [ft, gdff, bnoS, bndD, Bool.false_and, e]
theorem thereF0 (hl : st.Nodes.length ≤ 1000) {c : Int} (hc : fold_Check st = some c) (h0 : c ≠ 0) (id : Int) : fold_State_there st id = some false := by
  obtain ⟨r, h1⟩ := find_end hl id
  unfold fold_State_there
  rw [h1, bnoS]
  cases r.2
  · simp only [ft, gdff, bnoS, bndD, Bool.false_and]
  · simp only [beq_self_eq_true, gdtt, hc, bnoS, bndD, decide_eq_false h0, Bool.and_false]
theorem thereR (h : GV st) (hc : sennitref34_Check st = some 0) (id : Int) : sennitref34_there st id = some (hasB st.Nodes id) := by
  obtain ⟨i, h1, h2⟩ := pl_any (t := tre st) h.ok.ln id
  have h1 : sennitref19_Tree_Place (tre st) id = some i := h1
  have ht : sennitref34_tree st = some (tre st) := rfl
  unfold sennitref34_there
  simp only [hc, bnoS, bndD, decide_true, beq_self_eq_true, gdtt, ht, h1]
  cases h2 with
  | yes A y C hN he hA =>
    have e : hasB st.Nodes id = true := any_lost.2 ⟨y, by show y ∈ (tre st).L; rw [hN]; simp, he⟩
    rw [e, decide_eq_true (by omega)]; rfl
  | no hno =>
    have e : hasB st.Nodes id = false := by
      rw [← Bool.not_eq_true]
      exact fun hh => by obtain ⟨n, hn, e⟩ := any_lost.1 hh; exact hno n hn e
    rw [e]; rfl
theorem thereR0 {c : Int} (hc : sennitref34_Check st = some c) (h0 : c ≠ 0) (id : Int) : sennitref34_there st id = some false := by
  unfold sennitref34_there
  simp only [hc, bnoS, bndD, decide_eq_false h0, ft, gdff, Bool.false_and]
theorem has_ex {N : List Nd} {id : Int} (h : hasB N id = true) : ∃ n ∈ N, n.ID = id := any_lost.1 h
theorem path_all {N : List Nd} {r : Int → Nat} (h : Tr N r) {id : Int} (hx : ∃ n ∈ N, n.ID = id) : pathS N (N.length + 1) id = pathS N N.length id := by
  obtain ⟨n, hn, e⟩ := hx
  obtain ⟨h1, h2⟩ := path_short h.so h.rk h.pa N.length n.ID ⟨n, hn, rfl⟩
  have h3 := nodup_le h1 h2
  rw [List.length_cons, List.length_map] at h3
  rw [← e]
  exact path_stop N.length n.ID (by omega)
theorem rpathG (h : GV st) {id : Int} (hx : ∃ n ∈ st.Nodes, n.ID = id) : sennitref19_Tree_Path (tre st) id = some (pathS st.Nodes st.Nodes.length id) := by
  obtain ⟨r, ht⟩ := h.fv.tr
  have := rpath (t := tre st) h.ok.ln (fun n hn => by have := ht.id n hn; omega) id
  rw [this]
  exact congrArg some (path_all ht hx)
theorem fpathG (h : GV st) {id : Int} (hx : ∃ n ∈ st.Nodes, n.ID = id) : fold_State_path_h st id = some (pathS st.Nodes st.Nodes.length id) := by
  obtain ⟨n, hn, e⟩ := hx
  have := h.ok.ra n hn
  exact path34 h.ok ⟨by omega, by omega⟩
theorem depths (h : GV st) {id : Int} (hx : ∃ n ∈ st.Nodes, n.ID = id) (h1 : fold_State_there st id = some true) (h2 : sennitref34_there st id = some true) : ∃ d, fold_Depth st id = some d ∧ sennitref34_Depth st id = some d := by
  have ht : sennitref34_tree st = some (tre st) := rfl
  refine ⟨IntKind.wrap .i64 (((pathS st.Nodes st.Nodes.length id).length : Int) + 1), ?_, ?_⟩
  · unfold fold_Depth
    simp only [h1, bnoS, Bool.not_true, bif_ff, fpathG h hx, bndD]
  · unfold sennitref34_Depth
    simp only [h2, bnoS, Bool.not_true, bif_ff, ht, rpathG h hx, bndD]
/-- The first of a list that is in another one. -/
def firstIn (m : List Int) : List Int → Int
  | [] => 0
  | x :: l => if x ∈ m then x else firstIn m l
theorem first_eq {m k : List Int} (h : ∀ x, x ∈ m ↔ x ∈ k) : ∀ l, firstIn m l = firstIn k l
  | [] => rfl
  | x :: l => by
    unfold firstIn
    rw [first_eq h l]
    simp only [h]
theorem fmeet_L {x6 x8 : List Int} (h6 : x6.length ≤ 1000) (h8 : x8.length ≤ 1000) : ∀ (r p : List Int) (f : Nat), x8 = p ++ r → r.length < f → fold_Meet_L0 x6 x8 f (p.length : Int) = some (firstIn x6 r)
  | [], p, f + 1, h, _ => by
    rw [List.append_nil] at h
    rw [fold_Meet_L0]
    simp only [bndD, h, lt_len, bif_ff]; rfl
  | z :: r, p, f + 1, h, hf => by
    have hrec := fmeet_L h6 h8 r (p ++ [z]) f (next_at h) (by simpa using hf)
    rw [fold_Meet_L0]
    simp only [bndD, lt_at h, bif_tt, gix_at h, get_app h, bnoS, cint (l := x6) (x := z) (by omega), w_at h (show x8.length ≤ 1000000 by omega)]
    unfold firstIn
    by_cases e : z ∈ x6
    · rw [decide_eq_true e, if_pos e]; rfl
    · rw [decide_eq_false e, if_neg e]; exact hrec
theorem rmeet_L {x5 x6 : List Int} (h5 : x5.length ≤ 1000) (h6 : x6.length ≤ 1000) : ∀ (r p : List Int) (f : Nat), x5 = p ++ r → r.length < f → sennitref34_Meet_L0 x5 x6 f (p.length : Int) = some (firstIn x6 r)
  | [], p, f + 1, h, _ => by
    rw [List.append_nil] at h
    rw [sennitref34_Meet_L0]
    simp only [bndD, h, lt_len, bif_ff]; rfl
  | z :: r, p, f + 1, h, hf => by
    have hrec := rmeet_L h5 h6 r (p ++ [z]) f (next_at h) (by simpa using hf)
    rw [sennitref34_Meet_L0]
    simp only [bndD, lt_at h, bif_tt, gix_at h, bnoS, in19 (l := x6) (x := z) (by omega), w_at h (show x5.length ≤ 1000000 by omega)]
    unfold firstIn
    by_cases e : z ∈ x6
    · rw [decide_eq_true e, if_pos e]; rfl
    · rw [decide_eq_false e, if_neg e]; exact hrec
theorem meets (h : GV st) {a b : Int} (ha : ∃ n ∈ st.Nodes, n.ID = a) (hb : ∃ n ∈ st.Nodes, n.ID = b) (f1 : fold_State_there st a = some true) (f2 : fold_State_there st b = some true) (r1 : sennitref34_there st a = some true) (r2 : sennitref34_there st b = some true) : ∃ d, fold_Meet st a b = some d ∧ sennitref34_Meet st a b = some d := by
  have ht : sennitref34_tree st = some (tre st) := rfl
  have hla := path_len st.Nodes st.Nodes.length a
  have hlb := path_len st.Nodes st.Nodes.length b
  have hln := h.ok.ln
  have hln2 := h.ln
  have hrm := h.rm
  have e1 : app 8 (pathS st.Nodes st.Nodes.length b) [b] = some (pathS st.Nodes st.Nodes.length b ++ [b]) := app_ok (by simp; omega) (by simp; omega)
  have e2 : app 8 [a] (pathS st.Nodes st.Nodes.length a) = some (a :: pathS st.Nodes st.Nodes.length a) := by rw [app_ok (by simp; omega) (by simp; omega)]; rfl
  have e3 : app 8 [b] (pathS st.Nodes st.Nodes.length b) = some (b :: pathS st.Nodes st.Nodes.length b) := by rw [app_ok (by simp; omega) (by simp; omega)]; rfl
  have l1 : sennitref34_line st a = some (a :: pathS st.Nodes st.Nodes.length a) := by
    unfold sennitref34_line
    rw [ht, bnoS, rpathG h ha, bnoS, e2, bnoS]
  have l2 : sennitref34_line st b = some (b :: pathS st.Nodes st.Nodes.length b) := by
    unfold sennitref34_line
    rw [ht, bnoS, rpathG h hb, bnoS, e3, bnoS]
  refine ⟨firstIn (b :: pathS st.Nodes st.Nodes.length b) (a :: pathS st.Nodes st.Nodes.length a), ?_, ?_⟩
  · have hm := fmeet_L (x6 := pathS st.Nodes st.Nodes.length b ++ [b]) (x8 := a :: pathS st.Nodes st.Nodes.length a) (by simp; omega) (by simp; omega) _ [] fuel rfl (fuel_gt (by simp; omega))
    unfold fold_Meet
    simp only [f1, f2, bnoS, Bool.not_true, beq_self_eq_true, gdtt, bndD, Bool.or_self, bif_ff, fpathG h ha, fpathG h hb, e1, e2]
    rw [first_eq (k := pathS st.Nodes st.Nodes.length b ++ [b]) (fun x => by simp; constructor <;> (intro h; rcases h with h | h <;> simp [h]))]
    exact hm
  · have hm := rmeet_L (x6 := b :: pathS st.Nodes st.Nodes.length b) (x5 := a :: pathS st.Nodes st.Nodes.length a) (by simp; omega) (by simp; omega) _ [] fuel rfl (fuel_gt (by simp; omega))
    unfold sennitref34_Meet
    simp only [r1, r2, bnoS, Bool.not_true, beq_self_eq_true, gdtt, bndD, Bool.or_self, bif_ff, l1, l2]
    exact hm
theorem rsum_L (hl : st.Nodes.length ≤ 1000) (hw : ∀ n ∈ st.Nodes, 1 ≤ n.Weight ∧ n.Weight ≤ 256) {id : Int} : ∀ (r p : List Nd) (f : Nat), st.Nodes = p ++ r → r.length < f → sennitref34_Sum_L0 st id f (sumS p id) (p.length : Int) = some (sumS st.Nodes id)
  | [], p, f + 1, h, _ => by
    rw [List.append_nil] at h
    rw [sennitref34_Sum_L0]
    simp only [bndD, h, lt_len, bif_ff]
  | z :: r, p, f + 1, h, hf => by
    have hrec := rsum_L hl hw (id := id) r (p ++ [z]) f (next_at h) (by simpa using hf)
    have hb := wS_bd (M := p.filter fun n => decide (n.Parent = id)) (fun n hn => hw n (by rw [h]; simp [(List.mem_filter.1 hn).1]))
    rw [wS_kids] at hb
    have hpl : (p.filter fun n => decide (n.Parent = id)).length ≤ p.length := List.length_filter_le _ _
    have hp : p.length ≤ 1000 := by rw [h] at hl; simp at hl; omega
    have hz := hw z (by rw [h]; simp)
    have happ : sumS (p ++ [z]) id = if z.Parent = id then sumS p id + z.Weight else sumS p id := by
      rw [← wS_kids, ← wS_kids, List.filter_append, wS_app]
      by_cases e : z.Parent = id
      · rw [if_pos e, List.filter_cons_of_pos (by simp [e])]; simp [wS]
      · rw [if_neg e, List.filter_cons_of_neg (by simp [e])]; simp [wS]
    rw [sennitref34_Sum_L0]
    simp only [bndD, lt_at h, bif_tt, gix_at h, bnoS, w_at h (show st.Nodes.length ≤ 1000000 by omega)]
    rw [happ] at hrec
    by_cases e : z.Parent = id
    · rw [decide_eq_true e, bif_tt, w64 (by omega) (by omega)]
      rw [if_pos e] at hrec; exact hrec
    · rw [decide_eq_false e, bif_ff]
      rw [if_neg e] at hrec; exact hrec
/-- Lists in order that have the same are the same. -/
theorem sorted_eq : ∀ {l m : List Int}, l.Pairwise (· < ·) → m.Pairwise (· < ·) → (∀ x, x ∈ l ↔ x ∈ m) → l = m
  | [], [], _, _, _ => rfl
  | [], y :: m, _, _, h => absurd ((h y).2 (by simp)) List.not_mem_nil
  | x :: l, [], _, _, h => absurd ((h x).1 (by simp)) List.not_mem_nil
  | x :: l, y :: m, hl, hm, h => by
    obtain ⟨l1, l2⟩ := List.pairwise_cons.1 hl
    obtain ⟨m1, m2⟩ := List.pairwise_cons.1 hm
    have e : x = y := by
      rcases List.mem_cons.1 ((h x).1 (by simp)) with e | e
      · exact e
      · rcases List.mem_cons.1 ((h y).2 (by simp)) with e2 | e2
        · exact e2.symm
        · have := m1 x e; have := l1 y e2; omega
    subst e
    congr 1
    refine sorted_eq l2 m2 (fun z => ⟨fun hz => ?_, fun hz => ?_⟩)
    · rcases List.mem_cons.1 ((h z).1 (by simp [hz])) with e | e
      · have := l1 z hz; omega
      · exact e
    · rcases List.mem_cons.1 ((h z).2 (by simp [hz])) with e | e
      · have := m1 z hz; omega
      · exact e
def underB (N : List Nd) (id : Int) (n : Nd) : Bool := decide (id = 0) || decide (id ∈ pathS N N.length n.ID)
theorem rbel_L (h : GV st) {id : Int} : ∀ (r p : List Nd) (f : Nat), st.Nodes = p ++ r → r.length < f → sennitref34_Below_L0 st id f ((p.filter (underB st.Nodes id)).map (·.ID)) (p.length : Int) = some ((st.Nodes.filter (underB st.Nodes id)).map (·.ID))
  | [], p, f + 1, hN, _ => by
    rw [List.append_nil] at hN
    rw [sennitref34_Below_L0]
    simp only [bndD, hN, lt_len, bif_ff]
  | z :: r, p, f + 1, hN, hf => by
    have hrec := rbel_L h (id := id) r (p ++ [z]) f (next_at hN) (by simpa using hf)
    have hln := h.ok.ln
    have ht : sennitref34_tree st = some (tre st) := rfl
    have hz : ∃ n ∈ st.Nodes, n.ID = z.ID := ⟨z, by rw [hN]; simp, rfl⟩
    have hpl : (p.filter (underB st.Nodes id)).length ≤ p.length := List.length_filter_le _ _
    have hp : p.length ≤ 1000 := by rw [hN] at hln; simp at hln; omega
    have hlp := path_len st.Nodes st.Nodes.length z.ID
    have hun : bno (gd (decide (id = 0) == false) (sennitref34_tree st) default) (fun x38 => bno (gd (decide (id = 0) == false) (sennitref19_Tree_Path x38 z.ID) default) fun x39 => bno (gd (decide (id = 0) == false) (sennitref19_In x39 id) default) fun x40 =>
        bif decide (id = 0) || x40 then (
          bno (app 8 ((p.filter (underB st.Nodes id)).map (·.ID)) ([z.ID] : (List Int))) fun x43 =>
          sennitref34_Below_L0 st id f x43 ((p ++ [z]).length : Int)
        ) else (
          sennitref34_Below_L0 st id f ((p.filter (underB st.Nodes id)).map (·.ID)) ((p ++ [z]).length : Int))) = bif underB st.Nodes id z then (
          bno (app 8 ((p.filter (underB st.Nodes id)).map (·.ID)) ([z.ID] : (List Int))) fun x43 =>
          sennitref34_Below_L0 st id f x43 ((p ++ [z]).length : Int)
        ) else (
          sennitref34_Below_L0 st id f ((p.filter (underB st.Nodes id)).map (·.ID)) ((p ++ [z]).length : Int)) := by
      unfold underB
      by_cases e : id = 0
      · simp only [decide_eq_true e, tf, gdff, bnoS, Bool.true_or]
      · simp only [decide_eq_false e, beq_self_eq_true, gdtt, ht, bnoS, rpathG h hz, in19 (l := pathS st.Nodes st.Nodes.length z.ID) (x := id) (by omega), Bool.false_or]
    rw [sennitref34_Below_L0]
    simp only [bndD, lt_at hN, bif_tt, gix_at hN, bnoS, w_at hN (show st.Nodes.length ≤ 1000000 by omega)]
    refine Eq.trans hun ?_
    cases hu : underB st.Nodes id z
    · rw [bif_ff]
      rw [List.filter_append, List.filter_cons_of_neg (by rw [hu]; decide), List.filter_nil, List.append_nil] at hrec
      exact hrec
    · rw [bif_tt, app_ok (by simp; omega) (by simp; omega), bnoS]
      rw [List.filter_append, List.filter_cons_of_pos (by rw [hu]), List.filter_nil, List.map_append] at hrec
      exact hrec
theorem path_dsc {N : List Nd} (hpa : ∀ n ∈ N, n.Parent = 0 ∨ ∃ m ∈ N, m.ID = n.Parent) (hs : N.Pairwise (fun a b => a.ID < b.ID)) {id : Int} : ∀ (k : Nat) (n : Nd), n ∈ N → id ∈ pathS N k n.ID → Dsc N id n.ID
  | 0, _, _, h => absurd h List.not_mem_nil
  | k + 1, n, hn, h => by
    rw [pathS, par_of hs hn] at h
    by_cases hz : n.Parent = 0
    · simp only [if_pos hz] at h; exact absurd h List.not_mem_nil
    · simp only [if_neg hz] at h
      rcases List.mem_cons.1 h with e | h
      · exact .child n hn e.symm
      · obtain ⟨m, hm, e⟩ := (hpa n hn).resolve_left hz
        rw [← e] at h
        have := path_dsc hpa hs k m hm h
        rw [e] at this
        exact .up n hn hz this
theorem belows (h : GV st) (hcF : fold_Check st = some 0) (hcR : sennitref34_Check st = some 0) {id : Int} (hx : id = 0 ∨ ((∃ n ∈ st.Nodes, n.ID = id) ∧ fold_State_there st id = some true ∧ sennitref34_there st id = some true)) : ∃ l, fold_Below st id = some l ∧ sennitref34_Below st id = some l ∧ l.length ≤ 1000 := by
  obtain ⟨r, ht⟩ := h.fv.tr
  have ht : Tr st.Nodes r := ht
  have hln := h.ok.ln
  have hrm := h.rm
  have hl2 := h.ln
  have h0 : ∀ n ∈ st.Nodes, n.ID ≠ 0 := fun n hn => by have := ht.id n hn; omega
  have hb : Hb st.Nodes (st.Nodes.length + 1) id := by
    rcases hx with e | ⟨⟨n, hn, e⟩, _⟩
    · rw [e]; exact hb_root ht
    · rw [← e]; exact hb_all ht _ n hn (by omega)
  have hnd := bel_nodup ht (st.Nodes.length + 1) id
  have hle := nodup_le hnd (m := st.Nodes.map (·.ID)) (fun z hz => by
    obtain ⟨n, hn, e⟩ := dsc_node (bel_mem _ id z h0 hz)
    exact List.mem_map.2 ⟨n, hn, e⟩)
  rw [List.length_map] at hle
  have htop := bel_top (st := st) (by omega) hb (by omega) (by omega)
  obtain ⟨l, hs, hl1, hl3⟩ := vsort_t (l := belowS st.Nodes (st.Nodes.length + 1) id) (by omega) hnd
  have heq : (st.Nodes.filter (underB st.Nodes id)).map (·.ID) = l := by
    refine sorted_eq ?_ hl3 (fun z => ?_)
    · rw [List.pairwise_map]; exact List.Pairwise.sublist List.filter_sublist ht.so
    · rw [hl1.mem_iff]
      constructor
      · intro hz
        obtain ⟨n, hn, rfl⟩ := List.mem_map.1 hz
        obtain ⟨hn, hu⟩ := List.mem_filter.1 hn
        refine bel_all ht _ id n.ID hb ?_
        unfold underB at hu
        rw [Bool.or_eq_true, decide_eq_true_iff, decide_eq_true_iff] at hu
        rcases hu with e | e
        · rw [e]; exact dsc_root ht _ hn (Nat.le_refl _)
        · exact path_dsc ht.pa ht.so _ n hn e
      · intro hz
        have hd := bel_mem _ id z h0 hz
        obtain ⟨n, hn, rfl⟩ := dsc_node hd
        refine List.mem_map.2 ⟨n, List.mem_filter.2 ⟨hn, ?_⟩, rfl⟩
        unfold underB
        by_cases e : id = 0
        · rw [decide_eq_true e]; rfl
        · obtain ⟨xs, e2, _⟩ := dsc_path ht e hd
          rw [decide_eq_true (show id ∈ pathS st.Nodes st.Nodes.length n.ID by rw [e2]; simp), Bool.or_true]
  have hlen := hl1.length_eq
  refine ⟨l, ?_, ?_, by omega⟩
  · unfold fold_Below
    rw [hcF, bnoS, bndD, bndD]
    by_cases hz : id = 0
    · simp only [decide_true, Bool.not_true, decide_eq_true hz, beq_self_eq_true, show ((false : Bool) == true) = false from rfl, Bool.true_and, gdff, bnoS, bndD, Bool.false_and, Bool.or_self, bif_ff, htop, hs, chk_t hlen]
    · have hth := (hx.resolve_left hz).2.1
      simp only [decide_true, Bool.not_true, decide_eq_false hz, Bool.not_false, beq_self_eq_true, Bool.and_self, gdtt, hth, bnoS, bndD, Bool.and_false, Bool.or_self, bif_ff, htop, hs, chk_t hlen]
  · have hL := rbel_L h (id := id) st.Nodes [] fuel rfl (fuel_gt (by omega))
    rw [heq] at hL
    unfold sennitref34_Below
    rw [bndD]
    by_cases hz : id = 0
    · simp only [decide_eq_true hz, Bool.not_true, ft, gdff, bnoS, bndD, Bool.false_and, beq_self_eq_true, gdtt, hcR, decide_true, Bool.or_self, bif_ff]
      exact hL
    · have hth := (hx.resolve_left hz).2.2
      simp only [decide_eq_false hz, Bool.not_false, beq_self_eq_true, gdtt, hth, bnoS, bndD, Bool.not_true, Bool.and_false, hcR, decide_true, Bool.or_self, bif_ff]
      exact hL
theorem sums (h : GV st) (hcF : fold_Check st = some 0) (hcR : sennitref34_Check st = some 0) {id : Int} (hx : id = 0 ∨ (fold_State_there st id = some true ∧ sennitref34_there st id = some true)) : ∃ l, fold_Sum st id = some l ∧ sennitref34_Sum st id = some l := by
  have hln := h.ok.ln
  have hw : ∀ n ∈ st.Nodes, 1 ≤ n.Weight ∧ n.Weight ≤ 256 := fun n hn => (h.fv.ra n hn).2
  have hs := sum34 (st := st) hln hw id
  have hL := rsum_L (st := st) hln hw (id := id) st.Nodes [] fuel rfl (fuel_gt (by omega))
  refine ⟨sumS st.Nodes id, ?_, ?_⟩
  · unfold fold_Sum
    rw [hcF, bnoS, bndD, bndD]
    by_cases hz : id = 0
    · simp only [decide_true, Bool.not_true, decide_eq_true hz, beq_self_eq_true, show ((false : Bool) == true) = false from rfl, Bool.true_and, gdff, bnoS, bndD, Bool.false_and, Bool.or_self, bif_ff, hs]
    · have hth := (hx.resolve_left hz).1
      simp only [decide_true, Bool.not_true, decide_eq_false hz, Bool.not_false, beq_self_eq_true, Bool.and_self, gdtt, hth, bnoS, bndD, Bool.and_false, Bool.or_self, bif_ff, hs]
  · unfold sennitref34_Sum
    rw [bndD]
    by_cases hz : id = 0
    · simp only [decide_eq_true hz, Bool.not_true, ft, gdff, bnoS, bndD, Bool.false_and, beq_self_eq_true, gdtt, hcR, decide_true, Bool.or_self, bif_ff]
      exact hL
    · have hth := (hx.resolve_left hz).2
      simp only [decide_eq_false hz, Bool.not_false, beq_self_eq_true, gdtt, hth, bnoS, bndD, Bool.not_true, Bool.and_false, hcR, decide_true, Bool.or_self, bif_ff]
      exact hL
/-- Of what is not there, nothing is told. -/
theorem no_depth {id : Int} (h1 : fold_State_there st id = some false) (h2 : sennitref34_there st id = some false) : ∃ d, fold_Depth st id = some d ∧ sennitref34_Depth st id = some d := by
  refine ⟨0, ?_, ?_⟩
  · unfold fold_Depth; rw [h1, bnoS]; rfl
  · unfold sennitref34_Depth; rw [h2, bnoS]; rfl
theorem no_meet {a b : Int} {c d : Bool} (h1 : fold_State_there st a = some c) (h2 : fold_State_there st b = some d) (g1 : sennitref34_there st a = some c) (g2 : sennitref34_there st b = some d) (hn : (c && d) = false) : ∃ e, fold_Meet st a b = some e ∧ sennitref34_Meet st a b = some e := by
  refine ⟨0, ?_, ?_⟩
  · unfold fold_Meet
    rw [h1, bnoS]
    cases c
    · simp only [Bool.not_false, tf, gdff, bnoS, bndD, Bool.true_or, bif_tt]
    · cases d
      · simp only [Bool.not_true, beq_self_eq_true, gdtt, h2, bnoS, bndD, Bool.not_false, Bool.or_true, bif_tt]
      · cases hn
  · unfold sennitref34_Meet
    rw [g1, bnoS]
    cases c
    · simp only [Bool.not_false, tf, gdff, bnoS, bndD, Bool.true_or, bif_tt]
    · cases d
      · simp only [Bool.not_true, beq_self_eq_true, gdtt, g2, bnoS, bndD, Bool.not_false, Bool.or_true, bif_tt]
      · cases hn
theorem no_below {id : Int} (hz : id ≠ 0) {c : Int} (hcF : fold_Check st = some c) (h1 : fold_State_there st id = some false) (h2 : sennitref34_there st id = some false) : fold_Below st id = some [] ∧ sennitref34_Below st id = some [] ∧ fold_Sum st id = some 0 ∧ sennitref34_Sum st id = some 0 := by
  refine ⟨?_, ?_, ?_, ?_⟩
  · unfold fold_Below
    rw [hcF, bnoS, bndD, bndD, decide_eq_false hz]
    cases hc : decide (c = 0)
    · simp only [Bool.not_false, tf, Bool.false_and, gdff, bnoS, bndD, Bool.true_or, bif_tt]
    · simp only [Bool.not_true, Bool.not_false, beq_self_eq_true, Bool.and_self, gdtt, h1, bnoS, bndD, Bool.or_true, bif_tt]
  · unfold sennitref34_Below
    simp only [bndD, decide_eq_false hz, Bool.not_false, beq_self_eq_true, gdtt, h2, bnoS, Bool.and_self, tf, gdff, Bool.true_or, bif_tt]
  · unfold fold_Sum
    rw [hcF, bnoS, bndD, bndD, decide_eq_false hz]
    cases hc : decide (c = 0)
    · simp only [Bool.not_false, tf, Bool.false_and, gdff, bnoS, bndD, Bool.true_or, bif_tt]
    · simp only [Bool.not_true, Bool.not_false, beq_self_eq_true, Bool.and_self, gdtt, h1, bnoS, bndD, Bool.or_true, bif_tt]
  · unfold sennitref34_Sum
    simp only [bndD, decide_eq_false hz, Bool.not_false, beq_self_eq_true, gdtt, h2, bnoS, Bool.and_self, tf, gdff, Bool.true_or, bif_tt]
theorem bad_root {c : Int} (hc0 : c ≠ 0) (hcF : fold_Check st = some c) (hcR : sennitref34_Check st = some c) : fold_Below st 0 = some [] ∧ sennitref34_Below st 0 = some [] ∧ fold_Sum st 0 = some 0 ∧ sennitref34_Sum st 0 = some 0 := by
  refine ⟨?_, ?_, ?_, ?_⟩
  · unfold fold_Below
    simp only [hcF, bnoS, bndD, decide_eq_false hc0, decide_true, Bool.not_true, Bool.not_false, tf, ft, Bool.false_and, Bool.and_self, gdff, Bool.or_false, bif_tt]
  · unfold sennitref34_Below
    simp only [hcR, bnoS, bndD, decide_eq_false hc0, decide_true, Bool.not_true, Bool.not_false, ft, Bool.false_and, gdff, beq_self_eq_true, gdtt, Bool.or_true, bif_tt]
  · unfold fold_Sum
    simp only [hcF, bnoS, bndD, decide_eq_false hc0, decide_true, Bool.not_true, Bool.not_false, tf, ft, Bool.false_and, Bool.and_self, gdff, Bool.or_false, bif_tt]
  · unfold sennitref34_Sum
    simp only [hcR, bnoS, bndD, decide_eq_false hc0, decide_true, Bool.not_true, Bool.not_false, ft, Bool.false_and, gdff, beq_self_eq_true, gdtt, Bool.or_true, bif_tt]
/-- All that is told. -/
theorem tells (hl : st.Nodes.length ≤ 1000) (he : st.Ended.length ≤ 1000) (hp : ∀ n ∈ st.Nodes, I64 n.Parent) {a b : Int} (ha : I64 a) (hb : I64 b) : (∃ d, fold_Depth st a = some d ∧ sennitref34_Depth st a = some d) ∧ (∃ d, fold_Meet st a b = some d ∧ sennitref34_Meet st a b = some d) ∧ (∃ l, fold_Below st a = some l ∧ sennitref34_Below st a = some l ∧ l.length ≤ 1000) ∧ ∃ d, fold_Sum st a = some d ∧ sennitref34_Sum st a = some d := by
  have hcF := checkF hl he hp
  have hcR := checkR hl he
  rw [checkV_eq] at hcR
  by_cases hz : checkV st st.Nodes.length = 0
  · have h := check_gv hz
    rw [hz] at hcF hcR
    have fa := thereF h hcF ha
    have fb := thereF h hcF hb
    have ra := thereR h hcR a
    have rb := thereR h hcR b
    cases ea : hasB st.Nodes a
    · rw [ea] at fa ra
      refine ⟨no_depth fa ra, no_meet fa fb ra rb rfl, ?_, ?_⟩
      · by_cases h0 : a = 0
        · exact belows h hcF hcR (.inl h0)
        · have := no_below h0 hcF fa ra
          exact ⟨[], this.1, this.2.1, by decide⟩
      · by_cases h0 : a = 0
        · exact sums h hcF hcR (.inl h0)
        · have := no_below h0 hcF fa ra
          exact ⟨0, this.2.2.1, this.2.2.2⟩
    · rw [ea] at fa ra
      have xa := has_ex ea
      refine ⟨depths h xa fa ra, ?_, belows h hcF hcR (.inr ⟨xa, fa, ra⟩), sums h hcF hcR (.inr ⟨fa, ra⟩)⟩
      cases eb : hasB st.Nodes b
      · rw [eb] at fb rb
        exact no_meet fa fb ra rb rfl
      · rw [eb] at fb rb
        exact meets h xa (has_ex eb) fa fb ra rb
  · have fa := thereF0 hl hcF hz a
    have fb := thereF0 hl hcF hz b
    have ra := thereR0 hcR hz a
    have rb := thereR0 hcR hz b
    refine ⟨no_depth fa ra, no_meet fa fb ra rb rfl, ?_, ?_⟩
    · by_cases h0 : a = 0
      · subst h0
        have := bad_root hz hcF hcR
        exact ⟨[], this.1, this.2.1, by decide⟩
      · have := no_below h0 hcF fa ra
        exact ⟨[], this.1, this.2.1, by decide⟩
    · by_cases h0 : a = 0
      · subst h0
        have := bad_root hz hcF hcR
        exact ⟨0, this.2.2.1, this.2.2.2⟩
      · have := no_below h0 hcF fa ra
        exact ⟨0, this.2.2.1, this.2.2.2⟩
theorem foldTells {a b : Int} (hp : ∀ n ∈ st.Nodes, I64 n.Parent) (ha : I64 a) (hb : I64 b) : sennitlaw34_FoldTells st a b = some true := by
  unfold sennitlaw34_FoldTells
  simp only [few34, bnoS, bndD]
  cases hs : (decide (st.Nodes.length ≤ 30) && decide (st.Ended.length ≤ 30))
  · rw [Bool.not_false, bif_tt, awake34, bnoS]
  · rw [Bool.not_true, bif_ff]
    rw [Bool.and_eq_true, decide_eq_true_iff, decide_eq_true_iff] at hs
    obtain ⟨⟨d, d1, d2⟩, ⟨m, m1, m2⟩, ⟨l, l1, l2, l3⟩, s, s1, s2⟩ := tells (st := st) (by omega) (by omega) hp ha hb
    simp only [own34s (st := st) (by omega), bnoS, d1, d2, m1, m2, l1, l2, s1, s2, decide_true, beq_self_eq_true, gdtt, rieq34 (l := l) (m := l) (by omega), Bool.and_self, awake34]
end
end Go.Fn
open Go.RowKit Go.WideShapes Go.ChangeShapes
namespace Go.IL

/-! A law's arguments: how they read. -/
def Spotless (v : Value) : Prop := ∀ a n c, v = .slice (some a) n c → a.spot = none
theorem spot_cell {P : Program} {w : World} {r : Reach} {b : Nat} {t : TypeId} {v : Value} (h : Cell.okWide P w r b t v) : Spotless v := by
  intro a n c e
  subst e
  have h2 : Cell.ok P w r b t (.slice (some a) n c) := by
    unfold Cell.okWide at h
    split at h <;> first | exact h | (rename_i h3 _; cases h3) | (rename_i h3; cases h3) | skip
    all_goals first | exact h | simp_all
  unfold Cell.ok at h2
  split at h2 <;> simp_all [World.has]
theorem spot_val {P : Program} {w : World} {r : Reach} {b : Nat} {t : TypeId} {v : Value} (h : Value.okWide P w r b t v) : ∀ u ∈ v.cells.toList, Spotless u := by
  have agg : ∀ cs : Array Value, Row.okWide P w r b t cs → ∀ u ∈ cs.toList, Spotless u := by
    intro cs ⟨ts, _, _, h3⟩ u hu
    obtain ⟨i, hi⟩ := List.getElem?_of_mem hu
    obtain ⟨q, _, hq⟩ := h3 i u (by simpa using hi)
    exact spot_cell hq
  unfold Value.okWide at h
  split at h
  · obtain ⟨cs, rfl, _, h⟩ := h; simpa [Value.cells] using agg cs h
  · obtain ⟨cs, rfl, _, h⟩ := h; simpa [Value.cells] using agg cs h
  · have h2 := spot_cell h
    intro u hu
    cases v with
    | agg cs =>
      exfalso
      unfold Cell.okWide at h
      split at h <;> simp_all [Cell.ok]
    | _ => simp [Value.cells] at hu; subst hu; exact h2

def Env.none (w : World) : Env := ⟨w, fun _ _ => False⟩
/-- What the cells of a type read as. -/
def OpD (P : Program) (sp : Bool) (t : TypeId) (Q : List D → Prop) : Prop :=
  ∀ {H : Type} {enc : TypeId × Value → H} {w : World} {base : Nat} {spare : Nat → Bool} {held : Bool} {fuel : Nat} {cs : List Value} {x : DataW H × List MemPlace},
    DataW.trod enc P w base spare held fuel t cs = some x → (sp = true → ∀ v ∈ cs, Spotless v) → ∃ ds, RdL (Env.none w) β0 cs ds ∧ Q ds
def qInt (k : IntKind) (ds : List D) : Prop := ∃ n : Int, ds = [.int k n] ∧ (k.min ≤ n ∧ n ≤ k.max)
def qBool (ds : List D) : Prop := ∃ b : Bool, ds = [.bool b]
def qSlice {α : Type} (f : Enc α) (wf : α → Prop) (ds : List D) : Prop := ∃ l : List α, ds = [.slice false (l.map f.d)] ∧ l.length ≤ 9223372036854775807 ∧ ∀ x ∈ l, wf x
def qList : List (List D → Prop) → List D → Prop
  | [], ds => ds = []
  | Q :: Qs, ds => ∃ a b, ds = a ++ b ∧ Q a ∧ qList Qs b

section
variable {P : Program} {sp : Bool} {t : TypeId}
theorem opd_int {k : IntKind} (hu : P.underlying t = some (.int k)) : OpD P sp t (qInt k) := by
  intro H enc w base spare held fuel cs x h _
  obtain ⟨n, rfl, rfl, hw⟩ := DataW.trod_int hu h
  exact ⟨[.int k n], .cons (.int _ _ _) (.nil _), n, rfl, by simpa [Lit.wf] using hw⟩
theorem opd_bool (hu : P.underlying t = some .bool) : OpD P sp t qBool := by
  intro H enc w base spare held fuel cs x h _
  obtain ⟨b, rfl, rfl⟩ := DataW.trod_bool hu h
  exact ⟨[.bool b], .cons (.bool _ _) (.nil _), b, rfl⟩
theorem opd_slice {α : Type} {f : Enc α} {e : TypeId} {wf : α → Prop} (hu : P.underlying t = some (.slice e)) (hc : P.cellsOf e = f.sz) (he : OpD P false e (fun ds => ∃ a, ds = (f.d a).cells ∧ wf a)) : OpD P sp t (qSlice f wf) := by
  intro H enc w base spare held fuel cs x h hs
  rcases DataW.trod_slice hu h with ⟨rfl, _⟩ | ⟨a, len, cap, elems, rest, n, _, rfl, rfl, hb, hl, hm, hlen, hel, _, _⟩
  · exact ⟨[.slice false []], .cons (.nslice _ _) (.nil _), [], rfl, by simp, by simp⟩
  · by_cases hl0 : len = 0
    · subst hl0; exact ⟨[.slice false []], .cons (.eslice _ a cap false (fun h => by cases h)) (.nil _), [], rfl, by simp, by simp⟩
    have hsp0 : a.spot = none := by
      have h1 := hel 0 (by omega)
      have h2 : elems[0]? = some (elems[0]'(by omega)) := List.getElem?_eq_getElem _
      rw [h2, Option.bind_eq_some_iff] at h1
      obtain ⟨vs, h3, _⟩ := h1
      have h7 := World.cells?_some h3
      have hp := f.pos
      have h8 := h7.2.2 0 (by rw [hc]; exact hp)
      rw [Nat.zero_mul] at h8
      have e0 : ((a.add 0).add 0) = a := rfl
      rw [e0] at h8
      cases hsp : a.spot with
      | none => rfl
      | some q =>
        exfalso
        unfold World.cell? at h8
        rw [hsp] at h8
        split at h8
        · simp at h8; have := h7.1; simp_all
        · have := h7.1; simp_all
    have ha : a = ⟨a.block, a.off, none⟩ := by cases a; simp_all
    have each : ∀ i, i < len → ∃ (vs : List Value) (y : α), (∀ k v, vs[k]? = some v → w.cell? ⟨a.block, a.off + (i * f.sz + k), none⟩ = some v) ∧ RdL (Env.none w) β0 vs (f.d y).cells ∧ wf y := by
      intro i hi
      have h1 := hel i hi
      have h2 : elems[i]? = some (elems[i]'(by omega)) := List.getElem?_eq_getElem _
      rw [h2, Option.bind_eq_some_iff] at h1
      obtain ⟨vs, h3, h4⟩ := h1
      obtain ⟨ds, h5, y, rfl, h6⟩ := he h4 (by simp)
      refine ⟨vs, y, fun k v hk => ?_, h5, h6⟩
      have h7 := World.cells?_some h3
      have hk' := (List.getElem?_eq_some_iff.1 hk).1
      have h8 := h7.2.2 k (by omega)
      rw [hk, ha, hc] at h8
      rw [← h8]
      congr 1
      by_cases h9 : i * f.sz = 0
      · by_cases h10 : k = 0
        · simp [Addr.add, h9, h10]
        · simp [Addr.add, h9, h10]
      · by_cases h10 : k = 0
        · simp [Addr.add, h9, h10]
        · simp [Addr.add, h9, h10, Nat.add_assoc]
    have all : ∀ m, m ≤ len → ∃ (vs : List Value) (l : List α), l.length = m ∧ (∀ k v, vs[k]? = some v → w.cell? ⟨a.block, a.off + k, none⟩ = some v) ∧ RdL (Env.none w) β0 vs (D.flat (l.map f.d)) ∧ ∀ y ∈ l, wf y := by
      intro m
      induction m with
      | zero => intro _; exact ⟨[], [], rfl, by simp, .nil _, by simp⟩
      | succ m ih =>
        intro hm'
        obtain ⟨vs, l, h1, h2, h3, h4⟩ := ih (by omega)
        obtain ⟨us, y, h5, h6, h7⟩ := each m (by omega)
        have hvl : vs.length = m * f.sz := by rw [h3.length, f.flat_len, h1]
        refine ⟨vs ++ us, l ++ [y], by simp [h1], fun k v hk => ?_, ?_, ?_⟩
        · by_cases hk' : k < vs.length
          · exact h2 k v (by rwa [List.getElem?_append_left hk'] at hk)
          · rw [List.getElem?_append_right (by omega)] at hk
            have := h5 _ _ hk
            rwa [hvl, show m * f.sz + (k - m * f.sz) = k by omega] at this
        · rw [List.map_append]
          have e2 : D.flat (l.map f.d ++ [y].map f.d) = D.flat (l.map f.d) ++ (f.d y).cells := by simp [D.flat]
          rw [e2]; exact h3.append h6
        · intro z hz
          rcases List.mem_append.1 hz with h | h
          · exact h4 z h
          · simp at h; subst h; exact h7
    obtain ⟨vs, l, h1, h2, h3, h4⟩ := all len (Nat.le_refl _)
    refine ⟨[.slice false (l.map f.d)], .cons ?_ (.nil _), l, rfl, by unfold maxLen at hm; omega, h4⟩
    rw [ha]
    exact .slice _ _ _ len cap f.sz false vs _ (by rw [List.length_map, h1]) hl (by simp) (f.len l) f.pos (fun k v hk => ⟨h2 k v hk, fun h => h⟩) h3

/-- The fields of a struct, one behind the other. -/
def fieldsAt (P : Program) : Nat → List Field → Bool
  | _, [] => true
  | k, f :: fs => f.offset == k && fieldsAt P (k + P.cellsOf f.type) fs
inductive OpFs (P : Program) (sp : Bool) : List Field → List (List D → Prop) → Prop
  | nil : OpFs P sp [] []
  | cons {f fs Q Qs} (h : OpD P sp f.type Q) (t : OpFs P sp fs Qs) : OpFs P sp (f :: fs) (Q :: Qs)
theorem opd_struct {fs : Array Field} {Qs : List (List D → Prop)} (hu : P.underlying t = some (.struct fs)) (hf : fieldsAt P 0 fs.toList = true) (hn : P.cellsOf t = (fs.toList.map fun f => P.cellsOf f.type).sum) (h : OpFs P sp fs.toList Qs) : OpD P sp t (qList Qs) := by
  intro H enc w base spare held fuel cs x hx hs
  obtain ⟨xs, n, _, _, hlen, hxl, hfld⟩ := DataW.trod_struct hu hx
  have key : ∀ (l : List Field) (Qs : List (List D → Prop)) (k : Nat), OpFs P sp l Qs → fieldsAt P k l = true → k + (l.map fun f => P.cellsOf f.type).sum = cs.length →
      (∀ f ∈ l, ∃ y, DataW.trod enc P w base spare held n f.type ((cs.drop f.offset).take (P.cellsOf f.type)) = some y) → ∃ ds, RdL (Env.none w) β0 (cs.drop k) ds ∧ qList Qs ds := by
    intro l Qs k ho
    induction ho generalizing k with
    | nil =>
      intro _ h1 _
      refine ⟨[], ?_, rfl⟩
      rw [List.drop_of_length_le (by simp at h1; omega)]; exact .nil _
    | @cons f fs Q Qs h t ih =>
      intro h1 h2 h3
      simp only [fieldsAt, Bool.and_eq_true, beq_iff_eq] at h1
      simp only [List.map_cons, List.sum_cons] at h2
      obtain ⟨y, hy⟩ := h3 f (by simp)
      rw [h1.1] at hy
      obtain ⟨ds, h4, h5⟩ := h hy (fun hsp v hv => hs hsp v (List.mem_of_mem_drop (List.mem_of_mem_take hv)))
      obtain ⟨es, h6, h7⟩ := ih (k + P.cellsOf f.type) h1.2 (by omega) (fun g hg => h3 g (by simp [hg]))
      refine ⟨ds ++ es, ?_, ds, es, rfl, h5, h7⟩
      have := h4.append h6
      rwa [← List.drop_drop, List.take_append_drop] at this
  have := key fs.toList Qs 0 h hf (by rw [Nat.zero_add, ← hn, hlen]) (fun f hf => by
    obtain ⟨i, hi⟩ := List.getElem?_of_mem hf
    have h1 := hfld i f (by simpa using hi)
    have h2 : i < xs.length := by rw [hxl]; have := (List.getElem?_eq_some_iff.1 hi).1; simpa using this
    exact ⟨xs[i], by rw [h1, List.getElem?_eq_getElem h2]⟩)
  rwa [List.drop_zero] at this
theorem OpD.to {Q R : List D → Prop} (h : OpD P sp t Q) (k : ∀ ds, Q ds → R ds) : OpD P sp t R := by
  intro H enc w base spare held fuel cs x hx hs
  obtain ⟨ds, h1, h2⟩ := h hx hs
  exact ⟨ds, h1, k ds h2⟩
/-- An argument. -/
theorem opd_val {Q : List D → Prop} (h : OpD P true t Q) {H : Type} {enc : TypeId × Value → H} {w : World} {base b0 : Nat} {spare : Nat → Bool} {held : Bool} {v : Value} {d : DataW H} {ps : List MemPlace} {r : Reach}
    (hv : Value.okWide P w r b0 t v) (hd : DataW.Trod enc P w base spare held t v d ps) : ∃ ds, RdL (Env.none w) β0 v.cells.toList ds ∧ Q ds := by
  obtain ⟨fuel, hf⟩ := hd
  exact h hf (fun _ => spot_val hv)
theorem rd_scalar {E : Env} {v : Value} {d : D} (h : RdL E β0 v.cells.toList [d]) (hn : ∀ cs, v ≠ .agg cs) : Rd E β0 v d := by
  cases v with
  | agg cs => exact absurd rfl (hn cs)
  | _ => simp [Value.cells] at h; cases h with | cons h _ => exact h
theorem rd_aggr {E : Env} {cs : Array Value} {ds : List D} (h : RdL E β0 (Value.cells (.agg cs)).toList ds) : Rd E β0 (.agg cs) (.agg ds) := by
  have := Rd.agg (E := E) β0 cs.toList ds (by simpa [Value.cells] using h)
  simpa using this

section
variable {H : Type} {enc : TypeId × Value → H}
theorem trodAll_below (hl : laidOutB P = true) {W W' : World} (hb : Below W.heap.size W W') {sp : Nat → Bool} : ∀ {ts : List TypeId} {vs : List Value} {ds : List (DataW H)} {ps : List MemPlace},
    (∀ t ∈ ts, P.readableRec t = true ∧ t < P.types.size) → DataW.TrodAll enc P W 0 (fun _ => true) true ts vs ds ps → (∀ x ∈ ps, x.block < W.heap.size) → (∀ x ∈ ps, sp x.block = true) →
    DataW.TrodAll enc P W' 0 sp true ts vs ds ps
  | [], vs, ds, ps, _, h, _, _ => by
    obtain ⟨rfl, rfl, rfl⟩ := trodAll_nil h; exact rfl
  | t :: ts, vs, ds, ps, hr, h, hlt, hsp => by
    obtain ⟨v, vs', d, ds', p, q, rfl, rfl, rfl, h1, h2⟩ := trodAll_cons h
    refine ⟨p, q, ?_, trodAll_below hl hb (fun t ht => hr t (by simp [ht])) h2 (fun x hx => hlt x (by simp [hx])) (fun x hx => hsp x (by simp [hx])), rfl⟩
    have hx : ∀ x ∈ p, x ∈ p ++ q := fun x hx => by simp [hx]
    exact WideElems.Trod_stays hl (hr t (by simp)).1 (hr t (by simp)).2 h1 (fun x hxp => hb.same (hlt x (hx x hxp))) (fun x hxp => hsp x (hx x hxp))
theorem post_of_below {f : Func} {s : ChangeSpec} {apart fresh handsOn again : Bool} {W W' : World} {args : Array Value} {v : Value} {ds gs : List (DataW H)} {before pa pv : List MemPlace}
    (hW : DataW.Whole enc P f.params.toList s.vars apart W args.toList ds gs before)
    (hres : ∀ (b : Nat) (sp : Nat → Bool) (hd : Bool), DataW.TrodAll enc P W' b sp hd f.resultTypes.toList (v.resultList f.resultTypes.size) (s.fn H (ds ++ gs)).results [])
    (hargs : ∀ sp : Nat → Bool, (∀ p ∈ before, sp p.block = true) → DataW.TrodAll enc P W' 0 sp true f.params.toList args.toList (s.fn H (ds ++ gs)).args pa)
    (hvars : ∀ sp : Nat → Bool, (∀ p ∈ before, sp p.block = true) → DataW.TrodVars enc P W' sp s.vars (s.fn H (ds ++ gs)).vars pv)
    (hps : before = pa ++ pv) (hb : Below W.heap.size W W')
    (hok : ∀ (j : Nat) (t : TypeId) (r : Value), f.resultTypes[j]? = some t → (v.resultList f.resultTypes.size)[j]? = some r → Value.okWide P W' .any 0 t r) :
    s.post enc P f apart fresh handsOn again W args v W' := by
  have hlt : ∀ p ∈ before, p.block < W.heap.size := fun p hp => hW.lt p hp
  have hold : ∀ p ∈ before, (fun b => decide (b < W.heap.size)) p.block = true := fun p hp => by simpa using hlt p hp
  refine ⟨ds, gs, before, [], pa, pv, hW, hres _ _ _, hargs _ hold, hvars _ hold, World.keptBut_mono (fun p hp => ⟨hp, ?_⟩) (hb.frame (· ∈ before)), fun _ => ?_⟩
  · rw [hps, List.mem_append] at hp
    exact Or.inr hp
  · obtain ⟨_, _, _, _, _, hz, hn⟩ := hW
    refine ⟨hok, _, _, ([] ++ pa) ++ pv, ⟨[] ++ pa, pv, trodAll_append (hargs _ (fun _ _ => rfl)) (hres _ _ _), hvars _ (fun _ _ => rfl), rfl, ?_, ?_⟩, ?_⟩
    · intro b off hp
      have hin : MemPlace.cell b off ∈ before := by rw [hps]; simpa using hp
      rw [hb.frozen (hlt _ hin)]
      exact hz b off hin
    · intro ha
      have := hn ha
      rw [hps] at this
      simpa using this
    · intro p hp _
      rw [hps]
      simpa using hp
theorem law_post {f : Func} {s : ChangeSpec} {apart fresh handsOn again : Bool} {W W' : World} {args : Array Value} {ds gs : List (DataW H)} {before : List MemPlace} {tb : TypeId}
    (hl : laidOutB P = true) (hr : ∀ t ∈ f.params.toList, P.readableRec t = true ∧ t < P.types.size) (hv : s.vars = []) (hres : f.resultTypes = #[tb]) (hbool : P.underlying tb = some .bool)
    (hfn : s.fn H (ds ++ gs) = { results := [.lit (.bool true)], args := ds })
    (hW : DataW.Whole enc P f.params.toList s.vars apart W args.toList ds gs before) (hb : Below W.heap.size W W') : s.post enc P f apart fresh handsOn again W args (.bool true) W' := by
  have hW' := hW
  obtain ⟨p, q, hA, hV, hbef, hfz, hnd⟩ := hW
  rw [hv] at hV
  obtain ⟨rfl, rfl⟩ := trodVars_none hV
  have hlt : ∀ x ∈ before, x.block < W.heap.size := fun x hx => hW'.lt x hx
  have hsub : ∀ x ∈ p, x ∈ before := fun x hx => by rw [hbef]; simp [hx]
  refine post_of_below (pa := p) (pv := []) hW' ?_ ?_ ?_ ?_ hb ?_
  · intro b sp hd
    rw [hfn, hres]
    exact trodAll_mk1 (shut_bool hbool true)
  · intro sp hsp
    rw [hfn]
    exact trodAll_below hl hb hr hA (fun x hx => hlt x (hsub x hx)) (fun x hx => hsp x (hsub x hx))
  · intro sp hsp
    rw [hfn, hv]; exact rfl
  · exact hbef
  · exact ok_one hres rfl (okWide_bool_mk hbool true)
end
end
end Go.IL
namespace Go.IL
theorem rd_arg_agg {P : Program} {w W : World} {r : Reach} {b : Nat} {t : TypeId} {v : Value} {ds : List D} (hv : Value.okWide P W r b t v) (hg : aggOf P t = true) (h : RdL (Env.none w) β0 v.cells.toList ds) : Rd (Env.none w) β0 v (.agg ds) := by
  unfold aggOf at hg
  unfold Value.okWide at hv
  split at hv
  · obtain ⟨cs, rfl, _⟩ := hv; exact rd_aggr h
  · obtain ⟨cs, rfl, _⟩ := hv; exact rd_aggr h
  · rename_i h1 h2
    split at hg
    · rename_i h3; exact absurd h3 (h1 _)
    · rename_i h3; exact absurd h3 (h2 _ _)
    · cases hg
theorem rd_arg_one {P : Program} {w W : World} {r : Reach} {b : Nat} {t : TypeId} {v : Value} {d : D} (hv : Value.okWide P W r b t v) (hg : aggOf P t = false) (h : RdL (Env.none w) β0 v.cells.toList [d]) : Rd (Env.none w) β0 v d := by
  refine rd_scalar h fun cs e => ?_
  subst e
  unfold aggOf at hg
  unfold Value.okWide at hv
  split at hv
  · rename_i h1; rw [h1] at hg; cases hg
  · rename_i h1; rw [h1] at hg; cases hg
  · unfold Cell.okWide at hv
    split at hv <;> simp_all [Cell.ok]
end Go.IL
open Go.RowKit Go.WideShapes Go.ChangeShapes
namespace Go.IL
end Go.IL
