/-
  A part of the proof: rules and plain facts. No condition.
-/
import Derived.Test.YtalalambgppmpaaIlN
set_option linter.all false
open Go.RowKit
namespace Go.IL

mutual
/-- Data that hang on no memory. -/
def D.nomem : D → Bool
  | .dead | .bool _ | .int _ _ | .float _ _ | .str _ | .nils | .nilp | .nilf | .nili => true
  | .agg cs => D.nomemL cs
  | .tuple cs => D.nomemL cs
  | _ => false
def D.nomemL : List D → Bool
  | [] => true
  | d :: ds => d.nomem && D.nomemL ds
end
mutual
theorem Rd.nomem {E E' : Env} {β β' : Names} : ∀ {v : Value} {d : D}, d.nomem = true → Rd E β v d → Rd E' β' v d
  | _, .dead, _, _ => .dead _ _
  | _, .bool b, _, .bool _ _ => .bool _ b
  | _, .int k n, _, .int _ _ _ => .int _ k n
  | _, .float k n, _, .float _ _ m _ h => .float _ k m n h
  | _, .str l, _, .str _ _ => .str _ l
  | _, .nils, _, .nils _ => .nils _
  | _, .nilp, _, .nilp _ => .nilp _
  | _, .nilf, _, .nilf _ => .nilf _
  | _, .nili, _, .nili _ => .nili _
  | _, .agg cs, h, .agg _ vs _ hv => .agg _ vs cs (RdL.nomem (by simpa [D.nomem] using h) hv)
  | _, .tuple cs, h, .tuple _ vs _ hv => .tuple _ vs cs (RdL.nomem (by simpa [D.nomem] using h) hv)
theorem RdL.nomem {E E' : Env} {β β' : Names} : ∀ {vs : List Value} {ds : List D}, D.nomemL ds = true → RdL E β vs ds → RdL E' β' vs ds
  | _, [], _, .nil _ => .nil _
  | _, d :: ds, h, .cons hv t =>
    have h' : d.nomem = true ∧ D.nomemL ds = true := by simpa [D.nomemL] using h
    .cons (Rd.nomem h'.1 hv) (RdL.nomem h'.2 t)
end

mutual
/-- What reads as the one may be taken as the other, once nothing is written any more. -/
inductive FD (S : St) : D → D → Prop
  | refl (d) : FD S d d
  | nils (f) : FD S .nils (.slice f [])
  | gsl (id sz l) : FD S (.gsl id sz l) (.slice false l)
  | osl {id sz n e l} (he : S.ent id = .blk e (D.flat l)) (hn : l.length = n) (hz : ∀ d ∈ l, d.cells.length = sz) (hp : D.refsInL noRef (D.flat l) = true) : FD S (.osl id sz n) (.slice false l)
  | ref {id off e ds cs cs'} (he : S.ent id = .blk e ds) (hd : ds.drop off = cs) (h : FDL S cs cs') (hp : D.refsInL noRef cs' = true) : FD S (.ref id off) (.fptr cs')
  | dead (d) : FD S d .dead
  | agg {cs cs'} (h : FDL S cs cs') : FD S (.agg cs) (.agg cs')
  | tuple {cs cs'} (h : FDL S cs cs') : FD S (.tuple cs) (.tuple cs')
  | fn {f cs cs'} (h : FDL S cs cs') : FD S (.fn f cs) (.fn f cs')
inductive FDL (S : St) : List D → List D → Prop
  | nil : FDL S [] []
  | cons {d d' ds ds'} (h : FD S d d') (t : FDL S ds ds') : FDL S (d :: ds) (d' :: ds')
end

theorem fdl_refl {S : St} : ∀ (ds : List D), FDL S ds ds
  | [] => .nil
  | d :: ds => .cons (.refl d) (fdl_refl ds)
theorem FDT {α : Type} (f : Enc α) {S : St} {id n : Nat} {e : TypeId} {xs : List α} (he : S.ent id = .blk e (D.flat (xs.map f.d))) (hn : xs.length = n) : FD S (.osl id f.sz n) (.slice false (xs.map f.d)) :=
  .osl he (by rw [List.length_map, hn]) (f.len xs) (f.noRef xs)

/-- All that is owned may be looked at. -/
def Env.all (E : Env) (β : Names) (S : St) : Env := ⟨E.w, fun b o => E.X b o ∧ ¬ ∃ i, (S.ent i).held = true ∧ β i = some b⟩
theorem Env.all_le (E : Env) (β : Names) (S : St) : E.le (E.all β S) :=
  ⟨fun _ _ _ h1 h2 => ⟨h1, fun h3 => h2 h3.1⟩, fun _ c _ f h1 => ⟨c, f, h1, rfl⟩⟩

section
variable {P : Program} {O : Origin} {N : Nat} {S S' : St} {o : Oper} {t : Nat} {Q : Exit → St → Prop}

theorem row_all {E : Env} {β : Names} (h : HOk O E β S.ent) {id b : Nat} {e : TypeId} {ds : List D} (he : S.ent id = .blk e ds) (hb : β id = some b) :
    ∃ vs, (E.all β S).row b 0 vs ∧ RdL E β vs ds := by
  have hent := h.ent id
  rw [he] at hent
  obtain ⟨vs, sp, _, hh, _, hl⟩ := blk_at hent hb
  refine ⟨vs, fun k v hk => ⟨?_, fun h3 => h3.2 ⟨id, by rw [he]; rfl, hb⟩⟩, hl⟩
  show E.w.cell? _ = _
  have hlt := (List.getElem?_eq_some_iff.1 hk).1
  rw [Nat.zero_add, cell_of_row _ _ _ _ _ _ hh]; simpa [List.getElem?_append_left hlt] using hk

theorem rd_osl_fd {E : Env} {β : Names} (h : HOk O E β S.ent) {v : Value} {id sz n : Nat} {e : TypeId} {l : List D} (he : S.ent id = .blk e (D.flat l)) (hn : l.length = n) (hz : ∀ d ∈ l, d.cells.length = sz) (hp : D.refsInL noRef (D.flat l) = true) (hv : Rd E β v (.osl id sz n)) : Rd (E.all β S) β v (.slice false l) := by
  cases hv with
  | osl _ _ b _ cap _ hb hc hsz _ _ _ _ _ _ =>
    obtain ⟨vs, hr, hv⟩ := row_all h he hb
    exact .slice _ b 0 n cap sz false vs l hn hc (fun h => by cases h) hz hsz hr ((RdL.mono (E.all_le β S) (Names.le.refl _) hv).bare hp)
  | nosl => rw [List.length_eq_zero_iff.1 hn]; exact .nslice _ false
mutual
theorem Rd.fd {E : Env} {β : Names} (h : HOk O E β S.ent) : ∀ {v : Value} {d d' : D}, FD S d d' → Rd E β v d → Rd (E.all β S) β v d'
  | _, _, _, .refl _, hv => Rd.mono (E.all_le β S) (Names.le.refl _) hv
  | _, _, _, .nils f, .nils _ => .nslice _ f
  | _, _, _, .gsl _ _ _, .gsl _ _ b len cap sz vs _ _ hl hc hz hsz hr hv _ _ _ _ _ _ => .slice _ b 0 len cap sz false vs _ hl hc (fun h => by cases h) hz hsz ((E.all_le β S).row hr) (RdL.mono (E.all_le β S) (Names.le.refl _) hv)
  | _, _, _, .gsl _ _ _, .ngsl _ _ _ => .nslice _ false
  | _, _, _, .osl he hn hz hp, hv => rd_osl_fd h he hn hz hp hv
  | _, _, _, .ref (off := off) he hd hc hp, .ref _ _ _ b hb =>
    let ⟨vs, hr, hv⟩ := row_all h he hb
    .fptr _ b off (vs.drop off) _ (by have := hr.drop off; rwa [Nat.zero_add] at this) ((RdL.fd h hc (hd ▸ hv.drop off)).bare hp)
  | _, _, _, .dead _, _ => .dead _ _
  | _, _, _, .agg hc, .agg _ vs _ hv => .agg _ vs _ (RdL.fd h hc hv)
  | _, _, _, .tuple hc, .tuple _ vs _ hv => .tuple _ vs _ (RdL.fd h hc hv)
  | _, _, _, .fn hc, .fn _ f vs _ hv => .fn _ f vs _ (RdL.fd h hc hv)
theorem RdL.fd {E : Env} {β : Names} (h : HOk O E β S.ent) : ∀ {vs : List Value} {ds ds' : List D}, FDL S ds ds' → RdL E β vs ds → RdL (E.all β S) β vs ds'
  | _, _, _, .nil, .nil _ => .nil _
  | _, _, _, .cons h1 t, .cons hv tv => .cons (Rd.fd h h1 hv) (RdL.fd h t tv)
end

theorem iop_enterp {f : FuncId} {ds ds' : List D} {r : D} (hd : o.dst = some t) (ht : t < N)
    (h : ∀ E β a, Rel O N S E β a → ∃ vs : List Value, (execOp a.eval o).run P E.w = .ok (.enter f vs.toArray) E.w ∧ RdL E β vs ds) (hk : FDL S ds ds') (hp : D.refsInL noRef ds' = true) (hf : PureAt P f ds' r) (hr : r.nomem = true) : IOp P O N o S (S.set t r) := by
  intro E β a hrel next Q hn
  obtain ⟨vs, hrun, hv⟩ := h E β a hrel
  unfold Oper.wp
  rw [hrun]
  simp only [Oper.upon, hd]
  refine (hf (E.all β S) vs (fun b o h => hrel.h.xlt b o h.1) ((RdL.fd hrel.h hk hv).bare hp)).mono ?_
  rintro e w' ⟨v, rfl, hb, hrd⟩
  have hr' : Rel O N S ⟨w', E.X⟩ β a := ⟨hrel.n, hrel.nd.below hb, hrel.h.below hb, fun s => Rd.mono (below_le hb) (Names.le.refl _) (hrel.sl s)⟩
  exact hn ⟨w', E.X⟩ β _ (hr'.set ht (Rd.nomem hr hrd))

/-- A call that looks at what the caller owns, and hands back nothing of it. -/
theorem iop_callp {f : FuncId} {xs : List Operand} {ts : Array TypeId} {ds ds' : List D} {r : D} (ho : o.op = .call { callee := .value (.func f), args := xs.toArray, argTypes := ts }) (hd : o.dst = some t) (ht : t < N)
    (hc : Callable P f) (hx : SVs S xs ds) (hk : FDL S ds ds') (hp : D.refsInL noRef ds' = true) (hr : r.nomem = true) (hf : PureAt P f ds' r) : IOp P O N o S (S.set t r) :=
  iop_enterp hd ht (fun E β a hr => ⟨xs.map a.eval, by
    simp [execOp, ho, resolve, Deferred.ofValue, Act.eval, invoke, run_callFunc hc], hx.rd hr⟩) hk hp hf hr
theorem iop_callvp {x : Operand} {f : FuncId} {caps : List D} {xs : List Operand} {ts : Array TypeId} {ds ds' : List D} {r : D} (ho : o.op = .call { callee := .value x, args := xs.toArray, argTypes := ts }) (hd : o.dst = some t) (ht : t < N)
    (hc : Callable P f) (hfx : SV S x (.fn f caps)) (hx : SVs S xs ds) (hk : FDL S (ds ++ caps) ds') (hp : D.refsInL noRef ds' = true) (hr : r.nomem = true) (hf : PureAt P f ds' r) : IOp P O N o S (S.set t r) :=
  iop_enterp hd ht (fun E β a hr => by
    obtain ⟨vs, hev, hl⟩ := rd_fn (hfx.rd hr)
    exact ⟨xs.map a.eval ++ vs, by simp [execOp, ho, resolve, Deferred.ofValue, hev, invoke, run_callFunc hc], (hx.rd hr).append hl⟩) hk hp hf hr

/-- What a function hands back may be taken as plain. -/
theorem pure_of_iwpF {f : FuncId} {fn : Func} {c : Code} {ds rs : List D} (hf : P.funcs[f]? = some fn) (hb : fn.body = some c) (hN : fn.ntmps = N) (hlen : ds.length ≤ N) (hp : D.refsInL noRef rs = true)
    (h : ∀ O : Origin, O.Plain → IWP P O N c ⟨(List.range ds.length).zip ds, []⟩ (fun e S => (e = .normal ∨ e = .ret) ∧ ∃ rs0, ResVs P S fn.results.toList rs0 ∧ FDL S rs0 rs)) : PureAt P f ds (retD rs) := by
  intro E vs hX hvs
  let O : Origin := ⟨E.w, E.X, fun _ => False, β0, none, fun _ => [], fun _ => 0, fun _ => [], fun _ => (#[], .skip, .skip)⟩
  have hl := hvs.length
  have hrel : Rel O N ⟨(List.range ds.length).zip ds, []⟩ E β0 { tmps := vs.toArray ++ Array.replicate (fn.ntmps - vs.toArray.size) undef, defers := [] } := by
    refine ⟨by simp; omega, Marks.nil, ?_, ?_⟩
    · exact init_hok hX
    · intro s
      have key : ∀ (ds : List D) (vs : List Value) (k : Nat), RdL E β0 vs ds → Rd E β0 (if s < k then undef else vs.getD (s - k) undef) (look .dead s ((List.range' k ds.length).zip ds)) := by
        intro ds
        induction ds with
        | nil => intro vs k _; simp [look]; exact .dead _ _
        | cons d ds ih =>
          intro vs k hv
          cases hv with
          | cons h1 h2 =>
            simp only [List.length_cons, List.range'_succ, List.zip_cons_cons, look_cons]
            by_cases hks : k = s
            · subst hks; simpa using h1
            · rw [if_neg hks]
              have := ih _ (k + 1) h2
              by_cases hlt : s < k
              · simpa [hlt, show s < k + 1 by omega] using this
              · have h3 : ¬ s < k + 1 := by omega
                rw [if_neg hlt]; rw [if_neg h3] at this
                rw [show s - k = (s - (k + 1)) + 1 by omega]
                simpa using this
      have := key ds vs 0 hvs
      rw [List.range_eq_range']
      simp only [Nat.not_lt_zero, if_false, Nat.sub_zero] at this
      have hg : (vs.toArray ++ Array.replicate (fn.ntmps - vs.toArray.size) undef).getD s undef = vs.getD s undef := by
        by_cases hs : s < vs.length
        · simp [hs, Array.getElem?_append]
        · simp [Array.getElem?_append, hs, List.getElem?_eq_none (Nat.le_of_not_lt hs)]
          simp [Array.getElem?_replicate]
          split <;> rfl
      show Rd E β0 (Array.getD _ s undef) _
      rw [hg]
      exact this
  refine calls_of_iwp hf hb rfl (fun _ _ h => h) hrel (h O ⟨rfl, fun _ _ h => h, fun _ => rfl⟩) ?_
  rintro e S' E' β' a' hr' ⟨he, rs0, hres, hfd⟩
  refine ⟨he, ?_⟩
  have hbelow : Below E.w.heap.size E.w E'.w := ⟨hr'.h.os, hr'.h.tape, hr'.h.output, hr'.h.size, fun k hk => hr'.h.block k hk (fun h => h)⟩
  obtain ⟨vs', h1, h2⟩ := run_results (P := P) hr' hres
  have h3 := (RdL.fd hr'.h hfd h2).bare hp
  have hxx : (E'.all β' S').le ⟨E'.w, E.X⟩ := by
    constructor
    · intro b o v hc hx
      refine ⟨hc, fun hX' => hx ⟨(hr'.h.xold b o (hX b o hX') (fun h => h)).2 hX', ?_⟩⟩
      rintro ⟨i, hi, hb⟩
      have hlt : b < E.w.heap.size := hX b o hX'
      have hown : O.own b := hr'.h.own hi hb
      rcases hown with h1 | h1
      · exact absurd hlt (Nat.not_lt.2 h1)
      · exact h1
    · intro b c e f hc; exact ⟨c, f, hc, rfl⟩
  have h4 := RdL.mono hxx (Names.le.refl _) h3
  have hrun : (results fn a'.tmps).run P E'.w = .ok (if h : vs'.toArray.size = 1 then vs'.toArray[0] else .tuple vs'.toArray) E'.w := by
    have hF : results fn a'.tmps = (fn.results.mapM (resF a'.tmps)) >>= fun vs => pure (if h : vs.size = 1 then vs[0] else .tuple vs) := by
      unfold results
      congr 2
    rw [hF, ← Array.toArray_toList (xs := fn.results), List.mapM_toArray]
    simp only [Sem.run_bind, Sem.run_map, h1, Result.andThen_ok, Sem.run_pure]
  have hfin : ∃ v, (results fn a'.tmps).run P E'.w = .ok v E'.w ∧ Rd ⟨E'.w, E.X⟩ β0 v (retD rs) := by
    refine ⟨_, hrun, ?_⟩
    cases h4 with
    | nil => simpa [retD] using Rd.tuple (E := ⟨E'.w, E.X⟩) β0 [] [] (.nil _)
    | cons h5 h6 =>
      cases h6 with
      | nil => simpa [retD] using h5
      | cons h7 h8 =>
        simp only [retD, List.size_toArray, List.length_cons]
        rw [dif_neg (by omega)]
        exact .tuple _ _ _ (.cons h5 (.cons h7 h8))
  obtain ⟨v, h5, h6⟩ := hfin
  exact ⟨v, h5, v, rfl, hbelow, h6⟩
end
end Go.IL
namespace Go.IL
section
variable {P : Program} {O : Origin} {N : Nat} {S S' : St} {o : Oper} {t : Nat}
theorem EntW.lstR {ρ : Nat → Nat} {id b : Nat} {e : TypeId} {l : List Nat} (h : S.ent (ρ id) = .blk e (D.flat (l.map (eRef (ρ b)).d))) (hb : S'.okn b = true) : EntW S S' ρ id (.blk e (D.flat (l.map (eRef b).d))) :=
  .blk h (renL_ref l).symm (refsIn_ref hb l)
theorem handL {α : Type} (f : Enc α) {ρ : Nat → Nat} {i : Nat} {e : TypeId} {l : List α} (h : S.ent i = .blk e (D.flat (l.map f.d))) : S.ent i = (Ent.blk e (D.flat (l.map f.d))).ren ρ := by
  rw [h, Ent.ren, renL_flat]
theorem handLr {α : Type} (f : Enc α) {p : Nat → Bool} {e : TypeId} {l : List α} : (Ent.blk e (D.flat (l.map f.d))).refsIn p = true := refsIn_flat f l
theorem handRr {p : Nat → Bool} {b : Nat} (hb : p b = true) {e : TypeId} {l : List Nat} : (Ent.blk e (D.flat (l.map (eRef b).d))).refsIn p = true := refsIn_ref hb l
theorem iop_callh2 {f : FuncId} {xs : List Operand} {ts : Array TypeId} {ds ds' : List D} {r r' : D} {H0 H1 H1' : List (Nat × Ent)} (k : Nat) (A : List Nat) (ho : o.op = .call { callee := .value (.func f), args := xs.toArray, argTypes := ts }) (hd : o.dst = some t) (ht : t < N)
    (hc : Callable P f) (hx : SVs S xs ds') (hds : D.renL (sig k A) ds = ds') (hp : D.refsInL (givenB A) ds = true)
    (hh : Hand S k A H0) (hf : FnH P f ds H0 r H1) (hrr : r.ren (sig k A) = r') (hrp : r.refsIn (backB k A) = true) (hH1 : ∀ x ∈ H1, backB k A x.1 = true ∧ x.2.refsIn (backB k A) = true)
    (hH2 : (H1.map fun x => (sig k A x.1, x.2.ren (sig k A))) = H1') : IOp P O N o S (St.set ⟨S.sl, H1' ++ ((H0.map fun x => (sig k A x.1, Ent.none)) ++ S.H)⟩ t r') :=
  iop_callh k A ho hd ht hc hx hds hp hh hf hrr hrp hH1 (by rw [← hH2]; rfl)
theorem iop_callvh2 {x : Operand} {f : FuncId} {caps : List D} {xs : List Operand} {ts : Array TypeId} {ds ds' : List D} {r r' : D} {H0 H1 H1' : List (Nat × Ent)} (k : Nat) (A : List Nat) (ho : o.op = .call { callee := .value x, args := xs.toArray, argTypes := ts }) (hd : o.dst = some t) (ht : t < N)
    (hc : Callable P f) (hfx : SV S x (.fn f caps)) (hx : SVs S xs ds') (hds : D.renL (sig k A) ds = ds' ++ caps) (hp : D.refsInL (givenB A) ds = true)
    (hh : Hand S k A H0) (hf : FnH P f ds H0 r H1) (hrr : r.ren (sig k A) = r') (hrp : r.refsIn (backB k A) = true) (hH1 : ∀ x ∈ H1, backB k A x.1 = true ∧ x.2.refsIn (backB k A) = true)
    (hH2 : (H1.map fun x => (sig k A x.1, x.2.ren (sig k A))) = H1') : IOp P O N o S (St.set ⟨S.sl, H1' ++ ((H0.map fun x => (sig k A x.1, Ent.none)) ++ S.H)⟩ t r') :=
  iop_callvh k A ho hd ht hc hfx hx hds hp hh hf hrr hrp hH1 (by rw [← hH2]; rfl)
theorem flatrep_at {α : Type} {l : List α} (hl : 0 < l.length) : ∀ (m j : Nat), j < m * l.length → (List.replicate m l).flatten[j]? = l[j % l.length]?
  | 0, j, h => by omega
  | m + 1, j, h => by
    rw [List.replicate_succ, List.flatten_cons]
    by_cases hj : j < l.length
    · rw [List.getElem?_append_left hj, Nat.mod_eq_of_lt hj]
    · rw [List.getElem?_append_right (by omega), flatrep_at hl m (j - l.length) (by rw [Nat.add_mul, Nat.one_mul] at h; omega)]
      rw [Nat.mod_eq_sub_mod (a := j) (by omega)]
theorem made_flat {z : Array Value} (hz : 0 < z.size) (m : Nat) : madeCells z (m * z.size) = (List.replicate m z.toList).flatten.toArray := by
  have hl : (List.replicate m z.toList).flatten.length = m * z.size := by simp
  apply Array.ext
  · rw [size_madeCells]; simp
  · intro j h1 h2
    rw [size_madeCells] at h1
    have h3 := flatrep_at (l := z.toList) (by simpa using hz) m j (by simpa using h1)
    have h4 : j % z.size < z.size := Nat.mod_lt _ hz
    simp only [madeCells, Array.getElem_map, Array.getElem_range, List.getElem_toArray]
    have h5 : (List.replicate m z.toList).flatten[j]? = some ((List.replicate m z.toList).flatten[j]'(by omega)) := List.getElem?_eq_getElem _
    rw [h5] at h3
    simp only [Array.length_toList] at h3
    rw [List.getElem?_eq_getElem (by simpa using h4)] at h3
    rw [Option.some.inj h3]
    simp [h4]
theorem rdl_flatrep {E : Env} {β : Names} {vs : List Value} {ds : List D} (h : RdL E β vs ds) : ∀ (m : Nat), RdL E β (List.replicate m vs).flatten (List.replicate m ds).flatten
  | 0 => .nil _
  | m + 1 => by rw [List.replicate_succ, List.replicate_succ, List.flatten_cons, List.flatten_cons]; exact h.append (rdl_flatrep h m)
theorem flat_rep (d : D) : ∀ (m : Nat), D.flat (List.replicate m d) = (List.replicate m d.cells).flatten
  | 0 => rfl
  | m + 1 => by rw [List.replicate_succ, List.replicate_succ, List.flatten_cons, ← flat_rep d m]; rfl
/-- 'make([]T, n)'. -/
theorem iop_makeT {α : Type} (f : Enc0 α) (a : α) {T e : TypeId} {x : Operand} {k : IntKind} {n : Int} {z : Value} {bytes : Nat} {xs : List α} (id : Nat) (ho : o.op = .makeSlice T x x) (hd : o.dst = some t) (ht : t < N)
    (hu : P.underlying T = some (.slice e)) (hi : TI P e (some z) f.sz bytes) (hzs : z.cells.size = f.sz) (hf : S.ent id = .fresh) (hx : SV S x (.int k n)) (hm : made bytes n a = some xs)
    (hzd : SubL (z.cells.toList.map D.ofScalar) (f.d a).cells) :
    IOp P O N o S ((S.setE id (.blk e (D.flat (xs.map f.d)))).set t (.osl id f.sz xs.length)) := by
  obtain ⟨⟨h0, hb, h63⟩, rfl⟩ := made_e hm
  obtain ⟨m, rfl⟩ := Int.eq_ofNat_of_zero_le h0
  simp only [Int.toNat_natCast, List.length_replicate]
  refine iop_newosl id hd ht hf (by rw [f.flat_len, List.length_replicate]) f.pos (by simp only [maxLen]; omega) fun E β a' hr => ⟨(List.replicate m z.cells.toList).flatten, ?_, ?_⟩
  · obtain ⟨i, h1, h2, h3, h4⟩ := hi.at
    have hxv := rd_int (hx.rd hr)
    have := run_make (P := P) E.w T e i z hu h1 h2 k k (m : Int) (m : Int) (by omega) (by omega) (by rw [h4]; exact hb) (by omega)
    simp only [Int.toNat_natCast, h3] at this
    rw [← hzs, made_flat (by rw [hzs]; exact f.pos)] at this
    simp only [execOp, ho, hxv, Sem.run_bind, this, Result.andThen_ok, Sem.run_pure]
  · rw [List.map_replicate, flat_rep]
    exact rdl_flatrep (RdL.sub hzd (rdl_ofScalar E β z.cells.toList)) m
end
end Go.IL
namespace Go.IL
/-- What an empty slice that may be nil, or not, makes alike. -/
def bothE {α β : Type} [DecidableEq α] [DecidableEq β] (l : List α) (a b : Option β) : Option β := if l = [] then (if a = b then a else none) else b
theorem bothE_t {α β : Type} [DecidableEq α] [DecidableEq β] {l : List α} {a b : Option β} {r : β} (h : bothE l a b = some r) (hl : l = []) : a = some r := by
  unfold bothE at h; rw [if_pos hl] at h; split at h
  · exact h
  · cases h
theorem bothE_f {α β : Type} [DecidableEq α] [DecidableEq β] {l : List α} {a b : Option β} {r : β} (h : bothE l a b = some r) : b = some r := by
  unfold bothE at h; split at h
  · split at h
    · rename_i e; rw [← e]; exact h
    · cases h
  · exact h
theorem mapE {α : Type} {f : α → D} {l : List α} (h : l.map f = []) : l = [] := List.map_eq_nil_iff.1 h
end Go.IL
namespace Go.IL
section
variable {P : Program} {O : Origin} {N : Nat} {S S' : St} {o : Oper} {t : Nat}
theorem iop_eqbx {xt yt : TypeId} {x y : Operand} {a b r : Bool} (ho : o.op = .binOp .eql xt x y yt) (hd : o.dst = some t) (ht : t < N) (hu : P.underlying xt = some .bool)
    (hx : SV S x (.bool a)) (hy : SV S y (.bool b)) (hr : (a == b) = r) : IOp P O N o S (S.set t (.bool r)) := hr ▸ iop_eqb ho hd ht hu hx hy
theorem iop_nebx {xt yt : TypeId} {x y : Operand} {a b r : Bool} (ho : o.op = .binOp .neq xt x y yt) (hd : o.dst = some t) (ht : t < N) (hu : P.underlying xt = some .bool)
    (hx : SV S x (.bool a)) (hy : SV S y (.bool b)) (hr : (!(a == b)) = r) : IOp P O N o S (S.set t (.bool r)) := hr ▸ iop_neb ho hd ht hu hx hy
end
end Go.IL
