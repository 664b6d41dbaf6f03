/-
  A part of the proof: rules and plain facts. No condition.
-/
import Derived.Test.YtalalambgppmpaaIlV
import Derived.Laws.StructEq
set_option linter.all false
namespace Go.IL
section
variable {P : Program} {O : Origin} {N : Nat} {S S' : St} {o : Oper} {t : Nat} {Q : Exit → St → Prop}

/-! Structs of plain cells, compared. -/
def eqCell (u : Option TypeDesc) (d e : D) : Option Bool :=
  match u, d, e with
  | some (.int _), .int k a, .int k' b => if k = k' then some (decide (a = b)) else none
  | some .bool, .bool a, .bool b => some (a == b)
  | some .string, .str a, .str b => some (decide (a = b))
  | _, _, _ => none
def eqCells (P : Program) (ds es : List D) : List Field → Option Bool
  | [] => some true
  | f :: fs =>
    if f.name = "_" then none else
    match ds[f.offset]?, es[f.offset]? with
    | some d, some e => match eqCell (P.underlying f.type) d e with
      | some b => (eqCells P ds es fs).map (b && ·)
      | none => none
    | _, _ => none

theorem bs_eq (a b : List UInt8) : (bs a == bs b) = decide (a = b) := by
  show ((bs a).data == (bs b).data) = _
  simp [bs]; exact Bool.beq_eq_decide_eq _ _

theorem run_eqCell {w : World} {E : Env} {β β' : Names} {T : TypeId} {x y : Value} {d e : D} {b : Bool} (n : Nat) (h : eqCell (P.underlying T) d e = some b) (hx : Rd E β x d) (hy : Rd E β' y e) :
    (Op.equalIn (n + 1) T x y).run P w = .ok b w ∧ (isAgg T).run P w = .ok false w := by
  unfold eqCell at h
  split at h
  · rename_i k k1 a k2 c hu
    cases hx; cases hy
    split at h
    · rename_i hk; subst hk; cases h
      exact ⟨by simp [Op.equalIn, run_underlying hu, Bool.beq_eq_decide_eq], by simp [isAgg, run_underlying hu]⟩
    · cases h
  · rename_i a c hu
    cases hx; cases hy; cases h
    exact ⟨by simp [Op.equalIn, run_underlying hu], by simp [isAgg, run_underlying hu]⟩
  · rename_i a c hu
    cases hx; cases hy; cases h
    exact ⟨by simp [Op.equalIn, run_underlying hu, bs_eq], by simp [isAgg, run_underlying hu]⟩
  · cases h

theorem run_eqCells {w : World} {E : Env} {β β' : Names} {xs ys : List Value} {ds es : List D} (n : Nat) (hx : RdL E β xs ds) (hy : RdL E β' ys es) : ∀ (fs : List Field) {b : Bool}, eqCells P ds es fs = some b →
    (Op.eqFields (n + 1) xs.toArray ys.toArray fs).run P w = .ok b w
  | [], b, h => by simp only [eqCells, Option.some.injEq] at h; subst h; simp [Op.eqFields]
  | f :: fs, b, h => by
    unfold eqCells at h
    split at h
    · cases h
    · rename_i hn
      split at h
      · rename_i d e hd he
        split at h
        · rename_i b1 hb1
          simp only [Option.map_eq_some_iff] at h
          obtain ⟨b2, h2, rfl⟩ := h
          have hxl : f.offset < xs.length := by rw [hx.length]; exact (List.getElem?_eq_some_iff.1 hd).1
          have hyl : f.offset < ys.length := by rw [hy.length]; exact (List.getElem?_eq_some_iff.1 he).1
          have rx := hx.get f.offset (v := xs[f.offset]) (by simp [hxl]) hd
          have ry := hy.get f.offset (v := ys[f.offset]) (by simp [hyl]) he
          obtain ⟨g1, g2⟩ := run_eqCell (P := P) (w := w) n hb1 rx ry
          have p1 : (part f.type xs.toArray f.offset).run P w = .ok xs[f.offset] w := by simp [part, g2, hxl]
          have p2 : (part f.type ys.toArray f.offset).run P w = .ok ys[f.offset] w := by simp [part, g2, hyl]
          have ih := run_eqCells (w := w) n hx hy fs h2
          simp only [Op.eqFields, hn, ne_eq, not_false_eq_true, if_true, Sem.run_bind, p1, p2, g1, Result.andThen_ok]
          cases b1
          · simp
          · simpa using ih
        · cases h
      · cases h

theorem iop_eqs {xt yt : TypeId} {x y : Operand} {fs : Array Field} {ds es : List D} {b : Bool} (ho : o.op = .binOp .eql xt x y yt) (hd : o.dst = some t) (ht : t < N) (hu : P.underlying xt = some (.struct fs))
    (hs : P.stoodInHeld xt = false) (hg : P.eqGuardType P.depth xt = false) (hx : SV S x (.agg ds)) (hy : SV S y (.agg es)) (hb : eqCells P ds es fs.toList = some b) : IOp P O N o S (S.set t (.bool b)) :=
  iop_of hd ht fun E β a hr => by
    have h1 := hx.rd hr
    have h2 := hy.rd hr
    generalize hv1 : a.eval x = v1 at h1
    generalize hv2 : a.eval y = v2 at h2
    cases h1 with
    | agg _ vs1 _ r1 => cases h2 with
      | agg _ vs2 _ r2 =>
        have hf : P.fieldsOf xt = fs := by simp [Program.fieldsOf, hu]
        have h3 := run_equalIn_struct (P := P) E.w 9999 xt vs1.toArray vs2.toArray (by rw [hf]; exact hu) hs
        rw [hf, run_eqCells 9998 r1 r2 fs.toList hb] at h3
        have h4 : (Op.equal xt (.agg vs1.toArray) (.agg vs2.toArray)).run P E.w = .ok b E.w := h3
        exact ⟨.bool b, by simp [execOp, ho, hv1, hv2, eqGuard, hg, binOp, h4], .bool _ _⟩
theorem iop_nes {xt yt : TypeId} {x y : Operand} {fs : Array Field} {ds es : List D} {b : Bool} (ho : o.op = .binOp .neq xt x y yt) (hd : o.dst = some t) (ht : t < N) (hu : P.underlying xt = some (.struct fs))
    (hs : P.stoodInHeld xt = false) (hg : P.eqGuardType P.depth xt = false) (hx : SV S x (.agg ds)) (hy : SV S y (.agg es)) (hb : eqCells P ds es fs.toList = some b) : IOp P O N o S (S.set t (.bool !b)) :=
  iop_of hd ht fun E β a hr => by
    have h1 := hx.rd hr
    have h2 := hy.rd hr
    generalize hv1 : a.eval x = v1 at h1
    generalize hv2 : a.eval y = v2 at h2
    cases h1 with
    | agg _ vs1 _ r1 => cases h2 with
      | agg _ vs2 _ r2 =>
        have hf : P.fieldsOf xt = fs := by simp [Program.fieldsOf, hu]
        have h3 := run_equalIn_struct (P := P) E.w 9999 xt vs1.toArray vs2.toArray (by rw [hf]; exact hu) hs
        rw [hf, run_eqCells 9998 r1 r2 fs.toList hb] at h3
        have h4 : (Op.equal xt (.agg vs1.toArray) (.agg vs2.toArray)).run P E.w = .ok b E.w := h3
        exact ⟨.bool !b, by simp [execOp, ho, hv1, hv2, eqGuard, hg, binOp, h4], .bool _ _⟩
end
end Go.IL
