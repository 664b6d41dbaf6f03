/-
  A part of the proof: rules and plain facts. No condition.
-/
import Derived.Test.YtalalambgppmpaaIlRg
import Derived.Laws.FloatArith
import Derived.Laws.Cover2
import Derived.Laws.Externs
set_option linter.all false
namespace Go.IL

/-! Floats of 64 bits: all that are no numbers are one. -/
def fOrd (x y : Nat) : Option Ordering := Ieee.double.order x y
def fAr (op : BinOp) (x y : Nat) : Nat := (floatBits op .f64 x y).getD (fnan .f64)
def isNan (m : Nat) : Bool := (Ieee.double.read m).isNaN
theorem nan_fnan : isNan (fnan .f64) = true := by decide +kernel
theorem fcan_of {m : Nat} (h : isNan m = false) : fcan .f64 m = m := by
  unfold fcan FloatKind.decode FloatKind.format; unfold isNan at h; simp [h]
theorem fcan_nan {m : Nat} (h : isNan m = true) : fcan .f64 m = fnan .f64 := by
  unfold fcan FloatKind.decode FloatKind.format; unfold isNan at h; simp [h]
theorem read_nan {m : Nat} (h : isNan m = true) : ∃ s f, Ieee.double.read m = .nan s f := by
  unfold isNan at h
  cases hr : Ieee.double.read m with
  | nan s f => exact ⟨s, f, rfl⟩
  | number => rw [hr] at h; cases h
  | infinity => rw [hr] at h; cases h
theorem ord_nan1 {x y : Nat} (h : isNan x = true) : fOrd x y = none := by
  obtain ⟨s, f, hr⟩ := read_nan h
  unfold fOrd Ieee.Format.order; rw [hr]; rfl
theorem ord_nan2 {x y : Nat} (h : isNan y = true) : fOrd x y = none := by
  obtain ⟨s, f, hr⟩ := read_nan h
  unfold fOrd Ieee.Format.order; rw [hr]; cases Ieee.double.read x <;> rfl
theorem ord_can (x y : Nat) : fOrd (fcan .f64 x) (fcan .f64 y) = fOrd x y := by
  cases hx : isNan x with
  | true => rw [fcan_nan hx, ord_nan1 nan_fnan, ord_nan1 hx]
  | false =>
    cases hy : isNan y with
    | true => rw [fcan_nan hy, ord_nan2 nan_fnan, ord_nan2 hy]
    | false => rw [fcan_of hx, fcan_of hy]
theorem bits_nan1 {op : BinOp} {x y : Nat} (h : isNan x = true) : floatBits op .f64 x y = none := by
  obtain ⟨s, f, hr⟩ := read_nan h
  unfold floatBits
  have hf : FloatKind.format .f64 = Ieee.double := rfl
  split <;> first | rfl | (simp only [hf, Ieee.Format.add, Ieee.Format.sub, Ieee.Format.mul, Ieee.Format.div, hr]; rfl)
theorem bits_nan2 {op : BinOp} {x y : Nat} (h : isNan y = true) : floatBits op .f64 x y = none := by
  obtain ⟨s, f, hr⟩ := read_nan h
  unfold floatBits
  have hf : FloatKind.format .f64 = Ieee.double := rfl
  split <;> first | rfl | (simp only [hf, Ieee.Format.add, Ieee.Format.sub, Ieee.Format.mul, Ieee.Format.div, hr, Ieee.Datum.opposite]; cases Ieee.double.read x <;> rfl)
theorem bits_can (op : BinOp) (x y : Nat) : floatBits op .f64 (fcan .f64 x) (fcan .f64 y) = floatBits op .f64 x y := by
  cases hx : isNan x with
  | true => rw [fcan_nan hx, bits_nan1 nan_fnan, bits_nan1 hx]
  | false =>
    cases hy : isNan y with
    | true => rw [fcan_nan hy, bits_nan2 nan_fnan, bits_nan2 hy]
    | false => rw [fcan_of hx, fcan_of hy]

theorem word_ok (neg : Bool) {r : Nat} (h : r ≤ 9218868437227405312) : isNan (Ieee.double.word neg r) = false := by
  have hs : Ieee.double.signWeight = 9223372036854775808 := by decide +kernel
  have hi : Ieee.double.infRung = 9218868437227405312 := by decide +kernel
  have hm : (if neg then 9223372036854775808 + r else r) % 9223372036854775808 = r := by
    cases neg
    · exact Nat.mod_eq_of_lt (by simp; omega)
    · simp only [if_true]; omega
  unfold isNan Ieee.Format.read Ieee.Format.word
  simp only [hs, hi, hm]
  split
  · rfl
  · split
    · rfl
    · rw [if_pos (by omega)]; rfl
theorem write_ok {d : Ieee.Datum} (h : d.isNaN = false) : isNan (Ieee.double.write d) = false := by
  have hi : Ieee.double.infRung = 9218868437227405312 := by decide +kernel
  cases d with
  | nan s f => cases h
  | infinity s => exact word_ok s (by rw [hi]; exact Nat.le_refl _)
  | number s m p =>
    unfold Ieee.Format.write Ieee.Format.nearest
    simp only
    split
    · exact word_ok s (Nat.zero_le _)
    · exact word_ok s (by rw [hi]; exact Nat.min_le_right _ _)
theorem bits_ok {op : BinOp} {x y r : Nat} (h : floatBits op .f64 x y = some r) : isNan r = false := by
  have hf : FloatKind.format .f64 = Ieee.double := rfl
  have sum_ok : ∀ a b d, Ieee.Datum.sum a b = some d → d.isNaN = false := by
    intro a b d hd
    unfold Ieee.Datum.sum at hd
    split at hd
    · cases hd
    · cases hd
    · split at hd <;> cases hd; rfl
    · cases hd; rfl
    · cases hd; rfl
    · cases hd; rfl
  have prod_ok : ∀ a b d, Ieee.Datum.product a b = some d → d.isNaN = false := by
    intro a b d hd
    unfold Ieee.Datum.product at hd
    split at hd
    · cases hd
    · cases hd
    · cases hd; rfl
    · split at hd <;> cases hd; rfl
    · split at hd <;> cases hd; rfl
    · cases hd; rfl
  have quo_ok : ∀ n a b d, Ieee.Datum.quotient n a b = some d → d.isNaN = false := by
    intro n a b d hd
    unfold Ieee.Datum.quotient at hd
    split at hd
    · cases hd
    · cases hd
    · cases hd
    · cases hd; rfl
    · cases hd; rfl
    · split at hd
      · split at hd <;> cases hd; rfl
      · cases hd; rfl
  unfold floatBits at h
  split at h
  · simp only [hf, Ieee.Format.add, Option.map_eq_some_iff] at h; obtain ⟨d, hd, rfl⟩ := h; exact write_ok (sum_ok _ _ _ hd)
  · simp only [hf, Ieee.Format.sub, Option.map_eq_some_iff] at h; obtain ⟨d, hd, rfl⟩ := h; exact write_ok (sum_ok _ _ _ hd)
  · simp only [hf, Ieee.Format.mul, Option.map_eq_some_iff] at h; obtain ⟨d, hd, rfl⟩ := h; exact write_ok (prod_ok _ _ _ hd)
  · simp only [hf, Ieee.Format.div, Option.map_eq_some_iff] at h; obtain ⟨d, hd, rfl⟩ := h; exact write_ok (quo_ok _ _ _ _ hd)
  · cases h
theorem ofInt_ok (n : Int) : isNan (floatOfInt .f64 n) = false := by
  unfold floatOfInt FloatKind.nearest FloatKind.encode
  exact write_ok rfl
theorem chosen_nan {b q : Nat} (hb : b < 2) (hq : q < 4503599627370495) : isNan (b * 9223372036854775808 + 9218868437227405312 + 1 + q) = true := by
  have hs : Ieee.double.signWeight = 9223372036854775808 := by decide +kernel
  have hi : Ieee.double.infRung = 9218868437227405312 := by decide +kernel
  have hn : Ieee.double.binade = 4503599627370496 := by decide +kernel
  have hm : (b * 9223372036854775808 + 9218868437227405312 + 1 + q) % 9223372036854775808 = 9218868437227405313 + q := by omega
  unfold isNan Ieee.Format.read
  simp only [hs, hi, hn, hm]
  rw [if_neg (by omega), if_neg (by omega), if_neg (by omega)]
  rfl
def fCmp (op : BinOp) (a b : Nat) : Bool :=
  match op with
  | .eql => fOrd a b == some .eq
  | .neq => fOrd a b != some .eq
  | .lss => fOrd a b == some .lt
  | .leq => fOrd a b == some .lt || fOrd a b == some .eq
  | .gtr => fOrd a b == some .gt
  | .geq => fOrd a b == some .gt || fOrd a b == some .eq
  | _ => false
section
variable {P : Program} {O : Origin} {N : Nat} {S S' : St} {o : Oper} {t : Nat}
theorem iop_fcmp {op : BinOp} {T1 T2 : TypeId} {x y : Operand} {a b : Nat} (ho : o.op = .binOp op T1 x y T2) (hd : o.dst = some t) (ht : t < N) (hx : SV S x (.float .f64 a)) (hy : SV S y (.float .f64 b))
    (hop : (match op with | .eql | .neq | .lss | .leq | .gtr | .geq => true | _ => false) = true) : IOp P O N o S (S.set t (.bool (fCmp op a b))) :=
  iop_of hd ht fun E β ac hrel => by
    obtain ⟨m, hm, rfl⟩ := rd_float (hx.rd hrel)
    obtain ⟨n, hn, rfl⟩ := rd_float (hy.rd hrel)
    refine ⟨.bool (fCmp op (fcan .f64 m) (fcan .f64 n)), ?_, .bool _ _⟩
    have hf : FloatKind.format .f64 = Ieee.double := rfl
    have hc := ord_can m n
    have e : FloatKind.f64.format.order m n = fOrd m n := rfl
    cases op <;> first | (cases hop; done) | simp [execOp, ho, hm, hn, eqGuard, binOp_float_cmp_eql, binOp_float_cmp_neq, binOp_float_cmp_lss, binOp_float_cmp_leq, binOp_float_cmp_gtr, binOp_float_cmp_geq, fCmp, hc, e]
theorem iop_far {op : BinOp} {T1 T2 : TypeId} {x y : Operand} {a b : Nat} (ho : o.op = .binOp op T1 x y T2) (hd : o.dst = some t) (ht : t < N) (hx : SV S x (.float .f64 a)) (hy : SV S y (.float .f64 b))
    (hop : (match op with | .add | .sub | .mul | .quo => true | _ => false) = true) : IOp P O N o S (S.set t (.float .f64 (fAr op a b))) := by
  intro E β ac hrel next Q hnext
  obtain ⟨m, hm, rfl⟩ := rd_float (hx.rd hrel)
  obtain ⟨n, hn, rfl⟩ := rd_float (hy.rd hrel)
  unfold Oper.wp
  have hb := bits_can op m n
  cases hfb : floatBits op .f64 m n with
  | some r =>
    have h1 := run_float_arith (P := P) E.w op T1 .f64 m n r hfb
    have hrun : (execOp ac.eval o).run P E.w = .ok (.value (.float .f64 r)) E.w := by
      cases op <;> first | (cases hop; done) | simp [execOp, ho, hm, hn, eqGuard, h1, Result.andThen]
    rw [hrun]
    simp only [Oper.upon, hd]
    refine hnext E β _ (hrel.set ht (.float _ _ _ _ ?_))
    rw [fcan_of (bits_ok hfb), fAr, hb, hfb]; rfl
  | none =>
    have hrun : ∃ q, isNan q = true ∧ (execOp ac.eval o).run P E.w = .ok (.value (.float .f64 q)) { E.w with drawn := E.w.drawn + 1 } := by
      refine ⟨_, chosen_nan (b := E.w.tape E.w.drawn (.nanBits .f64 m n) % 2) (q := (E.w.tape E.w.drawn (.nanBits .f64 m n) / 2) % 4503599627370495) (Nat.mod_lt _ (by decide)) (Nat.mod_lt _ (by decide)), ?_⟩
      cases op <;> first | (cases hop; done) | (simp only [floatBits] at hfb; simp [execOp, ho, hm, hn, eqGuard, binOp, Op.floatArith, hfb, choose, Sem.run, Sem.run_bind, Question.forced, Question.cut, Result.andThen])
    obtain ⟨q, hq, hrun⟩ := hrun
    rw [hrun]
    simp only [Oper.upon, hd]
    have hbel : RowKit.Below E.w.heap.size E.w { E.w with drawn := E.w.drawn + 1 } := (RowKit.Below.refl _ _).drew
    have hr' : Rel O N S ⟨{ E.w with drawn := E.w.drawn + 1 }, E.X⟩ β ac := ⟨hrel.n, hrel.nd.below hbel, hrel.h.below hbel, fun s => Rd.mono (below_le hbel) (Names.le.refl _) (hrel.sl s)⟩
    refine hnext ⟨{ E.w with drawn := E.w.drawn + 1 }, E.X⟩ β _ (hr'.set ht (.float _ _ _ _ ?_))
    rw [fcan_nan hq, fAr, hb, hfb]; rfl
theorem iop_fint {T T2 : TypeId} {x : Operand} {k : IntKind} {n : Int} (ho : o.op = .convert T T2 x) (hd : o.dst = some t) (ht : t < N) (hs : (P.underlying T).isSome = true) (hu : P.underlying T2 = some (.float .f64)) (hx : SV S x (.int k n)) : IOp P O N o S (S.set t (.float .f64 (floatOfInt .f64 n))) :=
  iop_of hd ht fun E β ac hrel => by
    have h1 := run_convert_int_float (P := P) E.w T T2 k .f64 n hs hu
    exact ⟨.float .f64 (floatOfInt .f64 n), by simp [execOp, ho, rd_int (hx.rd hrel), h1, Result.andThen], .float _ _ _ _ (fcan_of (ofInt_ok n))⟩
theorem iop_fcmpx {op : BinOp} {T1 T2 : TypeId} {x y : Operand} {a b : Nat} {r : Bool} (ho : o.op = .binOp op T1 x y T2) (hd : o.dst = some t) (ht : t < N) (hx : SV S x (.float .f64 a)) (hy : SV S y (.float .f64 b))
    (hop : (match op with | .eql | .neq | .lss | .leq | .gtr | .geq => true | _ => false) = true) (h : fCmp op a b = r) : IOp P O N o S (S.set t (.bool r)) := by subst h; exact iop_fcmp ho hd ht hx hy hop
theorem iop_farx {op : BinOp} {T1 T2 : TypeId} {x y : Operand} {a b r : Nat} (ho : o.op = .binOp op T1 x y T2) (hd : o.dst = some t) (ht : t < N) (hx : SV S x (.float .f64 a)) (hy : SV S y (.float .f64 b))
    (hop : (match op with | .add | .sub | .mul | .quo => true | _ => false) = true) (h : fAr op a b = r) : IOp P O N o S (S.set t (.float .f64 r)) := by subst h; exact iop_far ho hd ht hx hy hop
theorem iop_fintx {T T2 : TypeId} {x : Operand} {k : IntKind} {n : Int} {r : Nat} (ho : o.op = .convert T T2 x) (hd : o.dst = some t) (ht : t < N) (hs : ∃ d, P.underlying T = some d) (hu : P.underlying T2 = some (.float .f64)) (hx : SV S x (.int k n)) (h : floatOfInt .f64 n = r) : IOp P O N o S (S.set t (.float .f64 r)) := by
  subst h; obtain ⟨d, hd'⟩ := hs; exact iop_fint ho hd ht (by rw [hd']; rfl) hu hx
end
/-! Functions without a body: their bits. -/
def ExternAt (P : Program) (f : FuncId) (g : Array Value → Sem Value) : Prop := ∃ fn, P.funcs[f]? = some fn ∧ (fn.name == "runtime.NumGoroutine") = false ∧ fn.body.isNone = true ∧ Extern.findNext fn = none ∧ Extern.find fn = some g
/-- The bits of what is a number; of what is none they are not told. -/
def fbits (a : Nat) : Option Int := bif isNan a then none else some (a : Int)
theorem fbits_e {a : Nat} {r : Int} (h : fbits a = some r) : isNan a = false ∧ (a : Int) = r := by
  unfold fbits at h; cases hn : isNan a with
  | true => rw [hn] at h; cases h
  | false => rw [hn] at h; exact ⟨rfl, Option.some.inj h⟩
section
variable {P : Program} {O : Origin} {N : Nat} {S S' : St} {o : Oper} {t : Nat}
theorem iop_extern {f : FuncId} {g : Array Value → Sem Value} {xs : List Operand} {ts : Array TypeId} {ds : List D} {d : D} (ho : o.op = .call { callee := .value (.func f), args := xs.toArray, argTypes := ts }) (hd : o.dst = some t) (ht : t < N)
    (hc : ExternAt P f g) (hx : SVs S xs ds) (hg : ∀ (E : Env) β vs, RdL E β vs ds → ∃ v, (g vs.toArray).run P E.w = .ok v E.w ∧ Rd E β v d) : IOp P O N o S (S.set t d) :=
  iop_of hd ht fun E β a hr => by
    obtain ⟨fn, h1, h2, h3, h4, h5⟩ := hc
    obtain ⟨v, hv, hrd⟩ := hg E β _ (hx.rd hr)
    exact ⟨v, by simp [execOp, ho, resolve, Deferred.ofValue, Act.eval, invoke, run_callFunc_extern h1 h2 h3 h4 h5, hv, Result.andThen], hrd⟩
theorem iop_fbits {f : FuncId} {x : Operand} {ts : Array TypeId} {a : Nat} {r : Int} (ho : o.op = .call { callee := .value (.func f), args := #[x], argTypes := ts }) (hd : o.dst = some t) (ht : t < N)
    (hc : ExternAt P f Extern.MathFloatBits.float64bits) (hx : SV S x (.float .f64 a)) (h : fbits a = some r) : IOp P O N o S (S.set t (.int .u64 r)) := by
  refine iop_extern (xs := [x]) ho hd ht hc (.cons hx .nil) fun E β vs hv => ?_
  obtain ⟨hn, rfl⟩ := fbits_e h
  cases hv with
  | cons h1 h2 =>
    cases h2
    obtain ⟨m, rfl, hm⟩ := rd_float h1
    refine ⟨_, rfl, ?_⟩
    cases hb : isNan m with
    | true => rw [fcan_nan hb] at hm; rw [← hm, nan_fnan] at hn; cases hn
    | false => rw [fcan_of hb] at hm; subst hm; exact .int _ _ _
theorem iop_ffrom {f : FuncId} {x : Operand} {ts : Array TypeId} {n : Int} {r : Nat} (ho : o.op = .call { callee := .value (.func f), args := #[x], argTypes := ts }) (hd : o.dst = some t) (ht : t < N)
    (hc : ExternAt P f Extern.MathFloatBits.float64frombits) (hx : SV S x (.int .u64 n)) (h : fcan .f64 n.toNat = r) : IOp P O N o S (S.set t (.float .f64 r)) := by
  refine iop_extern (xs := [x]) ho hd ht hc (.cons hx .nil) fun E β vs hv => ?_
  cases hv with
  | cons h1 h2 =>
    cases h2
    obtain rfl := rd_int h1
    exact ⟨_, rfl, .float _ _ _ _ h⟩
end
theorem opp_nan (m : Nat) : isNan (Op.negFloat .f64 m) = isNan m := by
  have hs : Ieee.double.signWeight = 9223372036854775808 := by decide +kernel
  have hx : Op.negFloat .f64 m % 9223372036854775808 = m % 9223372036854775808 := by
    show (m ^^^ 2 ^ 63) % 2 ^ 63 = m % 2 ^ 63
    rw [Nat.xor_mod_two_pow]; simp
  unfold isNan Ieee.Format.read
  simp only [hs, hx]
  split
  · rfl
  · split
    · rfl
    · split <;> rfl
def fNeg (a : Nat) : Nat := fcan .f64 (Op.negFloat .f64 a)
theorem neg_can (m : Nat) : fcan .f64 (Op.negFloat .f64 m) = fNeg (fcan .f64 m) := by
  unfold fNeg
  cases h : isNan m with
  | true => rw [fcan_nan (by rw [opp_nan]; exact h), fcan_nan h, fcan_nan (by rw [opp_nan]; exact nan_fnan)]
  | false => rw [fcan_of h]
/-- The less and the greater of two that are numbers. -/
def fMin (a b : Nat) : Option Nat := match fOrd a b with
  | none => none
  | some .lt => some a
  | some .gt => some b
  | some .eq => some (if (Ieee.double.read a).neg then a else b)
def fMax (a b : Nat) : Option Nat := match fOrd a b with
  | none => none
  | some .lt => some b
  | some .gt => some a
  | some .eq => some (if (Ieee.double.read a).neg then b else a)
theorem ord_some {a b : Nat} {x : Ordering} (h : fOrd a b = some x) : isNan a = false ∧ isNan b = false := by
  constructor
  · cases hn : isNan a with
    | false => rfl
    | true => rw [ord_nan1 hn] at h; cases h
  · cases hn : isNan b with
    | false => rfl
    | true => rw [ord_nan2 hn] at h; cases h
theorem can_eq {m a : Nat} (h : fcan .f64 m = a) (hn : isNan a = false) : m = a ∧ isNan m = false := by
  cases hb : isNan m with
  | true => rw [fcan_nan hb] at h; rw [← h, nan_fnan] at hn; cases hn
  | false => rw [fcan_of hb] at h; exact ⟨h, rfl⟩
section
variable {P : Program} {O : Origin} {N : Nat} {S S' : St} {o : Oper} {t : Nat}
theorem iop_fneg {T : TypeId} {x : Operand} {a r : Nat} (ho : o.op = .unOp .neg T x) (hd : o.dst = some t) (ht : t < N) (hx : SV S x (.float .f64 a)) (h : fNeg a = r) : IOp P O N o S (S.set t (.float .f64 r)) :=
  iop_of hd ht fun E β ac hrel => by
    obtain ⟨m, hm, rfl⟩ := rd_float (hx.rd hrel)
    exact ⟨.float .f64 (Op.negFloat .f64 m), by simp [execOp, ho, hm, Op.unary], .float _ _ _ _ (by rw [neg_can, h])⟩
theorem iop_fmin {x y : Operand} {ts : Array TypeId} {a b r : Nat} (ho : o.op = .call { callee := .builtin .min, args := #[x, y], argTypes := ts }) (hd : o.dst = some t) (ht : t < N)
    (hx : SV S x (.float .f64 a)) (hy : SV S y (.float .f64 b)) (hc : fMin a b = some r) : IOp P O N o S (S.set t (.float .f64 r)) :=
  iop_of hd ht fun E β ac hr => by
    obtain ⟨m, hm, h1⟩ := rd_float (hx.rd hr)
    obtain ⟨n, hn, h2⟩ := rd_float (hy.rd hr)
    have hf : FloatKind.format .f64 = Ieee.double := rfl
    unfold fMin at hc
    cases ho' : fOrd a b with
    | none => rw [ho'] at hc; cases hc
    | some q =>
      obtain ⟨na, nb⟩ := ord_some ho'
      obtain ⟨rfl, _⟩ := can_eq h1 na
      obtain ⟨rfl, _⟩ := can_eq h2 nb
      have e : Ieee.double.order m n = some q := ho'
      have hd : FloatKind.f64.decode m = Ieee.double.read m := rfl
      rw [ho'] at hc
      have hrn : isNan r = false := by cases q <;> (cases hc; first | assumption | (split <;> assumption))
      refine ⟨.float .f64 r, ?_, .float _ _ _ _ (fcan_of hrn)⟩
      cases q <;> (cases hc; simp [execOp, ho, resolve, invoke, builtin, Builtin.min_, Builtin.min2, hm, hn, hf, e, hd])
theorem iop_fmax {x y : Operand} {ts : Array TypeId} {a b r : Nat} (ho : o.op = .call { callee := .builtin .max, args := #[x, y], argTypes := ts }) (hd : o.dst = some t) (ht : t < N)
    (hx : SV S x (.float .f64 a)) (hy : SV S y (.float .f64 b)) (hc : fMax a b = some r) : IOp P O N o S (S.set t (.float .f64 r)) :=
  iop_of hd ht fun E β ac hr => by
    obtain ⟨m, hm, h1⟩ := rd_float (hx.rd hr)
    obtain ⟨n, hn, h2⟩ := rd_float (hy.rd hr)
    have hf : FloatKind.format .f64 = Ieee.double := rfl
    unfold fMax at hc
    cases ho' : fOrd a b with
    | none => rw [ho'] at hc; cases hc
    | some q =>
      obtain ⟨na, nb⟩ := ord_some ho'
      obtain ⟨rfl, _⟩ := can_eq h1 na
      obtain ⟨rfl, _⟩ := can_eq h2 nb
      have e : Ieee.double.order m n = some q := ho'
      have hd : FloatKind.f64.decode m = Ieee.double.read m := rfl
      rw [ho'] at hc
      have hrn : isNan r = false := by cases q <;> (cases hc; first | assumption | (split <;> assumption))
      refine ⟨.float .f64 r, ?_, .float _ _ _ _ (fcan_of hrn)⟩
      cases q <;> (cases hc; simp [execOp, ho, resolve, invoke, builtin, Builtin.max_, Builtin.max2, hm, hn, hf, e, hd])
theorem iop_max3 {x y u : Operand} {ts : Array TypeId} {k : IntKind} {a b d c : Int} (ho : o.op = .call { callee := .builtin .max, args := #[x, y, u], argTypes := ts }) (hd : o.dst = some t) (ht : t < N)
    (hx : SV S x (.int k a)) (hy : SV S y (.int k b)) (hu : SV S u (.int k d)) (hc : max (max a b) d = c) : IOp P O N o S (S.set t (.int k c)) :=
  iop_of hd ht fun E β ac hr => ⟨.int k c, by
    subst hc
    have h1 : ∀ a b : Int, (if a < b then b else a) = max a b := by intro a b; split <;> omega
    simp [execOp, ho, resolve, invoke, builtin, Builtin.max_, Builtin.max2, rd_int (hx.rd hr), rd_int (hy.rd hr), rd_int (hu.rd hr), h1], .int _ _ _⟩
theorem iop_min3 {x y u : Operand} {ts : Array TypeId} {k : IntKind} {a b d c : Int} (ho : o.op = .call { callee := .builtin .min, args := #[x, y, u], argTypes := ts }) (hd : o.dst = some t) (ht : t < N)
    (hx : SV S x (.int k a)) (hy : SV S y (.int k b)) (hu : SV S u (.int k d)) (hc : min (min a b) d = c) : IOp P O N o S (S.set t (.int k c)) :=
  iop_of hd ht fun E β ac hr => ⟨.int k c, by
    subst hc
    have h1 : ∀ a b : Int, (if b < a then b else a) = min a b := by intro a b; split <;> omega
    simp [execOp, ho, resolve, invoke, builtin, Builtin.min_, Builtin.min2, rd_int (hx.rd hr), rd_int (hy.rd hr), rd_int (hu.rd hr), h1], .int _ _ _⟩
end
/-! Lists that are made, and never written: no name is needed, so they may be made under a guard. -/
section
variable {P : Program} {O : Origin} {N : Nat} {S S' : St} {o : Oper} {t : Nat}
theorem iop_buildSlice_f {T e : TypeId} {len esz eb : Nat} {ez : Value} {ps : List (Nat × Operand)} {dps : List (Nat × D)} {ds : List D} (ho : o.op = .buildSlice T len ps.toArray) (hd : o.dst = some t) (ht : t < N)
    (hu : P.underlying T = some (.slice e)) (he : TI P e (some ez) esz eb) (hsp : 0 < esz) (hx : PVs S ps dps)
    (hfill : fillD (fun i => some (i * esz, esz)) (List.replicate (len * esz) .dead) dps = some (D.flat ds)) (hl : ds.length = len) (hz : ∀ d ∈ ds, d.cells.length = esz) (hp : D.refsInL noRef (D.flat ds) = true) (hb : len * esz ≤ 2 ^ 24) :
    IOp P O N o S (S.set t (.slice false ds)) := by
  subst hl
  refine iop_below hd ht fun E β a hr => ?_
  obtain ⟨i, h1, h2, h3, _⟩ := he.at
  let init : Array Value := (Array.range (ds.length * esz)).map fun k => (if ds.length * esz = 0 then #[] else ez.cells)[k % (if ds.length * esz = 0 then #[] else ez.cells).size]!
  have hinit : RdL E β init.toList (List.replicate (ds.length * esz) .dead) := by
    have := rdl_dead E β init.toList
    rwa [show init.toList.length = ds.length * esz by simp [init]] at this
  obtain ⟨cells, h4, h5⟩ := fill_rd hr hx hinit hfill
  have hcl : cells.size = ds.length * esz := by have := h5.length; rw [flat_length hz] at this; simpa using this
  have hbel : RowKit.Below E.w.heap.size E.w (E.w.alloc (.cells cells e)) := (RowKit.Below.refl _ _).alloc (Nat.le_refl _) _
  refine ⟨.slice (some ⟨E.w.heap.size, 0, none⟩) ds.length ds.length, E.w.alloc (.cells cells e), ?_, hbel, ?_⟩
  · have hb' : ¬ (2 ^ 24 < ds.length * esz) := by omega
    simp only [execOp, ho, Instr.buildSlice, Sem.run_bind, run_underlying hu, Result.andThen_ok, he.run_size]
    rw [if_neg (by simpa using hb')]
    by_cases h0 : ds.length * esz = 0
    · have h4' := h4
      simp only [init, h0, if_true] at h4' ⊢
      simp at h4'
      simp [h4', newRow]
    · have h4' := h4
      simp only [init, h0, if_false] at h4' ⊢
      simp [zeroValue, typeInfo, h1, h2, h4', newRow]
  · refine .slice _ _ 0 _ _ esz false cells.toList _ rfl (Nat.le_refl _) (by simp) hz hsp (fun k v hk => ⟨?_, fun h => by have := hr.h.xlt _ _ h; omega⟩) (RdL.mono (below_le hbel) (Names.le.refl _) (h5.bare hp))
    rw [Nat.zero_add]
    refine (cell_of_row _ E.w.heap.size k _ _ _ (heap_alloc_new E.w _)).trans ?_
    simpa using hk
theorem iop_bsF {α : Type} (f : Enc α) (xs : List α) {T e : TypeId} {len eb : Nat} {ez : Value} {ps : List (Nat × Operand)} {dps : List (Nat × D)} (ho : o.op = .buildSlice T len ps.toArray) (hd : o.dst = some t) (ht : t < N)
    (hu : P.underlying T = some (.slice e)) (he : TI P e (some ez) f.sz eb) (hx : PVs S ps dps)
    (hfill : fillD (fun i => some (i * f.sz, f.sz)) (List.replicate (len * f.sz) .dead) dps = some (D.flat (xs.map f.d))) (hl : xs.length = len) (hb : len * f.sz ≤ 2 ^ 24) :
    IOp P O N o S (S.set t (.slice false (xs.map f.d))) :=
  iop_buildSlice_f ho hd ht hu he f.pos hx hfill (by rw [List.length_map]; exact hl) (f.len xs) (f.noRef xs) hb
end
end Go.IL
