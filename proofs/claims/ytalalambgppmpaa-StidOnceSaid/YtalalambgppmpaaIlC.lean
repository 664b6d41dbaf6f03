/-
  A part of the proof: rules and plain facts. No condition.
-/
import Derived.Test.YtalalambgppmpaaIlB
set_option linter.all false
namespace Go.IL

def D.ofScalar : Value → D
  | .bool b => .bool b
  | .int k n => .int k n
  | .float k n => .float k (fcan k n)
  | .string s => .str s.data.toList
  | .slice none 0 0 => .nils
  | .pointer none => .nilp
  | .nilFunc => .nilf
  | .nilIface => .nili
  | _ => .dead
def D.ofVal : Value → D
  | .agg cs => .agg (cs.toList.map D.ofScalar)
  | v => D.ofScalar v

theorem bs_data (s : ByteArray) : bs s.data.toList = s := by simp [bs]

theorem rd_ofScalar (E : Env) (β : Names) (v : Value) : Rd E β v (D.ofScalar v) := by
  unfold D.ofScalar
  split
  · exact .bool _ _
  · exact .int _ _ _
  · exact .float _ _ _ _ rfl
  · rename_i s; have := Rd.str (E := E) β s.data.toList; rwa [bs_data] at this
  · exact .nils _
  · exact .nilp _
  · exact .nilf _
  · exact .nili _
  · exact .dead _ _

theorem rdl_ofScalar (E : Env) (β : Names) : ∀ (vs : List Value), RdL E β vs (vs.map D.ofScalar)
  | [] => .nil _
  | v :: vs => .cons (rd_ofScalar E β v) (rdl_ofScalar E β vs)

theorem rd_ofVal (E : Env) (β : Names) (v : Value) : Rd E β v (D.ofVal v) := by
  unfold D.ofVal
  split
  · rename_i cs
    have := Rd.agg (E := E) β cs.toList _ (rdl_ofScalar E β cs.toList)
    simpa using this
  · exact rd_ofScalar E β v

def St.op (S : St) : Operand → D
  | .tmp t => S.get t
  | .const v => D.ofVal v
  | .func f => .fn f []
  | .global _ => .dead

section
variable {P : Program} {O : Origin} {N : Nat} {S S' : St}

theorem Rel.op {E : Env} {β : Names} {a : Act} (h : Rel O N S E β a) (x : Operand) : Rd E β (a.eval x) (S.op x) := by
  cases x with
  | tmp t => exact h.sl t
  | const v => exact rd_ofVal E β v
  | func f => exact Rd.fn β f [] [] (.nil _)
  | global g => exact .dead _ _

/-- What an operand reads as. -/
def SV (S : St) (x : Operand) (d : D) : Prop := ∀ E β v, Rd E β v (S.op x) → Rd E β v d

theorem sv {x : Operand} {d : D} (h : S.op x = d) : SV S x d := fun _ _ _ k => h ▸ k
theorem svc {x : Operand} {b : Bool} {d : D} (h : S.op x = .cnd b d) (hb : b = true) : SV S x d := fun _ _ _ k => by
  rw [h] at k; cases k with | cnd _ _ _ _ k _ => exact k hb
theorem svg {x : Operand} {id sz : Nat} {l : List D} (h : S.op x = .gsl id sz l) : SV S x (.slice false l) := fun E β v k => by
  rw [h] at k
  cases k with
  | gsl _ _ b len cap _ vs _ hβ hl hc hz hsz hr hv c e f h1 h2 h3 => exact .slice _ _ _ _ _ _ _ _ _ hl hc (by simp) hz hsz hr hv
  | ngsl => exact .nslice _ _
theorem svn {x : Operand} {f : Bool} (h : S.op x = .nils) : SV S x (.slice f []) := fun E β v k => by
  rw [h] at k; cases k; exact .nslice _ _
theorem svf {x : Operand} {l : List D} (h : S.op x = .slice true l) : SV S x (.slice false l) := fun E β v k => by
  rw [h] at k
  cases k with
  | slice _ b off len cap sz _ vs _ hl hc hf hz hsz hr hv => exact .slice _ _ _ _ _ _ _ _ _ hl hc (by simp) hz hsz hr hv
  | nslice => exact .nslice _ _

theorem SV.rd {x : Operand} {d : D} (h : SV S x d) {E : Env} {β : Names} {a : Act} (hr : Rel O N S E β a) : Rd E β (a.eval x) d := h _ _ _ (hr.op x)

theorem rd_int {E : Env} {β : Names} {v : Value} {k : IntKind} {n : Int} (h : Rd E β v (.int k n)) : v = .int k n := by cases h; rfl
theorem rd_bool {E : Env} {β : Names} {v : Value} {b : Bool} (h : Rd E β v (.bool b)) : v = .bool b := by cases h; rfl
theorem rd_str {E : Env} {β : Names} {v : Value} {l : List UInt8} (h : Rd E β v (.str l)) : v = .string (bs l) := by cases h; rfl
theorem rd_float {E : Env} {β : Names} {v : Value} {k : FloatKind} {n : Nat} (h : Rd E β v (.float k n)) : ∃ m, v = .float k m ∧ fcan k m = n := by cases h; exact ⟨_, rfl, ‹_›⟩

variable {o : Oper} {t : Nat}

theorem iop_move {x : Operand} {d : D} (ho : o.op = .move x) (hd : o.dst = some t) (ht : t < N) (hx : SV S x d) : IOp P O N o S (S.set t d) :=
  iop_of hd ht fun E β a hr => ⟨a.eval x, by simp [execOp, ho], hx.rd hr⟩
theorem iop_assign {x : Operand} {d : D} (ho : o.op = .assign x) (hd : o.dst = some t) (ht : t < N) (hx : SV S x d) : IOp P O N o S (S.set t d) :=
  iop_of hd ht fun E β a hr => ⟨a.eval x, by simp [execOp, ho], hx.rd hr⟩

def int2 (op : BinOp) (k : IntKind) (a b : Int) : Option D :=
  match op with
  | .add => some (.int k (k.wrap (a + b)))
  | .sub => some (.int k (k.wrap (a - b)))
  | .mul => some (.int k (k.wrap (a * b)))
  | .quo => if b = 0 then none else some (.int k (k.wrap (a.tdiv b)))
  | .rem => if b = 0 then none else some (.int k (a.tmod b))
  | .and => some (.int k (k.wrap ((BitVec.ofInt k.bits a) &&& (BitVec.ofInt k.bits b)).toNat))
  | .or => some (.int k (k.wrap ((BitVec.ofInt k.bits a) ||| (BitVec.ofInt k.bits b)).toNat))
  | .xor => some (.int k (k.wrap ((BitVec.ofInt k.bits a) ^^^ (BitVec.ofInt k.bits b)).toNat))
  | .andNot => some (.int k (k.wrap ((BitVec.ofInt k.bits a) &&& ~~~(BitVec.ofInt k.bits b)).toNat))
  | .eql => some (.bool (decide (a = b)))
  | .neq => some (.bool (!decide (a = b)))
  | .lss => some (.bool (decide (a < b)))
  | .leq => some (.bool (decide (a ≤ b)))
  | .gtr => some (.bool (decide (b < a)))
  | .geq => some (.bool (decide (b ≤ a)))
  | _ => none

theorem int2_run {op : BinOp} {k : IntKind} {a b : Int} {d : D} (h : int2 op k a b = some d) (T : TypeId) (w : World) (E : Env) (β : Names) :
    ∃ v, (binOp op T (.int k a) (.int k b)).run P w = .ok v w ∧ Rd E β v d := by
  cases op <;> simp only [int2, Option.some.injEq, reduceCtorEq] at h <;> (try subst h)
  case quo =>
    split at h
    · cases h
    · rename_i hb; cases h; refine ⟨_, ?_, .int _ _ _⟩; simp [binOp, Op.intDiv, hb]
  case rem =>
    split at h
    · cases h
    · rename_i hb; cases h; refine ⟨_, ?_, .int _ _ _⟩; simp [binOp, Op.intDiv, hb]
  all_goals first
    | (refine ⟨_, ?_, .int _ _ _⟩; simp [binOp, Op.intArith, Op.intBits]; done)
    | (refine ⟨_, ?_, .bool _ _⟩; simp [binOp, Op.intCmp, bne, Bool.beq_eq_decide_eq]; done)

theorem iop_int2 {op : BinOp} {xt yt : TypeId} {x y : Operand} {k : IntKind} {a b : Int} {d : D} (ho : o.op = .binOp op xt x y yt) (hd : o.dst = some t) (ht : t < N)
    (hx : SV S x (.int k a)) (hy : SV S y (.int k b)) (hr : int2 op k a b = some d) : IOp P O N o S (S.set t d) :=
  iop_of hd ht fun E β ac hrel => by
    have h1 := rd_int (hx.rd hrel)
    have h2 := rd_int (hy.rd hrel)
    obtain ⟨v, h3, h4⟩ := int2_run (P := P) hr xt E.w E β
    refine ⟨v, ?_, h4⟩
    simp only [execOp, ho, h1, h2, eqGuard]
    simp [h3]

def shift2 (op : BinOp) (k : IntKind) (a b : Int) : Option D :=
  if b < 0 then none else
  match op with
  | .shl => some (.int k (k.wrap (a * 2 ^ (min b.toNat k.bits))))
  | .shr => some (.int k (a.fdiv (2 ^ (min b.toNat k.bits))))
  | _ => none

theorem iop_shift {op : BinOp} {xt yt : TypeId} {x y : Operand} {k k' : IntKind} {a b : Int} {d : D} (ho : o.op = .binOp op xt x y yt) (hd : o.dst = some t) (ht : t < N)
    (hx : SV S x (.int k a)) (hy : SV S y (.int k' b)) (hr : shift2 op k a b = some d) : IOp P O N o S (S.set t d) :=
  iop_of hd ht fun E β ac hrel => by
    have h1 := rd_int (hx.rd hrel)
    have h2 := rd_int (hy.rd hrel)
    simp only [shift2] at hr
    split at hr
    · cases hr
    · rename_i hb
      cases op <;> simp only [Option.some.injEq, reduceCtorEq] at hr
      all_goals
        subst hr
        refine ⟨_, ?_, .int _ _ _⟩
        simp [execOp, ho, h1, h2, eqGuard, binOp, Op.shift, hb]

theorem run_equalIn_bool (d : Nat) {T : TypeId} (a b : Bool) (hu : P.underlying T = some .bool) (w : World) : (Op.equalIn (d + 1) T (.bool a) (.bool b)).run P w = .ok (a == b) w := by
  simp [Op.equalIn, run_underlying hu]

theorem iop_bool2 {op : BinOp} {xt yt : TypeId} {x y : Operand} {a b c : Bool} (ho : o.op = .binOp op xt x y yt) (hd : o.dst = some t) (ht : t < N) (hu : P.underlying xt = some .bool)
    (hx : SV S x (.bool a)) (hy : SV S y (.bool b)) (hr : (op = .eql ∧ c = (a == b)) ∨ (op = .neq ∧ c = !(a == b))) : IOp P O N o S (S.set t (.bool c)) :=
  iop_of hd ht fun E β ac hrel => by
    have h1 := rd_bool (hx.rd hrel)
    have h2 := rd_bool (hy.rd hrel)
    refine ⟨.bool c, ?_, .bool _ _⟩
    have he := run_equalIn_bool (P := P) 9999 a b hu E.w
    rcases hr with ⟨rfl, rfl⟩ | ⟨rfl, rfl⟩ <;> simp only [execOp, ho, h1, h2, eqGuard, binOp, Op.equal, Op.maxDepth] <;> simp [he]

theorem iop_not {xt : TypeId} {x : Operand} {a : Bool} (ho : o.op = .unOp .not xt x) (hd : o.dst = some t) (ht : t < N) (hx : SV S x (.bool a)) : IOp P O N o S (S.set t (.bool !a)) :=
  iop_of hd ht fun E β ac hrel => ⟨.bool !a, by simp [execOp, ho, rd_bool (hx.rd hrel), Op.unary], .bool _ _⟩
theorem iop_neg {xt : TypeId} {x : Operand} {k : IntKind} {a b : Int} (ho : o.op = .unOp .neg xt x) (hd : o.dst = some t) (ht : t < N) (hx : SV S x (.int k a)) (hb : k.wrap (0 - a) = b) : IOp P O N o S (S.set t (.int k b)) :=
  iop_of hd ht fun E β ac hrel => ⟨.int k b, by subst hb; simp [execOp, ho, rd_int (hx.rd hrel), Op.unary, Op.intArith], .int _ _ _⟩

theorem iop_pick {c x y : Operand} {b : Bool} {d : D} (ho : o.op = .pick c x y) (hd : o.dst = some t) (ht : t < N) (hc : SV S c (.bool b)) (hx : b = true → SV S x d) (hy : b = false → SV S y d) : IOp P O N o S (S.set t d) :=
  iop_of hd ht fun E β ac hrel => by
    have h1 := rd_bool (hc.rd hrel)
    cases b with
    | true => exact ⟨ac.eval x, by simp [execOp, ho, h1, asBool], (hx rfl).rd hrel⟩
    | false => exact ⟨ac.eval y, by simp [execOp, ho, h1, asBool], (hy rfl).rd hrel⟩

/-- 'x && y'. -/
theorem iop_and {c x y : Operand} {b z : Bool} (ho : o.op = .pick c x y) (hd : o.dst = some t) (ht : t < N) (hc : SV S c (.bool b)) (hx : S.op x = .cnd (b == true) (.bool z)) (hy : S.op y = .bool false) : IOp P O N o S (S.set t (.bool (b && z))) :=
  iop_pick ho hd ht hc (fun h => by subst h; simpa using svc hx rfl) (fun h => by subst h; simpa using sv hy)
/-- 'x || y'. -/
theorem iop_or {c x y : Operand} {b z : Bool} (ho : o.op = .pick c x y) (hd : o.dst = some t) (ht : t < N) (hc : SV S c (.bool b)) (hx : S.op x = .bool true) (hy : S.op y = .cnd (b == false) (.bool z)) : IOp P O N o S (S.set t (.bool (b || z))) :=
  iop_pick ho hd ht hc (fun h => by subst h; simpa using sv hx) (fun h => by subst h; simpa using svc hy rfl)
theorem iop_and2 {c x y : Operand} {b z g : Bool} (ho : o.op = .pick c x y) (hd : o.dst = some t) (ht : t < N) (hg : g = true) (hc : SV S c (.bool b)) (hx : S.op x = .cnd (g && (b == true)) (.bool z)) (hy : S.op y = .bool false) : IOp P O N o S (S.set t (.bool (b && z))) :=
  iop_pick ho hd ht hc (fun h => by subst h; subst hg; simpa using svc hx rfl) (fun h => by subst h; simpa using sv hy)
theorem iop_or2 {c x y : Operand} {b z g : Bool} (ho : o.op = .pick c x y) (hd : o.dst = some t) (ht : t < N) (hg : g = true) (hc : SV S c (.bool b)) (hx : S.op x = .bool true) (hy : S.op y = .cnd (g && (b == false)) (.bool z)) : IOp P O N o S (S.set t (.bool (b || z))) :=
  iop_pick ho hd ht hc (fun h => by subst h; simpa using sv hx) (fun h => by subst h; subst hg; simpa using svc hy rfl)

theorem iop_int_conv {st dt : TypeId} {x : Operand} {k k' : IntKind} {a b : Int} (ho : o.op = .convert st dt x) (hd : o.dst = some t) (ht : t < N) (hs : ∃ u, P.underlying st = some u) (hu : P.underlying dt = some (.int k')) (hx : SV S x (.int k a)) (hb : k'.wrap a = b) :
    IOp P O N o S (S.set t (.int k' b)) :=
  iop_of hd ht fun E β ac hrel => by
    obtain ⟨u, hs⟩ := hs
    refine ⟨.int k' b, ?_, .int _ _ _⟩
    subst hb
    cases u <;> simp [execOp, ho, rd_int (hx.rd hrel), convert, run_underlying hs, run_underlying hu, Conv.intToInt]

end
end Go.IL
