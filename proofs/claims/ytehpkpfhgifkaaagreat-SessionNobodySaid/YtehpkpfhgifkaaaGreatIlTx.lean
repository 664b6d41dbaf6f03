/-
  A part of the proof: rules and plain facts. No condition.
-/
import Derived.Test.YtehpkpfhgifkaaaGreatIlTu
import Derived.MapKept
set_option linter.all false
set_option linter.unusedVariables false
namespace Go.IL
/-! What a state is, for the evaluation; operations on values, each made ready once. -/
inductive XE where
  | no
  | blk (e : TypeId) (n : Nat) (c : Tt D)
  | loop (N : Nat) (f : Tt D) (st : LoopState) (pend : Option Code) (ps : Array Tmp) (as bd : Code)
  | mp (l : List (Int × D))
structure XS where
  sl : Tt D
  H : Tt XE
  nid : Nat
  dm : Nat
def cellsT (n : Nat) (c : Tt D) : List D := (List.range n).map (c.at .dead)
def EnR (O : Origin) : XE → Ent → Prop
  | .no, _ => True
  | .blk e n c, s => s = .blk e (cellsT n c)
  | .loop N f st pend ps as bd, s => ∃ k, s = .loop k (cellsT N f) st pend ∧ O.lc k = (ps, as, bd) ∧ ∀ t, N ≤ t → f.at .dead t = .dead
  | .mp l, s => s = .mp (l.map (·.1)) (l.map (·.2))
/-- What is known of a state is so. -/
structure SubX (O : Origin) (X : XS) (S : St) (L : Nat) : Prop where
  sl : ∀ t, X.sl.at .dead t = S.get t ∨ X.sl.at .dead t = .dead
  en : ∀ i, EnR O (X.H.at .no i) (S.ent i)
  fr : ∀ i, X.nid ≤ i → i < L → S.ent i = .fresh
  lim : L ≤ 1000000
structure Rc where
  run : ∀ {β : Type}, Tt D → (D → β) → β
def rdC : Operand → Rc
  | .tmp t => ⟨fun s k => (gkC .dead 12 t).run s k⟩
  | .const v => ⟨fun _ k => k (D.ofVal v)⟩
  | .func f => ⟨fun _ k => k (.fn f [])⟩
  | .global _ => ⟨fun _ k => k .dead⟩
def opD (s : Tt D) : Operand → D
  | .tmp t => s.at .dead t
  | .const v => D.ofVal v
  | .func f => .fn f []
  | .global _ => .dead
theorem rdC_eq {β : Type} (x : Operand) (s : Tt D) (k : D → β) : (rdC x).run s k = k (opD s x) := by
  cases x with
  | tmp t => exact gkC_at _ _ _ _ _
  | _ => rfl
theorem SubX.sv {O : Origin} {X : XS} {S : St} {L : Nat} (h : SubX O X S L) (x : Operand) : SV S x (opD X.sl x) := by
  cases x with
  | tmp t =>
    intro E β v hv
    show Rd E β v (X.sl.at .dead t)
    rcases h.sl t with h1 | h1
    · rw [h1]; exact hv
    · rw [h1]; exact .dead _ _
  | const v => exact IL.sv rfl
  | func f => exact IL.sv rfl
  | global g => exact IL.sv rfl
/-- A part that was named. -/
theorem SubX.eq {O : Origin} {X : XS} {S : St} {L : Nat} (h : SubX O X S L) {x : Operand} {d : D} (hx : opD X.sl x = d) (hd : d ≠ .dead) : S.op x = d := by
  subst hx
  cases x with
  | tmp t =>
    rcases h.sl t with h1 | h1
    · exact h1.symm
    · exact absurd h1 hd
  | const v => rfl
  | func f => rfl
  | global g => rfl
structure Br where
  run : ∀ {β : Type}, D → D → (D → Option β) → Option β
def noB : Br := ⟨fun _ _ _ => none⟩
def arC (k : IntKind) (f : Int → Int → Int) : Br := ⟨fun a b q => match a with
  | .int ka m => match b with
    | .int kb n => tstb (Nat.beq (ikn ka) (ikn k)) (tstb (Nat.beq (ikn kb) (ikn k)) (fcI ((wrC k).run (f m n)) fun r => q (.int k r)))
    | _ => none
  | _ => none⟩
def dvC (k : IntKind) (f : Int → Int → Int) (w : Bool) : Br := ⟨fun a b q => match a with
  | .int ka m => match b with
    | .int kb n => tstb (Nat.beq (ikn ka) (ikn k)) (tstb (Nat.beq (ikn kb) (ikn k)) (tstb (negZ (eqZ n 0)) (match w with
      | true => fcI ((wrC k).run (f m n)) fun r => q (.int k r)
      | false => fcI (f m n) fun r => q (.int k r))))
    | _ => none
  | _ => none⟩
def cmC (k : IntKind) (f : Int → Int → Bool) : Br := ⟨fun a b q => match a with
  | .int ka m => match b with
    | .int kb n => tstb (Nat.beq (ikn ka) (ikn k)) (tstb (Nat.beq (ikn kb) (ikn k)) (fcB (f m n) fun r => q (.bool r)))
    | _ => none
  | _ => none⟩
def shC (k : IntKind) (w : Bool) (f : Nat → Int → Int → Int) : Br := ⟨fun a b q => match a with
  | .int ka m => match b with
    | .int _ n => tstb (Nat.beq (ikn ka) (ikn k)) (tstb (negZ (ltZ n 0)) (match w with
      | true => fcI ((wrC k).run (f k.bits m n)) fun r => q (.int k r)
      | false => fcI (f k.bits m n) fun r => q (.int k r)))
    | _ => none
  | _ => none⟩
def intC (op : BinOp) (k : IntKind) : Br := match op with
  | .add => arC k addZ
  | .sub => arC k subZ
  | .mul => arC k mulZ
  | .quo => dvC k quoZ true
  | .rem => dvC k remZ false
  | .and => arC k (bitZ (mdk k) Nat.land (andB k))
  | .or => arC k (bitZ (mdk k) Nat.lor (orB k))
  | .xor => arC k (bitZ (mdk k) Nat.xor (xorB k))
  | .andNot => arC k (anotB k)
  | .eql => cmC k eqZ
  | .neq => cmC k fun a b => negZ (eqZ a b)
  | .lss => cmC k ltZ
  | .leq => cmC k leZ
  | .gtr => cmC k fun a b => ltZ b a
  | .geq => cmC k fun a b => leZ b a
  | .shl => shC k true shlZ
  | .shr => shC k false shrZ
/-- What a binary operation may be taken to make. -/
def BOk (P : Program) (op : BinOp) (xt : TypeId) (a b d : D) : Prop := ∀ {O : Origin} {N : Nat} {S : St} {o : Oper} {t : Nat} {x y : Operand} {yt : TypeId}, o.op = .binOp op xt x y yt → o.dst = some t → t < N → SV S x a → SV S y b → IOp P O N o S (S.set t d)
section
variable {P : Program} {β : Type} {r : β} {q : D → Option β} {a b : D} {op : BinOp} {xt : TypeId}
theorem arC_ok {k : IntKind} {f : Int → Int → Int} (hf : ∀ m n, int2 op k m n = some (.int k (k.wrap (f m n)))) (h : (arC k f).run a b q = some r) : ∃ d, BOk P op xt a b d ∧ q d = some r := by
  simp only [arC] at h
  split at h
  · split at h
    · obtain ⟨h1, h⟩ := tstb_e h
      obtain ⟨h2, h⟩ := tstb_e h
      rw [fcI_eq, wrC_eq] at h
      rw [ikn_e h1, ikn_e h2]
      exact ⟨_, fun ho hd ht hx hy => iop_int2 ho hd ht hx hy (hf _ _), h⟩
    · cases h
  · cases h
theorem cmC_ok {k : IntKind} {f : Int → Int → Bool} (hf : ∀ m n, int2 op k m n = some (.bool (f m n))) (h : (cmC k f).run a b q = some r) : ∃ d, BOk P op xt a b d ∧ q d = some r := by
  simp only [cmC] at h
  split at h
  · split at h
    · obtain ⟨h1, h⟩ := tstb_e h
      obtain ⟨h2, h⟩ := tstb_e h
      rw [fcB_eq] at h
      rw [ikn_e h1, ikn_e h2]
      exact ⟨_, fun ho hd ht hx hy => iop_int2 ho hd ht hx hy (hf _ _), h⟩
    · cases h
  · cases h
theorem dvC_ok {k : IntKind} {f : Int → Int → Int} {w : Bool} (hf : ∀ m n, n ≠ 0 → int2 op k m n = some (.int k (if w then k.wrap (f m n) else f m n))) (h : (dvC k f w).run a b q = some r) : ∃ d, BOk P op xt a b d ∧ q d = some r := by
  simp only [dvC] at h
  split at h
  · rename_i ka m
    split at h
    · rename_i kb n
      obtain ⟨h1, h⟩ := tstb_e h
      obtain ⟨h2, h⟩ := tstb_e h
      obtain ⟨h3, h⟩ := tstb_e h
      have hn : n ≠ 0 := by rw [negZ_eq, eqZ_eq] at h3; simpa using h3
      rw [ikn_e h1, ikn_e h2]
      refine ⟨_, fun ho hd ht hx hy => iop_int2 ho hd ht hx hy (hf _ _ hn), ?_⟩
      cases w with
      | true => simp only [fcI_eq, wrC_eq] at h; exact h
      | false => simp only [fcI_eq] at h; exact h
    · cases h
  · cases h
theorem shC_ok {k : IntKind} {w : Bool} {f : Nat → Int → Int → Int} (hf : ∀ m n, ¬ n < 0 → shift2 op k m n = some (.int k (if w then k.wrap (f k.bits m n) else f k.bits m n))) (h : (shC k w f).run a b q = some r) : ∃ d, BOk P op xt a b d ∧ q d = some r := by
  simp only [shC] at h
  split at h
  · rename_i ka m
    split at h
    · rename_i kb n
      obtain ⟨h1, h⟩ := tstb_e h
      obtain ⟨h3, h⟩ := tstb_e h
      have hn : ¬ n < 0 := by rw [negZ_eq, ltZ_eq] at h3; simpa using h3
      rw [ikn_e h1]
      refine ⟨_, fun ho hd ht hx hy => iop_shift ho hd ht hx hy (hf _ _ hn), ?_⟩
      cases w with
      | true => simp only [fcI_eq, wrC_eq] at h; exact h
      | false => simp only [fcI_eq] at h; exact h
    · cases h
  · cases h
theorem intC_ok {k : IntKind} (h : (intC op k).run a b q = some r) : ∃ d, BOk P op xt a b d ∧ q d = some r := by
  cases op <;> simp only [intC] at h
  case add => exact arC_ok (fun m n => by rw [addZ_eq]; rfl) h
  case sub => exact arC_ok (fun m n => by rw [subZ_eq]; rfl) h
  case mul => exact arC_ok (fun m n => by rw [mulZ_eq]; rfl) h
  case quo => exact dvC_ok (fun m n hn => by rw [quoZ_eq]; simp [int2, hn]) h
  case rem => exact dvC_ok (fun m n hn => by rw [remZ_eq]; simp [int2, hn]) h
  case and => exact arC_ok (fun m n => by rw [andZ_eq]; rfl) h
  case or => exact arC_ok (fun m n => by rw [orZ_eq]; rfl) h
  case xor => exact arC_ok (fun m n => by rw [xorZ_eq]; rfl) h
  case andNot => exact arC_ok (fun m n => rfl) h
  case eql => exact cmC_ok (fun m n => by rw [eqZ_eq]; rfl) h
  case neq => exact cmC_ok (fun m n => by rw [negZ_eq, eqZ_eq]; rfl) h
  case lss => exact cmC_ok (fun m n => by rw [ltZ_eq]; rfl) h
  case leq => exact cmC_ok (fun m n => by rw [leZ_eq]; rfl) h
  case gtr => exact cmC_ok (fun m n => by rw [ltZ_eq]; rfl) h
  case geq => exact cmC_ok (fun m n => by rw [leZ_eq]; rfl) h
  case shl => exact shC_ok (fun m n hn => by rw [shlZ_eq _ _ _ hn]; simp [shift2, hn]) h
  case shr => exact shC_ok (fun m n hn => by rw [shrZ_eq]; simp [shift2, hn]) h
end
/-! Texts. -/
section
variable {α β : Type}
def fcL (l : List α) (k : List α → β) : β := match l with
  | [] => k []
  | a :: r => k (a :: r)
theorem fcL_eq (l : List α) (k : List α → β) : fcL l k = k l := by cases l <;> rfl
def apF : List α → List α → List α
  | [], m => m
  | a :: l, m => fcL (apF l m) fun r => a :: r
theorem apF_eq : ∀ (l m : List α), apF l m = l ++ m
  | [], m => rfl
  | a :: l, m => by rw [apF, fcL_eq, apF_eq l m]; rfl
def tkF : Nat → List α → List α
  | 0, _ => []
  | n + 1, l => match l with
    | [] => []
    | a :: l => fcL (tkF n l) fun r => a :: r
theorem tkF_eq : ∀ (n : Nat) (l : List α), tkF n l = l.take n
  | 0, l => by simp [tkF]
  | n + 1, [] => by simp [tkF]
  | n + 1, a :: l => by simp [tkF, fcL_eq, tkF_eq n l]
end
def eqS : List UInt8 → List UInt8 → Bool
  | [], m => match m with
    | [] => true
    | _ :: _ => false
  | a :: l, m => match m with
    | [] => false
    | b :: m => match Nat.beq a.toNat b.toNat with
      | true => eqS l m
      | false => false
theorem eqS_eq : ∀ (l m : List UInt8), eqS l m = decide (l = m)
  | [], [] => by simp [eqS]
  | [], b :: m => by simp [eqS]
  | a :: l, [] => by simp [eqS]
  | a :: l, b :: m => by
    simp only [eqS]
    split
    · rename_i h
      have h := UInt8.toNat_inj.1 (Nat.eq_of_beq_eq_true h)
      subst h
      rw [eqS_eq l m]; simp
    · rename_i h
      have : a ≠ b := fun e => by subst e; simp at h
      simp [this]
def strC (op : BinOp) : Br := match op with
  | .add => ⟨fun a b q => match a with
    | .str l => match b with
      | .str m => fcL (apF l m) fun r => tstb (Nat.ble r.length 9223372036854775807) (q (.str r))
      | _ => none
    | _ => none⟩
  | .eql => ⟨fun a b q => match a with
    | .str l => match b with
      | .str m => fcB (eqS l m) fun r => q (.bool r)
      | _ => none
    | _ => none⟩
  | .neq => ⟨fun a b q => match a with
    | .str l => match b with
      | .str m => fcB (negZ (eqS l m)) fun r => q (.bool r)
      | _ => none
    | _ => none⟩
  | _ => noB
def boolC (op : BinOp) : Br := match op with
  | .eql => ⟨fun a b q => match a with
    | .bool x => match b with
      | .bool y => fcB (x == y) fun r => q (.bool r)
      | _ => none
    | _ => none⟩
  | .neq => ⟨fun a b q => match a with
    | .bool x => match b with
      | .bool y => fcB (negZ (x == y)) fun r => q (.bool r)
      | _ => none
    | _ => none⟩
  | _ => noB
def nilN (a : D) : Option Bool := match a with
  | .nilp => some true
  | .ref _ _ => some false
  | .fptr _ => some false
  | _ => none
def ptrC (op : BinOp) : Br := match op with
  | .eql => ⟨fun a b q => match b with
    | .nilp => match nilN a with
      | some r => q (.bool r)
      | none => none
    | _ => none⟩
  | .neq => ⟨fun a b q => match b with
    | .nilp => match nilN a with
      | some r => fcB (negZ r) fun r => q (.bool r)
      | none => none
    | _ => none⟩
  | _ => noB
def aggC (P : Program) (xt : TypeId) (op : BinOp) : Br := match P.eqGuardType P.depth xt with
  | true => noB
  | false => match op with
    | .eql => ⟨fun a b q => match a with
      | .agg ds => match b with
        | .agg es => match eqT P 9 xt (.agg ds) (.agg es) with
          | some r => fcB r fun r => q (.bool r)
          | none => none
        | _ => none
      | _ => none⟩
    | .neq => ⟨fun a b q => match a with
      | .agg ds => match b with
        | .agg es => match eqT P 9 xt (.agg ds) (.agg es) with
          | some r => fcB (negZ r) fun r => q (.bool r)
          | none => none
        | _ => none
      | _ => none⟩
    | _ => noB
def isNl (a : D) : Option Bool := match a with
  | .nils => some true
  | .vsl _ _ _ _ _ => some false
  | _ => none
def nlC (op : BinOp) : Br := match op with
  | .eql => ⟨fun a b q => match b with
    | .nils => match isNl a with
      | some r => q (.bool r)
      | none => none
    | _ => none⟩
  | _ => noB
def f2C (f : Nat → Nat → Nat) : Br := ⟨fun a b q => match a with
  | .float k m => match k with
    | .f64 => match b with
      | .float k' n => match k' with
        | .f64 => fcN (f m n) fun r => q (.float .f64 r)
        | .f32 => none
      | _ => none
    | .f32 => none
  | _ => none⟩
def fcC (f : Nat → Nat → Bool) : Br := ⟨fun a b q => match a with
  | .float k m => match k with
    | .f64 => match b with
      | .float k' n => match k' with
        | .f64 => fcB (f m n) fun r => q (.bool r)
        | .f32 => none
      | _ => none
    | .f32 => none
  | _ => none⟩
def fltC (op : BinOp) : Br := match op with
  | .add => f2C (fAr .add)
  | .sub => f2C (fAr .sub)
  | .mul => f2C (fAr .mul)
  | .quo => f2C (fAr .quo)
  | .eql => fcC (fCmp .eql)
  | .neq => fcC (fCmp .neq)
  | .lss => fcC (fCmp .lss)
  | .leq => fcC (fCmp .leq)
  | .gtr => fcC (fCmp .gtr)
  | .geq => fcC (fCmp .geq)
  | _ => noB
def binC (P : Program) (op : BinOp) (xt : TypeId) : Br := match P.underlying xt with
  | some (.float _) => fltC op
  | some (.slice _) => nlC op
  | some (.int k) => intC op k
  | some .string => strC op
  | some .bool => boolC op
  | some (.pointer _) => ptrC op
  | some (.struct _) => aggC P xt op
  | some (.array _ _) => aggC P xt op
  | _ => noB
section
variable {P : Program} {β : Type} {r : β} {q : D → Option β} {a b : D} {op : BinOp} {xt : TypeId}
theorem strC_ok (h : (strC op).run a b q = some r) : ∃ d, BOk P op xt a b d ∧ q d = some r := by
  cases op <;> simp only [strC, noB] at h <;> first | (cases h; done) | skip
  case add =>
    split at h
    · split at h
      · rw [fcL_eq] at h
        obtain ⟨h1, h⟩ := tstb_e h
        exact ⟨_, fun ho hd ht hx hy => iop_cat ho hd ht hx hy (apF_eq _ _).symm (Nat.le_of_ble_eq_true h1), h⟩
      · cases h
    · cases h
  case eql =>
    split at h
    · split at h
      · rw [fcB_eq, eqS_eq] at h
        exact ⟨_, fun ho hd ht hx hy => iop_str2 ho hd ht hx hy rfl, h⟩
      · cases h
    · cases h
  case neq =>
    split at h
    · split at h
      · rw [fcB_eq, negZ_eq, eqS_eq] at h
        exact ⟨_, fun ho hd ht hx hy => iop_str2 ho hd ht hx hy rfl, h⟩
      · cases h
    · cases h
theorem boolC_ok (hu : P.underlying xt = some .bool) (h : (boolC op).run a b q = some r) : ∃ d, BOk P op xt a b d ∧ q d = some r := by
  cases op <;> simp only [boolC, noB] at h <;> first | (cases h; done) | skip
  case eql =>
    split at h
    · split at h
      · rw [fcB_eq] at h
        exact ⟨_, fun ho hd ht hx hy => iop_bool2 ho hd ht hu hx hy (.inl ⟨rfl, rfl⟩), h⟩
      · cases h
    · cases h
  case neq =>
    split at h
    · split at h
      · rw [fcB_eq, negZ_eq] at h
        exact ⟨_, fun ho hd ht hx hy => iop_bool2 ho hd ht hu hx hy (.inr ⟨rfl, rfl⟩), h⟩
      · cases h
    · cases h
theorem ptrC_ok {e : TypeId} (hu : P.underlying xt = some (.pointer e)) (h : (ptrC op).run a b q = some r) : ∃ d, BOk P op xt a b d ∧ q d = some r := by
  cases op <;> simp only [ptrC, noB] at h <;> first | (cases h; done) | skip
  case eql =>
    split at h
    · split at h
      · rename_i hn
        unfold nilN at hn
        split at hn <;> cases hn
        · exact ⟨_, fun ho hd ht hx hy => iop_eqnn ho hd ht hu hx hy, h⟩
        · exact ⟨_, fun ho hd ht hx hy => iop_eqn ho hd ht hu hx hy, h⟩
        · exact ⟨_, fun ho hd ht hx hy => iop_eqnf ho hd ht hu hx hy, h⟩
      · cases h
    · cases h
  case neq =>
    split at h
    · split at h
      · rename_i hn
        rw [fcB_eq, negZ_eq] at h
        unfold nilN at hn
        split at hn <;> cases hn
        · exact ⟨_, fun ho hd ht hx hy => iop_nenn ho hd ht hu hx hy, h⟩
        · exact ⟨_, fun ho hd ht hx hy => iop_nen ho hd ht hu hx hy, h⟩
        · exact ⟨_, fun ho hd ht hx hy => iop_nenf ho hd ht hu hx hy, h⟩
      · cases h
    · cases h
theorem aggC_ok (h : (aggC P xt op).run a b q = some r) : ∃ d, BOk P op xt a b d ∧ q d = some r := by
  unfold aggC at h
  split at h
  · cases h
  · rename_i hg
    cases op <;> simp only [noB] at h <;> first | (cases h; done) | skip
    case eql =>
      split at h
      · split at h
        · split at h
          · rename_i hb
            rw [fcB_eq] at h
            exact ⟨_, fun ho hd ht hx hy => iop_eqt ho hd ht hg hx hy hb, h⟩
          · cases h
        · cases h
      · cases h
    case neq =>
      split at h
      · split at h
        · split at h
          · rename_i hb
            rw [fcB_eq, negZ_eq] at h
            exact ⟨_, fun ho hd ht hx hy => iop_net ho hd ht hg hx hy hb, h⟩
          · cases h
        · cases h
      · cases h
theorem nlC_ok {e : TypeId} (hu : P.underlying xt = some (.slice e)) (h : (nlC op).run a b q = some r) : ∃ d, BOk P op xt a b d ∧ q d = some r := by
  cases op <;> simp only [nlC, noB] at h <;> first | (cases h; done) | skip
  case eql =>
    split at h
    · split at h
      · rename_i hn
        unfold isNl at hn
        split at hn <;> cases hn
        · exact ⟨_, fun ho hd ht hx hy => iop_snil ho hd ht hu hx hy (.inl ⟨rfl, rfl⟩), h⟩
        · exact ⟨_, fun ho hd ht hx hy => iop_snil ho hd ht hu hx hy (.inr ⟨⟨_, _, _, _, _, rfl⟩, rfl⟩), h⟩
      · cases h
    · cases h
theorem f2C_ok (hop : (match op with | .add | .sub | .mul | .quo => true | _ => false) = true) (h : (f2C (fAr op)).run a b q = some r) : ∃ d, BOk P op xt a b d ∧ q d = some r := by
  simp only [f2C] at h
  split at h
  · split at h
    · split at h
      · split at h
        · rw [fcN_eq] at h
          exact ⟨_, fun ho hd ht hx hy => iop_far ho hd ht hx hy (by clear h; cases op <;> first | rfl | cases hop), h⟩
        · cases h
      · cases h
    · cases h
  · cases h
theorem fcC_ok (hop : (match op with | .eql | .neq | .lss | .leq | .gtr | .geq => true | _ => false) = true) (h : (fcC (fCmp op)).run a b q = some r) : ∃ d, BOk P op xt a b d ∧ q d = some r := by
  simp only [fcC] at h
  split at h
  · split at h
    · split at h
      · split at h
        · rw [fcB_eq] at h
          exact ⟨_, fun ho hd ht hx hy => iop_fcmp ho hd ht hx hy (by clear h; cases op <;> first | rfl | cases hop), h⟩
        · cases h
      · cases h
    · cases h
  · cases h
theorem fltC_ok (h : (fltC op).run a b q = some r) : ∃ d, BOk P op xt a b d ∧ q d = some r := by
  cases op <;> simp only [fltC] at h <;> first | exact f2C_ok rfl h | exact fcC_ok rfl h | (simp [noB] at h)
theorem binC_ok (h : (binC P op xt).run a b q = some r) : ∃ d, BOk P op xt a b d ∧ q d = some r := by
  unfold binC at h
  split at h
  · exact fltC_ok h
  · rename_i hu; exact nlC_ok hu h
  · exact intC_ok h
  · exact strC_ok h
  · rename_i hu; exact boolC_ok hu h
  · rename_i hu; exact ptrC_ok hu h
  · exact aggC_ok h
  · exact aggC_ok h
  · cases h
end
end Go.IL
set_option linter.unusedVariables false
namespace Go.IL
/-! Operations that make a value. -/
structure Vr where
  run : ∀ {β : Type}, XS → (D → Option β) → Option β
def noV : Vr := ⟨fun _ _ => none⟩
structure Ur where
  run : ∀ {β : Type}, D → (D → Option β) → Option β
def noU : Ur := ⟨fun _ _ => none⟩
structure Rs where
  run : ∀ {β : Type}, Tt D → (List D → β) → β
def rdsC : List Operand → Rs
  | [] => ⟨fun _ k => k []⟩
  | x :: xs => ⟨fun s k => (rdC x).run s fun d => (rdsC xs).run s fun ds => k (d :: ds)⟩
def opDs (s : Tt D) (xs : List Operand) : List D := xs.map (opD s)
theorem rdsC_eq {β : Type} : ∀ (xs : List Operand) (s : Tt D) (k : List D → β), (rdsC xs).run s k = k (opDs s xs)
  | [], s, k => rfl
  | x :: xs, s, k => by simp only [rdsC, rdC_eq, rdsC_eq xs]; rfl
structure Ps where
  run : ∀ {β : Type}, Tt D → (List (Nat × D) → β) → β
def psC : List (Nat × Operand) → Ps
  | [] => ⟨fun _ k => k []⟩
  | (i, x) :: xs => ⟨fun s k => (rdC x).run s fun d => (psC xs).run s fun ds => k ((i, d) :: ds)⟩
def opPs (s : Tt D) (xs : List (Nat × Operand)) : List (Nat × D) := xs.map fun p => (p.1, opD s p.2)
theorem psC_eq {β : Type} : ∀ (xs : List (Nat × Operand)) (s : Tt D) (k : List (Nat × D) → β), (psC xs).run s k = k (opPs s xs)
  | [], s, k => rfl
  | (i, x) :: xs, s, k => by simp only [psC, rdC_eq, psC_eq xs]; rfl
def mapB : List UInt8 → List D
  | [] => []
  | c :: l => fcN c.toNat fun n => fcL (mapB l) fun r => .int .u8 (.ofNat n) :: r
theorem mapB_eq : ∀ l, mapB l = l.map byteD
  | [] => rfl
  | c :: l => by simp only [mapB, fcN_eq, fcL_eq, mapB_eq l]; rfl
/-- Bytes that come as numbers. -/
def unbK {β : Type} : List D → (List UInt8 → Option β) → Option β
  | [], q => q []
  | d :: r, q => match d with
    | .int k n => match n with
      | .ofNat m => tstb (Nat.beq (ikn k) 4) (tstb (Nat.blt m 256) (unbK r fun l => q (UInt8.ofNat m :: l)))
      | .negSucc _ => none
    | _ => none
theorem unbK_e {β : Type} {r : β} : ∀ {l : List D} {q : List UInt8 → Option β}, unbK l q = some r → ∃ s, l = s.map byteD ∧ q s = some r
  | [], q, h => ⟨[], rfl, h⟩
  | d :: l, q, h => by
    simp only [unbK] at h
    try dsimp only at h
    split at h
    · try dsimp only at h
      split at h
      · rename_i m
        obtain ⟨h1, h⟩ := tstb_e h
        obtain ⟨h2, h⟩ := tstb_e h
        obtain ⟨s, hs, hq⟩ := unbK_e h
        refine ⟨_, ?_, hq⟩
        rw [hs, List.map_cons, ikn_e (b := .u8) h1]
        congr 1
        unfold byteD
        congr 1
        rw [Nat.blt_eq] at h2
        have : (UInt8.ofNat m).toNat = m := by simp; omega
        rw [this]; rfl
      · cases h
    · cases h
def isI : Option TypeDesc → Bool
  | some _ => true
  | none => false
def cvC (P : Program) (s d : TypeId) : Ur := match P.underlying d with
  | some (.float .f64) => match isI (P.underlying s) with
    | true => ⟨fun a q => match a with
      | .int _ n => fcN (floatOfInt .f64 n) fun r => q (.float .f64 r)
      | _ => none⟩
    | false => noU
  | some (.int k') => match isI (P.underlying s) with
    | true => ⟨fun a q => match a with
      | .int _ n => fcI ((wrC k').run n) fun r => q (.int k' r)
      | _ => none⟩
    | false => noU
  | some .string => match P.underlying s with
    | some (.slice e) => match P.underlying e with
      | some (.int .u8) => ⟨fun a q => match a with
        | .slice _ l => unbK l fun s => q (.str s)
        | .nils => q (.str [])
        | _ => none⟩
      | _ => noU
    | _ => noU
  | some (.slice e) => match P.underlying s with
    | some .string => match P.underlying e with
      | some (.int .u8) => ⟨fun a q => match a with
        | .str l => fcL (mapB l) fun r => q (.slice false r)
        | _ => none⟩
      | _ => noU
    | _ => noU
  | _ => noU
/-- What an operation on one value may be taken to make. -/
def UOk (P : Program) (g : Op) (x : Operand) (a d : D) : Prop := ∀ {O : Origin} {N : Nat} {S : St} {o : Oper} {t : Nat}, o.op = g → o.dst = some t → t < N → SV S x a → IOp P O N o S (S.set t d)
section
variable {P : Program} {β : Type} {r : β} {q : D → Option β} {a b : D}
theorem cvC_ok {s d : TypeId} {x : Operand} (h : (cvC P s d).run a q = some r) : ∃ y, UOk P (.convert s d x) x a y ∧ q y = some r := by
  unfold cvC at h
  try dsimp only at h
  split at h
  · rename_i hud
    split at h
    · rename_i hs
      dsimp only at h
      split at h
      · rw [fcN_eq] at h
        have hs' : ∃ u, P.underlying s = some u := by
          cases hu : P.underlying s with
          | none => rw [hu] at hs; cases hs
          | some u => exact ⟨u, rfl⟩
        exact ⟨_, fun ho hd ht hx => iop_fintx ho hd ht hs' hud hx rfl, h⟩
      · cases h
    · cases h
  · rename_i k' hud
    try dsimp only at h
    split at h
    · rename_i hs
      try dsimp only at h
      split at h
      · rw [fcI_eq, wrC_eq] at h
        have hs' : ∃ u, P.underlying s = some u := by
          cases hu : P.underlying s with
          | none => rw [hu] at hs; cases hs
          | some u => exact ⟨u, rfl⟩
        exact ⟨_, fun ho hd ht hx => iop_int_conv ho hd ht hs' hud hx rfl, h⟩
      · cases h
    · cases h
  · rename_i hud
    try dsimp only at h
    split at h
    · rename_i e hus
      try dsimp only at h
      split at h
      · rename_i he
        try dsimp only at h
        split at h
        · obtain ⟨l, hl, hq⟩ := unbK_e h
          subst hl
          exact ⟨_, fun ho hd ht hx => iop_bytes_str ho hd ht hus he hud hx, hq⟩
        · refine ⟨_, fun ho hd ht hx => ?_, h⟩
          refine iop_bytes_str (f := false) (l := []) ho hd ht hus he hud fun E β v k => ?_
          have := hx E β v k
          cases this with
          | nils => exact .nslice _ _
        · cases h
      · cases h
    · cases h
  · rename_i e hud
    try dsimp only at h
    split at h
    · rename_i hus
      try dsimp only at h
      split at h
      · rename_i he
        try dsimp only at h
        split at h
        · rw [fcL_eq, mapB_eq] at h
          exact ⟨_, fun ho hd ht hx => iop_str_bytes ho hd ht hus hud he hx, h⟩
        · cases h
      · cases h
    · cases h
  · cases h
def unC (u : UnOp) : Ur := match u with
  | .not => ⟨fun a q => match a with
    | .bool b => fcB (negZ b) fun b => q (.bool b)
    | _ => none⟩
  | .neg => ⟨fun a q => match a with
    | .int k n => fcI ((wrC k).run (subZ 0 n)) fun r => q (.int k r)
    | _ => none⟩
  | .xor => ⟨fun a q => match a with
    | .int k n => fcI ((wrC k).run (bitZ (mdk k) Nat.xor (xorB k) (if k.signed then -1 else k.max) n)) fun r => q (.int k r)
    | _ => none⟩
  | _ => noU
theorem unC_ok {u : UnOp} {T : TypeId} {x : Operand} (h : (unC u).run a q = some r) : ∃ y, UOk P (.unOp u T x) x a y ∧ q y = some r := by
  unfold unC at h
  try dsimp only at h
  split at h
  · try dsimp only at h
    split at h
    · rw [fcB_eq, negZ_eq] at h
      exact ⟨_, fun ho hd ht hx => iop_not ho hd ht hx, h⟩
    · cases h
  · try dsimp only at h
    split at h
    · rw [fcI_eq, wrC_eq, subZ_eq] at h
      exact ⟨_, fun ho hd ht hx => iop_neg ho hd ht hx rfl, h⟩
    · cases h
  · try dsimp only at h
    split at h
    · rw [fcI_eq, wrC_eq, xorZ_eq] at h
      exact ⟨_, fun ho hd ht hx => iop_xorU ho hd ht hx rfl, h⟩
    · cases h
  · cases h
/-! Parts. -/
/-- A part of cells, as a value: how it is taken. -/
structure Pr where
  run : ∀ {β : Type}, List D → Nat → (D → Option β) → Option β
def noP : Pr := ⟨fun _ _ _ => none⟩
def hdK {β : Type} (l : List D) (q : D → Option β) : Option β := match l with
  | [] => none
  | d :: _ => q d
/-- A value of type 'T' that stands in cells from 'off' on. -/
def ptC (P : Program) (T : TypeId) : Pr := match P.info? T with
  | none => noP
  | some i => match isI (P.underlying T) with
    | false => noP
    | true => match Nat.ble 1 i.size with
      | false => noP
      | true => match aggOf P T with
        | true => ⟨fun cs off q => fcL (tkF i.size (cs.drop off)) fun r => tstb (Nat.beq r.length i.size) (q (.agg r))⟩
        | false => match Nat.beq i.size 1 with
          | false => noP
          | true => ⟨fun cs off q => hdK (cs.drop off) q⟩
theorem isI_e {x : Option TypeDesc} (h : isI x = true) : ∃ u, x = some u := by
  cases x with
  | none => cases h
  | some u => exact ⟨u, rfl⟩
theorem ti_of2 {T : TypeId} {i : TypeInfo} (h : P.info? T = some i) : TI P T i.zero i.size i.bytes := by simp [TI, h]
theorem ptC_ok {T : TypeId} {cs : List D} {off : Nat} (h : (ptC P T).run cs off q = some r) : ∃ i u, P.info? T = some i ∧ P.underlying T = some u ∧ 0 < i.size ∧ off + i.size ≤ cs.length ∧ q (D.load (aggOf P T) i.size (cs.drop off)) = some r := by
  unfold ptC at h
  try dsimp only at h
  split at h
  · cases h
  · rename_i i hi
    try dsimp only at h
    split at h
    · cases h
    · rename_i hu
      obtain ⟨u, hu⟩ := isI_e hu
      try dsimp only at h
      split at h
      · cases h
      · rename_i h1
        have h1 := Nat.le_of_ble_eq_true h1
        try dsimp only at h
        split at h
        · rename_i hg
          dsimp only at h
          rw [fcL_eq, tkF_eq] at h
          obtain ⟨h2, h⟩ := tstb_e h
          have h2 := Nat.eq_of_beq_eq_true h2
          rw [List.length_take, List.length_drop] at h2
          refine ⟨i, u, hi, hu, h1, by omega, ?_⟩
          rw [hg]; exact h
        · rename_i hg
          try dsimp only at h
          split at h
          · cases h
          · rename_i hs
            have hs := Nat.eq_of_beq_eq_true hs
            unfold hdK at h
            try dsimp only at h
            split at h
            · cases h
            · rename_i d l hd
              have hlt : off < cs.length := by
                have : (cs.drop off).length = l.length + 1 := by rw [hd]; rfl
                rw [List.length_drop] at this; omega
              refine ⟨i, u, hi, hu, h1, by omega, ?_⟩
              rw [hg, hd]; exact h
def fldC (P : Program) (T : TypeId) (i : Nat) : Ur := match P.underlying T with
  | some (.struct fs) => match fs[i]? with
    | some F => let p := ptC P F.type; ⟨fun a q => match a with
      | .agg cs => p.run cs F.offset q
      | _ => none⟩
    | none => noU
  | _ => noU
theorem fldC_ok {T : TypeId} {i : Nat} {x : Operand} (h : (fldC P T i).run a q = some r) : ∃ y, UOk P (.field T x i) x a y ∧ q y = some r := by
  unfold fldC at h
  try dsimp only at h
  split at h
  · rename_i fs hu
    try dsimp only at h
    split at h
    · rename_i F hF
      simp only at h
      try dsimp only at h
      split at h
      · obtain ⟨fi, u, hfi, huF, h1, h2, h⟩ := ptC_ok h
        exact ⟨_, fun ho hd ht hx => iop_field ho hd ht hu hF huF (ti_of2 hfi) hx h2 h1 rfl, h⟩
      · cases h
    · cases h
  · cases h
def nthK {α β : Type} : Nat → List α → (α → Option β) → Option β
  | _, [], _ => none
  | n, a :: l, q => match n with
    | 0 => q a
    | m + 1 => nthK m l q
theorem nthK_e {α β : Type} {r : β} : ∀ {n : Nat} {l : List α} {q : α → Option β}, nthK n l q = some r → ∃ a, l[n]? = some a ∧ q a = some r
  | _, [], _, h => by simp [nthK] at h
  | 0, a :: l, q, h => ⟨a, rfl, h⟩
  | n + 1, a :: l, q, h => by
    obtain ⟨b, h1, h2⟩ := nthK_e (n := n) (l := l) h
    exact ⟨b, by simpa using h1, h2⟩
def extC (i : Nat) : Ur := ⟨fun a q => match a with
  | .tuple cs => nthK i cs q
  | _ => none⟩
theorem extC_ok {i : Nat} {x : Operand} (h : (extC i).run a q = some r) : ∃ y, UOk P (.extract x i) x a y ∧ q y = some r := by
  simp only [extC] at h
  try dsimp only at h
  split at h
  · obtain ⟨d, h1, h2⟩ := nthK_e h
    exact ⟨_, fun ho hd ht hx => iop_extract ho hd ht hx h1, h2⟩
  · cases h
/-- A number from nothing up. -/
def natK {β : Type} (d : D) (q : Nat → Option β) : Option β := match d with
  | .int _ n => match n with
    | .ofNat m => q m
    | .negSucc _ => none
  | _ => none
theorem natK_e {β : Type} {r : β} {d : D} {q : Nat → Option β} (h : natK d q = some r) : ∃ k m, d = .int k (Int.ofNat m) ∧ q m = some r := by
  unfold natK at h
  try dsimp only at h
  split at h
  · try dsimp only at h
    split at h
    · exact ⟨_, _, rfl, h⟩
    · cases h
  · cases h
structure Br2 where
  run : ∀ {β : Type}, D → Nat → (D → Option β) → Option β
def noB2 : Br2 := ⟨fun _ _ _ => none⟩
def ixC (P : Program) (T : TypeId) : Br2 := match P.underlying T with
  | some .string => ⟨fun a n q => match a with
    | .str l => nthK n l fun c => fcN c.toNat fun m => q (.int .u8 (.ofNat m))
    | _ => none⟩
  | some (.array len e) => match P.info? e with
    | some i => let p := ptC P e; ⟨fun a n q => match a with
      | .agg cs => tstb (Nat.blt n len) (fcN (Nat.mul n i.size) fun off => p.run cs off q)
      | _ => none⟩
    | none => noB2
  | _ => noB2
theorem ixC_ok {T : TypeId} {x y : Operand} {k : IntKind} {n : Nat} (h : (ixC P T).run a n q = some r) : ∃ d, (∀ {O : Origin} {N : Nat} {S : St} {o : Oper} {t : Nat}, o.op = .index T x y → o.dst = some t → t < N → SV S x a → SV S y (.int k (Int.ofNat n)) → IOp P O N o S (S.set t d)) ∧ q d = some r := by
  unfold ixC at h
  try dsimp only at h
  split at h
  · rename_i hu
    try dsimp only at h
    split at h
    · obtain ⟨c, hc, h⟩ := nthK_e h
      rw [fcN_eq] at h
      exact ⟨_, fun ho hd ht hx hy => iop_index_str ho hd ht hu hx hy (Int.natCast_nonneg _) hc rfl, h⟩
    · cases h
  · rename_i len e hu
    try dsimp only at h
    split at h
    · rename_i i hi
      simp only at h
      try dsimp only at h
      split at h
      · obtain ⟨h1, h⟩ := tstb_e h
        rw [fcN_eq] at h
        obtain ⟨i', u, hi', huF, h2, h3, h⟩ := ptC_ok h
        rw [hi] at hi'; cases hi'
        refine ⟨_, fun ho hd ht hx hy => iop_index_agg ho hd ht hu huF (ti_of2 hi) hx hy (Int.natCast_nonneg _) (by rw [Nat.blt_eq] at h1; simpa using h1) ?_ h2 rfl, h⟩
        exact h3
      · cases h
    · cases h
  · cases h
end
end Go.IL
set_option linter.unusedVariables false
namespace Go.IL
/-! Memory. -/
/-- Cells from 'off' on. -/
def ldF {β : Type} (c : Tt D) : Nat → Nat → (List D → Option β) → Option β
  | 0, _, q => q []
  | s + 1, off, q => fcN off fun off => (gkC .dead 20 off).run c fun d => ldF c s (Nat.succ off) fun r => q (d :: r)
theorem ldF_eq {β : Type} (c : Tt D) : ∀ (s off : Nat) (q : List D → Option β), ldF c s off q = q ((List.range' off s).map (c.at .dead))
  | 0, off, q => rfl
  | s + 1, off, q => by
    simp only [ldF, fcN_eq, gkC_at, ldF_eq c s]
    rw [List.range'_succ]; rfl
theorem cellsT_length (n : Nat) (c : Tt D) : (cellsT n c).length = n := by simp [cellsT]
theorem cellsT_get {n : Nat} {c : Tt D} {i : Nat} (h : i < n) : (cellsT n c)[i]? = some (c.at .dead i) := by simp [cellsT, h]
theorem cells_part {c : Tt D} {n off s : Nat} (h : off + s ≤ n) : ((cellsT n c).drop off).take s = (List.range' off s).map (c.at .dead) := by
  apply List.ext_getElem?
  intro k
  by_cases hk : k < s
  · rw [List.getElem?_take, if_pos hk, List.getElem?_drop, cellsT_get (by omega)]; simp [hk]
  · rw [List.getElem?_take, if_neg hk, List.getElem?_eq_none (by simp <;> omega)]
def stL {β : Type} : List D → Nat → Tt D → (Tt D → Option β) → Option β
  | [], _, c, q => q c
  | d :: ds, off, c, q => fcN off fun off => tstb (Nat.blt off 1000000) (fcT ((stC .dead 20 off).run c d) fun c => stL ds (Nat.succ off) c q)
theorem stL_e {β : Type} {r : β} : ∀ {ds : List D} {off : Nat} {c : Tt D} {q : Tt D → Option β}, stL ds off c q = some r →
    ∃ c', (∀ k, c'.at .dead k = if off ≤ k ∧ k < off + ds.length then (ds[k - off]?).getD .dead else c.at .dead k) ∧ q c' = some r
  | [], off, c, q, h => ⟨c, fun k => by rw [if_neg (by simp <;> omega)], h⟩
  | d :: ds, off, c, q, h => by
    simp only [stL, fcN_eq, fcT_eq] at h
    obtain ⟨h1, h⟩ := tstb_e h
    rw [Nat.blt_eq] at h1
    obtain ⟨c', hc, hq⟩ := stL_e h
    refine ⟨c', fun k => ?_, hq⟩
    rw [hc k, stC_at _ _ _ _ _ _ (by omega)]
    by_cases hk : off = k
    · subst hk
      rw [if_neg (by omega), if_pos rfl, if_pos (by simp)]
      simp
    · rw [if_neg hk]
      by_cases h2 : off + 1 ≤ k ∧ k < off + 1 + ds.length
      · rw [if_pos h2, if_pos (by simp <;> omega)]
        rw [show k - off = (k - (off + 1)) + 1 by omega]
        simp
      · rw [if_neg h2, if_neg (by simp <;> omega)]
theorem splice_cells {c c' : Tt D} {n off : Nat} {ds : List D} (hn : off + ds.length ≤ n) (h : ∀ k, c'.at .dead k = if off ≤ k ∧ k < off + ds.length then (ds[k - off]?).getD .dead else c.at .dead k) : splice (cellsT n c) off ds = cellsT n c' := by
  apply List.ext_getElem?
  intro k
  unfold splice
  by_cases hk : k < n
  · rw [cellsT_get hk, h k]
    by_cases h1 : k < off
    · rw [if_neg (by omega), List.append_assoc, List.getElem?_append_left (by simp [cellsT_length]; omega), List.getElem?_take, if_pos h1, cellsT_get hk]
    · by_cases h2 : k < off + ds.length
      · rw [if_pos ⟨by omega, h2⟩, List.append_assoc, List.getElem?_append_right (by simp [cellsT_length]; omega)]
        have e1 : k - (List.take off (cellsT n c)).length = k - off := by simp [cellsT_length]; omega
        rw [e1, List.getElem?_append_left (by omega)]
        have : k - off < ds.length := by omega
        simp [this]
      · rw [if_neg (by omega), List.getElem?_append_right (by simp [cellsT_length]; omega)]
        have e1 : k - (List.take off (cellsT n c) ++ ds).length = k - (off + ds.length) := by simp [cellsT_length]; omega
        rw [e1, List.getElem?_drop, show off + ds.length + (k - (off + ds.length)) = k by omega, cellsT_get hk]
  · rw [List.getElem?_eq_none (by simp [cellsT_length]; omega), List.getElem?_eq_none (by simp [cellsT_length]; omega)]
/-- Cells of one's own. -/
theorem cells_of {c' : Tt D} {ds : List D} (h : ∀ k, c'.at .dead k = if 0 ≤ k ∧ k < 0 + ds.length then (ds[k - 0]?).getD .dead else (Tt.e : Tt D).at .dead k) : cellsT ds.length c' = ds := by
  apply List.ext_getElem?
  intro k
  by_cases hk : k < ds.length
  · rw [cellsT_get hk, h k, if_pos (by omega)]
    simp [hk]
  · rw [List.getElem?_eq_none (by simp [cellsT_length]; omega), List.getElem?_eq_none (by omega)]
/-! The heap. -/
def XS.ent (X : XS) (i : Nat) : XE := X.H.at .no i
def putH {β : Type} (i : Nat) (x : XE) (H : Tt XE) (q : Tt XE → Option β) : Option β := tstb (Nat.blt i 1000000) (fcT ((stC .no 20 i).run H x) q)
theorem putH_e {β : Type} {r : β} {i : Nat} {x : XE} {H : Tt XE} {q : Tt XE → Option β} (h : putH i x H q = some r) : ∃ H', (∀ j, H'.at .no j = if i = j then x else H.at .no j) ∧ i < 1000000 ∧ q H' = some r := by
  unfold putH at h
  obtain ⟨h1, h⟩ := tstb_e h
  rw [Nat.blt_eq] at h1
  rw [fcT_eq] at h
  exact ⟨_, fun j => stC_at _ _ _ _ _ _ (by omega), h1, h⟩
def blkK {β : Type} (X : XS) (id : Nat) (q : TypeId → Nat → Tt D → Option β) : Option β := match X with
  | ⟨_, H, _, _⟩ => (gkC .no 20 id).run H fun x => match x with
    | .blk e n c => q e n c
    | _ => none
theorem blkK_e {β : Type} {r : β} {X : XS} {id : Nat} {q : TypeId → Nat → Tt D → Option β} (h : blkK X id q = some r) : ∃ e n c, X.ent id = .blk e n c ∧ q e n c = some r := by
  obtain ⟨sl, H, nid, dm⟩ := X
  simp only [blkK, gkC_at] at h
  try dsimp only at h
  split at h
  · rename_i e n c hx
    exact ⟨e, n, c, hx, h⟩
  · cases h
theorem SubX.blk {O : Origin} {X : XS} {S : St} {L : Nat} (hs : SubX O X S L) {id : Nat} {e : TypeId} {n : Nat} {c : Tt D} (h : X.ent id = .blk e n c) : S.ent id = .blk e (cellsT n c) := by
  have := hs.en id
  rw [show X.H.at .no id = .blk e n c from h] at this
  exact this
/-- How a value of a type is taken out of memory. -/
structure Lr where
  run : ∀ {β : Type}, XS → D → (D → Option β) → Option β
def noL : Lr := ⟨fun _ _ _ => none⟩
def ldC (P : Program) (T : TypeId) : Lr := match P.info? T with
  | none => noL
  | some i => match isI (P.underlying T) with
    | false => noL
    | true => match Nat.ble 1 i.size with
      | false => noL
      | true => let p := ptC P T; match aggOf P T with
        | true => ⟨fun X a q => match a with
          | .ref id off => blkK X id fun _ n c => tstb (Nat.ble (Nat.add off i.size) n) (ldF c i.size off fun cs => q (.agg cs))
          | .fptr cs => p.run cs 0 q
          | _ => none⟩
        | false => match Nat.beq i.size 1 with
          | false => noL
          | true => ⟨fun X a q => match a with
            | .ref id off => blkK X id fun _ n c => tstb (Nat.blt off n) ((gkC .dead 20 off).run c q)
            | .fptr cs => p.run cs 0 q
            | _ => none⟩
section
variable {P : Program} {N : Nat} {X : XS} {o : Oper} {t : Nat} {β : Type} {r : β} {q : D → Option β}
theorem ldC_all {T : TypeId} {x : Operand} (ho : o.op = .load T x) (hd : o.dst = some t) (ht : t < N) (h : (ldC P T).run X (opD X.sl x) q = some r) : ∃ d, (∀ O S L, SubX O X S L → IOp P O N o S (S.set t d)) ∧ q d = some r := by
  unfold ldC at h
  try dsimp only at h
  split at h
  · cases h
  · rename_i i hi
    try dsimp only at h
    split at h
    · cases h
    · rename_i hu
      obtain ⟨u, hu⟩ := isI_e hu
      try dsimp only at h
      split at h
      · cases h
      · rename_i h1
        have h1 := Nat.le_of_ble_eq_true h1
        have fp : ∀ cs, opD X.sl x = .fptr cs → (ptC P T).run cs 0 q = some r → ∃ d, (∀ O S L, SubX O X S L → IOp P O N o S (S.set t d)) ∧ q d = some r := fun cs ha hp => by
          obtain ⟨i', u', hi', hu', h2, h3, h4⟩ := ptC_ok hp
          rw [hi] at hi'; cases hi'
          exact ⟨_, fun O S L hs => iop_load_fptr ho hd ht hu (ti_of2 hi) (ha ▸ hs.sv x) (by omega) h1 (by rw [List.drop_zero]), h4⟩
        try dsimp only at h
        split at h
        · rename_i hg
          simp only at h
          try dsimp only at h
          split at h
          · rename_i id off hx
            obtain ⟨e, n, c, hb, h⟩ := blkK_e h
            obtain ⟨h2, h⟩ := tstb_e h
            have h2 : off + i.size ≤ n := Nat.le_of_ble_eq_true h2
            rw [ldF_eq, ← cells_part h2] at h
            exact ⟨_, fun O S L hs => iop_load_ref ho hd ht hu (ti_of2 hi) (hx ▸ hs.sv x) (hs.blk hb) (by rw [cellsT_length]; exact h2) h1 (by rw [D.load, hg]; rfl), h⟩
          · rename_i cs hx
            exact fp _ hx h
          · cases h
        · rename_i hg
          try dsimp only at h
          split at h
          · cases h
          · rename_i hz
            have hz := Nat.eq_of_beq_eq_true hz
            simp only at h
            try dsimp only at h
            split at h
            · rename_i id off hx
              obtain ⟨e, n, c, hb, h⟩ := blkK_e h
              obtain ⟨h2, h⟩ := tstb_e h
              rw [Nat.blt_eq] at h2
              rw [gkC_at] at h
              refine ⟨_, fun O S L hs => iop_load_ref ho hd ht hu (ti_of2 hi) (hx ▸ hs.sv x) (hs.blk hb) (by rw [cellsT_length]; omega) h1 ?_, h⟩
              rw [D.load, hg]
              have := cellsT_get (c := c) h2
              rw [if_neg (by simp), List.headD_eq_head?_getD, List.head?_drop, this]; rfl
            · rename_i cs hx
              exact fp _ hx h
            · cases h
end
end Go.IL
set_option linter.unusedVariables false
namespace Go.IL
/-! Steps. -/
def Ent.num : Ent → Option Nat
  | .kept k _ => some k
  | .loop k _ _ _ => some k
  | _ => Option.none
/-- What an evaluation does not know it leaves. -/
structure Pres (X X' : XS) (S S' : St) : Prop where
  p1 : ∀ i, X.ent i = .no → (i < X.nid ∨ X'.nid ≤ i) → S'.ent i = S.ent i
  p2 : ∀ i, X'.dm.testBit i = false → (i < X.nid ∨ X'.nid ≤ i) → S'.ent i = S.ent i
  p3 : ∀ i, (S'.ent i).num = Option.none ∨ (S'.ent i).num = (S.ent i).num
/-- A loop's code. -/
def lpC : XE → Option (Nat × Tt D × Array Tmp × Code × Code)
  | .loop N f _ _ ps as bd => some (N, f, ps, as, bd)
  | _ => none
/-- What is to be seen without a state. -/
structure Fwd (X X' : XS) : Prop where
  p0 : ∀ i, X.ent i = .no → (i < X.nid ∨ X'.nid ≤ i) → X'.ent i = .no
  pm : ∀ i, X.dm.testBit i = true → X'.dm.testBit i = true
  nid : X.nid ≤ X'.nid
  p4 : ∀ i, X'.dm.testBit i = false → (i < X.nid ∨ X'.nid ≤ i) → X'.ent i = X.ent i
  p5 : ∀ i, lpC (X'.ent i) = none ∨ lpC (X'.ent i) = lpC (X.ent i)
theorem Fwd.refl (X : XS) : Fwd X X := ⟨fun _ h _ => h, fun _ h => h, Nat.le_refl _, fun _ _ _ => rfl, fun _ => .inr rfl⟩
theorem Fwd.pm' {X Y : XS} (h : Fwd X Y) {i : Nat} (h1 : Y.dm.testBit i = false) : X.dm.testBit i = false := by
  cases hb : X.dm.testBit i with
  | false => rfl
  | true => rw [h.pm i hb] at h1; cases h1
theorem Fwd.trans {X Y Z : XS} (h : Fwd X Y) (k : Fwd Y Z) : Fwd X Z :=
  ⟨fun i h1 h2 => k.p0 i (h.p0 i h1 (by rcases h2 with h2 | h2; exact .inl h2; exact .inr (Nat.le_trans k.nid h2))) (by rcases h2 with h2 | h2; exact .inl (Nat.lt_of_lt_of_le h2 h.nid); exact .inr h2),
   fun i h1 => k.pm i (h.pm i h1), Nat.le_trans h.nid k.nid, fun i h1 h2 => by
    rw [k.p4 i h1 (by rcases h2 with h2 | h2; exact .inl (Nat.lt_of_lt_of_le h2 h.nid); exact .inr h2), h.p4 i (k.pm' h1) (by rcases h2 with h2 | h2; exact .inl h2; exact .inr (Nat.le_trans k.nid h2))], fun i => by
    rcases k.p5 i with h1 | h1
    · exact .inl h1
    · rw [h1]; exact h.p5 i⟩
theorem Pres.refl (X : XS) (S : St) : Pres X X S S := ⟨fun _ _ _ => rfl, fun _ _ _ => rfl, fun _ => .inr rfl⟩
theorem Pres.trans {X Y Z : XS} {S T U : St} (hf : Fwd X Y) (hg : Fwd Y Z) (h : Pres X Y S T) (k : Pres Y Z T U) : Pres X Z S U := by
  refine ⟨fun i h1 h2 => ?_, fun i h1 h2 => ?_, fun i => ?_⟩
  · have h3 : i < X.nid ∨ Y.nid ≤ i := by rcases h2 with h2 | h2; exact .inl h2; exact .inr (Nat.le_trans hg.nid h2)
    have h4 : i < Y.nid ∨ Z.nid ≤ i := by rcases h2 with h2 | h2; exact .inl (Nat.lt_of_lt_of_le h2 hf.nid); exact .inr h2
    rw [k.p1 i (hf.p0 i h1 h3) h4, h.p1 i h1 h3]
  · have h3 : Y.dm.testBit i = false := by
      cases hb : Y.dm.testBit i with
      | false => rfl
      | true => rw [hg.pm i hb] at h1; cases h1
    rw [k.p2 i h1 (by rcases h2 with h2 | h2; exact .inl (Nat.lt_of_lt_of_le h2 hf.nid); exact .inr h2), h.p2 i h3 (by rcases h2 with h2 | h2; exact .inl h2; exact .inr (Nat.le_trans hg.nid h2))]
  · rcases k.p3 i with h1 | h1
    · exact .inl h1
    · rcases h.p3 i with h2 | h2
      · left; rw [h1, h2]
      · right; rw [h1, h2]
/-- What calls ask of the origin. -/
structure OC (O : Origin) (X : XS) (S : St) : Prop where
  foot : O.FootOk
  dv : ∀ j, O.dv j = [] ∨ ∃ i ds, i < X.nid ∧ X.ent i = .no ∧ S.ent i = .kept j ds
theorem OC.next {O : Origin} {X X' : XS} {S S' : St} (h : OC O X S) (hf : Fwd X X') (hp : Pres X X' S S') : OC O X' S' :=
  ⟨h.foot, fun j => by
    rcases h.dv j with h1 | ⟨i, ds, h1, h2, h3⟩
    · exact .inl h1
    · exact .inr ⟨i, ds, Nat.lt_of_lt_of_le h1 hf.nid, hf.p0 i h2 (.inl h1), by rw [hp.p1 i h2 (.inl h1)]; exact h3⟩⟩
/-- An operation comes to one of such states. -/
def GT (P : Program) (O : Origin) (N : Nat) (o : Oper) (S : St) (R : St → Prop) : Prop :=
  ∀ E β a, Rel O N S E β a → ∀ (next : Act → World → Prop) Q, (∀ S' E' β' a', R S' → Rel O N S' E' β' a' → next a' E'.w) → o.wp P a E.w next Q
theorem GT.of {P : Program} {O : Origin} {N : Nat} {o : Oper} {S S' : St} {R : St → Prop} (h : IOp P O N o S S') (hr : R S') : GT P O N o S R :=
  fun E β a hrel next Q hn => h E β a hrel next Q fun E' β' a' hr' => hn S' E' β' a' hr hr'
/-- But for its own, slots stay. -/
def Kp (o : Oper) (S S' : St) : Prop := ∀ s, o.dst ≠ some s → S'.get s = S.get s
theorem Kp.set {o : Oper} {t : Nat} (hd : o.dst = some t) {S0 S1 : St} (d : D) (h : S1.sl = S0.sl) : Kp o S0 (S1.set t d) := fun s hs => by
  have : t ≠ s := fun e => hs (e ▸ hd)
  simp only [St.get, St.set, look_cons, if_neg this, h]
/-- What a step is to be. -/
structure StepOk (P : Program) (N : Nat) (o : Oper) (X X' : XS) : Prop where
  fwd : Fwd X X'
  go : ∀ (O : Origin) (S : St) (L : Nat), SubX O X S L → OC O X S → X'.nid ≤ L → GT P O N o S fun S' => SubX O X' S' L ∧ Pres X X' S S' ∧ Kp o S S'
section
variable {P : Program} {O : Origin} {N : Nat} {S : St} {X : XS} {L : Nat} {o : Oper} {t : Nat} {β : Type} {r : β} {d : D}
theorem SubX.put (hs : SubX O X S L) (ht : t < 4000) (d : D) : SubX O ⟨(stC .dead 12 t).run X.sl d, X.H, X.nid, X.dm⟩ (S.set t d) L := by
  refine ⟨fun s => ?_, hs.en, hs.fr, hs.lim⟩
  show ((stC D.dead 12 t).run X.sl d).at .dead s = _ ∨ _
  rw [stC_at _ _ _ _ _ _ (by omega)]
  simp only [St.get, St.set, look_cons]
  by_cases h : t = s
  · left; rw [if_pos h, if_pos h]
  · rw [if_neg h, if_neg h]; exact hs.sl s
/-- A value comes into a slot. -/
structure Wr where
  run : ∀ {β : Type}, XS → D → (XS → Option β) → Option β
def putR (t : Nat) : Wr := ⟨fun X d q => match X with
  | ⟨sl, H, nid, dm⟩ => tstb (Nat.blt t 4000) (fcT ((stC .dead 12 t).run sl d) fun sl => q ⟨sl, H, nid, dm⟩)⟩
theorem putR_e {q : XS → Option β} (h : (putR t).run X d q = some r) : t < 4000 ∧ q ⟨(stC .dead 12 t).run X.sl d, X.H, X.nid, X.dm⟩ = some r := by
  obtain ⟨sl, H, nid, dm⟩ := X
  simp only [putR] at h
  obtain ⟨h1, h⟩ := tstb_e h
  rw [Nat.blt_eq] at h1
  rw [fcT_eq] at h
  exact ⟨h1, h⟩
theorem Fwd.put : Fwd X ⟨(stC .dead 12 t).run X.sl d, X.H, X.nid, X.dm⟩ := ⟨fun _ h _ => h, fun _ h => h, Nat.le_refl _, fun _ _ _ => rfl, fun _ => .inr rfl⟩
theorem Pres.put (t : Nat) (d : D) : Pres X ⟨(stC .dead 12 t).run X.sl d, X.H, X.nid, X.dm⟩ S (S.set t d) := ⟨fun _ _ _ => rfl, fun _ _ _ => rfl, fun _ => .inr rfl⟩
/-- Operations that make a value alone. -/
theorem step_val (hd : o.dst = some t) (ht : t < 4000) (h : ∀ O S L, SubX O X S L → IOp P O N o S (S.set t d)) : StepOk P N o X ⟨(stC .dead 12 t).run X.sl d, X.H, X.nid, X.dm⟩ :=
  ⟨Fwd.put, fun O S L hs _ _ => .of (h O S L hs) ⟨hs.put ht d, Pres.put t d, Kp.set hd d rfl⟩⟩
/-- An entry turns. -/
theorem SubX.setE (hs : SubX O X S L) {id : Nat} {x : XE} {e : Ent} {H' : Tt XE} (hH : ∀ j, H'.at .no j = if id = j then x else X.H.at .no j) (hx : EnR O x e) {nid dm : Nat} (hn : X.nid ≤ nid) (hid : id < nid ∨ L ≤ id) : SubX O ⟨X.sl, H', nid, dm⟩ (S.setE id e) L := by
  refine ⟨hs.sl, fun i => ?_, fun i h1 h2 => ?_, hs.lim⟩
  · show EnR O (H'.at .no i) _
    rw [hH i]
    simp only [St.ent, St.setE, entL, look_cons]
    by_cases h : id = i
    · rw [if_pos h, if_pos h]; exact hx
    · rw [if_neg h, if_neg h]; exact hs.en i
  · have h1 : nid ≤ i := h1
    have hne : id ≠ i := by omega
    simp only [St.ent, St.setE, entL, look_cons, if_neg hne]
    exact hs.fr i (by omega) h2
theorem SubX.lt (hs : SubX O X S L) {id : Nat} (h : S.ent id ≠ .fresh) : id < X.nid ∨ L ≤ id := by
  rcases Nat.lt_or_ge id X.nid with h1 | h1
  · exact .inl h1
  · rcases Nat.lt_or_ge id L with h2 | h2
    · exact absurd (hs.fr id h1 h2) h
    · exact .inr h2
/-- Something new. -/
theorem SubX.new (hs : SubX O X S L) {x : XE} {e : Ent} {H' : Tt XE} (hH : ∀ j, H'.at .no j = if X.nid = j then x else X.H.at .no j) (hx : EnR O x e) (dm : Nat) : SubX O ⟨X.sl, H', X.nid + 1, dm⟩ (S.setE X.nid e) L :=
  hs.setE hH hx (Nat.le_succ _) (.inl (Nat.lt_succ_self _))
theorem Fwd.new {x : XE} {H' : Tt XE} (hx : lpC x = none) (hH : ∀ j, H'.at .no j = if X.nid = j then x else X.H.at .no j) : Fwd X ⟨X.sl, H', X.nid + 1, X.dm⟩ :=
  ⟨fun i h1 h2 => by
    show H'.at .no i = .no
    have h2 : i < X.nid ∨ X.nid + 1 ≤ i := h2
    rw [hH i, if_neg (by omega)]; exact h1, fun _ h => h, Nat.le_succ _, fun i _ h2 => by
    show H'.at .no i = _
    have h2 : i < X.nid ∨ X.nid + 1 ≤ i := h2
    rw [hH i, if_neg (by omega)]; rfl, fun i => by
    show lpC (H'.at .no i) = _ ∨ lpC (H'.at .no i) = _
    rw [hH i]
    split
    · exact .inl hx
    · exact .inr rfl⟩
theorem Pres.new {e : Ent} {H' : Tt XE} (he : e.num = none) : Pres X ⟨X.sl, H', X.nid + 1, X.dm⟩ S (S.setE X.nid e) := by
  have key : ∀ i, X.nid ≠ i → (S.setE X.nid e).ent i = S.ent i := fun i h => by simp only [St.ent, St.setE, entL, look_cons, if_neg h]
  refine ⟨fun i _ h2 => ?_, fun i _ h2 => key i (by have h2 : i < X.nid ∨ X.nid + 1 ≤ i := h2; omega), fun i => ?_⟩
  · have h2 : i < X.nid ∨ X.nid + 1 ≤ i := h2
    exact key i (by omega)
  · by_cases h : X.nid = i
    · left; subst h; simp only [St.ent, St.setE, entL, look_cons, if_true]; exact he
    · right; rw [key i h]
/-- An entry that is known is written. -/
theorem Fwd.wr {id : Nat} {x : XE} {H' : Tt XE} (hx : lpC x = none) (hH : ∀ j, H'.at .no j = if id = j then x else X.H.at .no j) (hk : X.ent id ≠ .no) : Fwd X ⟨X.sl, H', X.nid, X.dm ||| 1 <<< id⟩ :=
  ⟨fun i h1 h2 => by
    show H'.at .no i = .no
    have : id ≠ i := fun e => hk (e ▸ h1)
    rw [hH i, if_neg this]; exact h1, fun i h => by
    show (X.dm ||| 1 <<< id).testBit i = true
    rw [Nat.testBit_or, h]; rfl, Nat.le_refl _, fun i h1 _ => by
    show H'.at .no i = _
    have : id ≠ i := fun e => by
      subst e
      have h1 : (X.dm ||| 1 <<< id).testBit id = false := h1
      rw [Nat.testBit_or, Nat.one_shiftLeft, Nat.testBit_two_pow_self] at h1
      simp at h1
    rw [hH i, if_neg this]; rfl, fun i => by
    show lpC (H'.at .no i) = _ ∨ lpC (H'.at .no i) = _
    rw [hH i]
    split
    · exact .inl hx
    · exact .inr rfl⟩
theorem Pres.wr {id : Nat} {e : Ent} {H' : Tt XE} (hk : X.ent id ≠ .no) (he : e.num = none ∨ e.num = (S.ent id).num) : Pres X ⟨X.sl, H', X.nid, X.dm ||| 1 <<< id⟩ S (S.setE id e) := by
  have key : ∀ i, id ≠ i → (S.setE id e).ent i = S.ent i := fun i h => by simp only [St.ent, St.setE, entL, look_cons, if_neg h]
  refine ⟨fun i h1 _ => key i fun h => hk (h ▸ h1), fun i h1 _ => key i fun h => ?_, fun i => ?_⟩
  · subst h
    have h1 : (X.dm ||| 1 <<< id).testBit id = false := h1
    rw [Nat.testBit_or, Nat.one_shiftLeft, Nat.testBit_two_pow_self] at h1
    simp at h1
  · by_cases h : id = i
    · subst h
      have : (S.setE id e).ent id = e := by simp only [St.ent, St.setE, entL, look_cons, if_true]
      rw [this]; exact he
    · right; rw [key i h]
end
/-! Stores. -/
structure Sr where
  run : ∀ {β : Type}, XS → D → D → (XS → Option β) → Option β
def wrK {β : Type} (id off : Nat) (cs : List D) (X : XS) (q : XS → Option β) : Option β := match X with
  | ⟨sl, H, nid, dm⟩ => (gkC .no 20 id).run H fun x => match x with
    | .blk e n c => tstb (Nat.ble (Nat.add off cs.length) n) (stL cs off c fun c => putH id (.blk e n c) H fun H => fcN (Nat.lor dm (Nat.shiftLeft 1 id)) fun dm => q ⟨sl, H, nid, dm⟩)
    | _ => none
def stoC (P : Program) (T : TypeId) : Sr := match P.info? T with
  | some i => ⟨fun X a d q => match a with
    | .ref id off => match d with
      | .agg cs => tstb (Nat.beq cs.length i.size) (tstb (cs.all D.one) (wrK id off cs X q))
      | d => tstb (Nat.beq i.size 1) (tstb d.one (wrK id off [d] X q))
    | _ => none⟩
  | none => ⟨fun _ _ _ _ => none⟩
section
variable {P : Program} {N : Nat} {X : XS} {o : Oper} {t : Nat} {β : Type} {r : β}
theorem wrK_e {id off : Nat} {cs : List D} {q : XS → Option β} (h : wrK id off cs X q = some r) : ∃ e n c c' H', X.ent id = .blk e n c ∧ off + cs.length ≤ n ∧ splice (cellsT n c) off cs = cellsT n c' ∧ (∀ j, H'.at .no j = if id = j then .blk e n c' else X.H.at .no j) ∧ q ⟨X.sl, H', X.nid, X.dm ||| 1 <<< id⟩ = some r := by
  obtain ⟨sl, H, nid, dm⟩ := X
  simp only [wrK, gkC_at] at h
  try dsimp only at h
  split at h
  · rename_i e n c hx
    obtain ⟨h1, h⟩ := tstb_e h
    have h1 : off + cs.length ≤ n := Nat.le_of_ble_eq_true h1
    obtain ⟨c', hc, h⟩ := stL_e h
    obtain ⟨H', hH, _, h⟩ := putH_e h
    rw [fcN_eq] at h
    exact ⟨e, n, c, c', H', hx, h1, splice_cells h1 hc, hH, h⟩
  · cases h
theorem sto_step {T : TypeId} {x y : Operand} {i : TypeInfo} {d : D} {id off : Nat} {cs : List D} {e : TypeId} {n : Nat} {c c' : Tt D} {H' : Tt XE} (hi : P.info? T = some i) (ho : o.op = .store T x y) (hd : o.dst = none) (hx : opD X.sl x = .ref id off) (hy : opD X.sl y = d)
    (hb : d.boxable = true) (hcs : d.cells = cs) (hsz : cs.length = i.size) (h1 : cs.all D.one = true) (hX : X.ent id = .blk e n c) (hn : off + cs.length ≤ n) (hsp : splice (cellsT n c) off cs = cellsT n c') (hH : ∀ j, H'.at .no j = if id = j then .blk e n c' else X.H.at .no j) :
    StepOk P N o X ⟨X.sl, H', X.nid, X.dm ||| 1 <<< id⟩ := by
  have hk : X.ent id ≠ .no := fun h => by rw [h] at hX; cases hX
  refine ⟨Fwd.wr rfl hH hk, fun O S L hs hoc hL => ?_⟩
  subst hcs
  have hSe := hs.blk hX
  refine .of (iop_store_ref ho hd (ti_of2 hi) (hx ▸ hs.sv x) hSe (hy ▸ hs.sv y) hb hsz h1 (by rw [cellsT_length, ← hsz]; exact hn) hsp) ⟨?_, Pres.wr hk (.inl rfl), fun _ _ => rfl⟩
  exact hs.setE hH rfl (Nat.le_refl _) (hs.lt (by rw [hSe]; exact fun h => by cases h))
theorem stoC_ok {T : TypeId} {x y : Operand} {q : XS → Option β} (ho : o.op = .store T x y) (hd : o.dst = none) (h : (stoC P T).run X (opD X.sl x) (opD X.sl y) q = some r) : ∃ X', StepOk P N o X X' ∧ q X' = some r := by
  unfold stoC at h
  try dsimp only at h
  split at h
  · rename_i i hi
    simp only at h
    try dsimp only at h
    split at h
    · rename_i id off hx
      try dsimp only at h
      split at h
      · rename_i cs hy
        obtain ⟨h1, h⟩ := tstb_e h
        obtain ⟨h2, h⟩ := tstb_e h
        obtain ⟨e, n, c, c', H', g1, g2, g3, g4, g5⟩ := wrK_e h
        exact ⟨_, sto_step hi ho hd hx hy rfl rfl (Nat.eq_of_beq_eq_true h1) h2 g1 g2 g3 g4, g5⟩
      · rename_i d hne
        obtain ⟨h1, h⟩ := tstb_e h
        obtain ⟨h2, h⟩ := tstb_e h
        obtain ⟨e, n, c, c', H', g1, g2, g3, g4, g5⟩ := wrK_e h
        have hcl : (opD X.sl y).cells = [opD X.sl y] := by
          cases hy : opD X.sl y <;> first | rfl | (exact absurd hy (hne _))
        have hbx : (opD X.sl y).boxable = true := by
          cases hy : opD X.sl y <;> rw [hy] at h2 <;> first | rfl | (cases h2)
        exact ⟨_, sto_step hi ho hd hx rfl hbx hcl (by simpa using (Nat.eq_of_beq_eq_true h1).symm) (by simp [h2]) g1 g2 g3 g4, g5⟩
    · cases h
  · cases h
end
end Go.IL
set_option linter.unusedVariables false
namespace Go.IL
/-! Views of lists, of which so much room is known. -/
theorem osl_vsl {id sz n : Nat} (h : 0 < n) : Wk (.osl id sz n) (.vsl id sz 0 n n) := by
  intro E β v k
  cases k with
  | nosl => omega
  | osl _ _ b _ cap _ hb hc hsz c e f h1 h2 h3 => exact .vsl _ _ _ _ _ _ cap b 0 hb (Nat.le_refl _) hc hsz ⟨fun _ => rfl, Nat.le_refl _⟩ c e f h1 (by omega) h3
section
variable {P : Program} {O : Origin} {N : Nat} {S S' : St} {o : Oper} {t : Nat}
theorem iop_wk {d d' : D} {S1 : St} (h : IOp P O N o S (S1.set t d)) (k : Wk d d') : IOp P O N o S (S1.set t d') := by
  intro E β a hr next Q hn
  refine h E β a hr next Q fun E' β' a' hr' => hn E' β' a' ⟨hr'.n, hr'.nd, hr'.h, fun s => ?_⟩
  have := hr'.sl s
  by_cases hs : t = s
  · subst hs
    simp only [St.get, St.set, look_cons, if_true] at this ⊢
    exact k _ _ _ this
  · simpa [St.get, St.set, look_cons, hs] using this
theorem iop_len_vsl {T e : TypeId} {x : Operand} {id sz off len room : Nat} (ho : o.op = .call { callee := .builtin .len, args := #[x], argTypes := #[T] }) (hd : o.dst = some t) (ht : t < N) (hu : P.underlying T = some (.slice e))
    (hx : SV S x (.vsl id sz off len room)) : IOp P O N o S (S.set t (.int .i64 (Int.ofNat len))) :=
  iop_of hd ht fun E β a hr => ⟨.int .i64 (Int.ofNat len), by
    obtain ⟨cap, hxr, _⟩ := vsl_rsl (hx.rd hr)
    obtain ⟨b, p, c, e', f, hv, _⟩ := rd_rsl hxr
    simp [execOp, ho, resolve, invoke, builtin, Builtin.len_, run_underlying hu, hv, goInt], .int _ _ _⟩
theorem iop_index_vsl {T e : TypeId} {x y : Operand} {len sz off room : Nat} {k : IntKind} {n : Nat} {z : Option Value} {bytes : Nat} {id : Nat} (ho : o.op = .indexAddr T x y) (hd : o.dst = some t) (ht : t < N)
    (hu : P.underlying T = some (.slice e)) (hi : TI P e z sz bytes) (hx : SV S x (.vsl id sz off len room)) (hy : SV S y (.int k (Int.ofNat n))) (hn : n < len) :
    IOp P O N o S (S.set t (.ref id (off + n * sz))) :=
  iop_of hd ht fun E β a hr => by
    obtain ⟨cap, hxr, hlr, hrc⟩ := vsl_rsl (hx.rd hr)
    obtain ⟨b, p, c, e', f, hv, hb, hlc, hsz, hp, hp', hcap, hcs, hcm⟩ := rd_rsl hxr
    have hpo := hp (by omega)
    subst hpo
    refine ⟨.pointer (some ⟨b, p + n * sz, none⟩), ?_, .ref _ _ _ _ hb⟩
    have h1 := rd_int (hy.rd hr)
    have h2 : (n : Int) < (len : Int) := by omega
    simp [execOp, ho, hv, h1, Instr.indexAt, asIntOf, run_underlying hu, h2, hi.run_size, add_none]
    intro h9; omega
theorem iop_slice_vsl {T e : TypeId} {x : Operand} {lo hi mx : Option Operand} {id sz off len room l h m : Nat} {z : Option Value} {bytes : Nat} (ho : o.op = .slice T x lo hi mx) (hd : o.dst = some t) (ht : t < N) (hu : P.underlying T = some (.slice e)) (hi' : TI P e z sz bytes)
    (hx : SV S x (.vsl id sz off len room)) (hlo : Bound S 0 lo (l : Int)) (hhi : Bound S len hi (h : Int)) (hmx : mx = none ∧ m = room ∨ Bound S 0 mx (m : Int) ∧ mx.isSome = true ∧ hi.isSome = true) (h1 : l ≤ h) (h2 : h ≤ m) (h3 : m ≤ room) :
    IOp P O N o S (S.set t (.vsl id sz (off + l * sz) (h - l) (m - l))) :=
  iop_of hd ht fun E β a hr => by
    obtain ⟨cap, hxr, hlr, hrc⟩ := vsl_rsl (hx.rd hr)
    obtain ⟨b, p, c, e', f, hv, hb, hlc, hsz, hp, hp', hcap, hcs, hcm⟩ := rd_rsl hxr
    have key : ∀ mc : Nat, m ≤ mc → mc ≤ cap → (Instr.sliceBounds true len cap (lo.map a.eval) (hi.map a.eval) (mx.map a.eval)).run P E.w = .ok (l, h, mc) E.w →
        ∃ v, (execOp a.eval o).run P E.w = .ok (.value v) E.w ∧ Rd E β v (.vsl id sz (off + l * sz) (h - l) (m - l)) := by
      intro mc hm1 hm2 hbd
      have hfit : off + l * sz + (mc - l) * sz ≤ c.size := by
        have : l * sz + (mc - l) * sz ≤ cap * sz := by rw [← Nat.add_mul]; exact Nat.mul_le_mul_right _ (by omega)
        omega
      refine ⟨.slice (if mc = l then some ⟨b, p, none⟩ else some ⟨b, p + l * sz, none⟩) (h - l) (mc - l), ?_, ?_⟩
      · simp only [execOp, ho, hv, Instr.sliceAt, Instr.slice, Sem.run_bind, run_underlying hu, Result.andThen_ok, hbd, hi'.run_size, Sem.run_pure]
        split <;> simp [add_none]
      · split
        · rename_i hml
          exact .vsl _ _ _ _ _ _ (mc - l) b p hb (by omega) (by omega) hsz ⟨fun h => by omega, by omega⟩ c e' f hcap hfit (by omega)
        · rename_i hml
          have hpo := hp (by omega)
          exact .vsl _ _ _ _ _ _ (mc - l) b _ hb (by omega) (by omega) hsz ⟨fun _ => by rw [hpo], by omega⟩ c e' f hcap hfit (by omega)
    rcases hmx with ⟨rfl, rfl⟩ | ⟨hb3, hs1, hs2⟩
    · have hbd := run_bounds3 (P := P) (cap := cap) (mx := none) hr hlo hhi (m := (cap : Int)) rfl (fun h => by cases h) (Int.natCast_nonneg _) (by omega) (by omega) (Int.le_refl _)
      simp only [Int.toNat_natCast] at hbd
      exact key cap hrc (Nat.le_refl _) hbd
    · have hb3' : Bound S cap mx (m : Int) := by
        cases mx with
        | none => cases hs1
        | some y => exact hb3
      have hbd := run_bounds3 (P := P) (cap := cap) hr hlo hhi hb3' (fun _ => hs2) (Int.natCast_nonneg _) (by omega) (by omega) (by omega)
      simp only [Int.toNat_natCast] at hbd
      exact key m (Nat.le_refl _) (by omega) hbd
theorem src_vsl {y : Operand} {id sz off len room : Nat} {e : TypeId} {ds : List D} (hy : SV S y (.vsl id sz off len room)) (he : S.ent id = .blk e ds) (hl : off + len * sz ≤ ds.length) : ∀ E β a, Rel O N S E β a → Src E β (a.eval y) len ((ds.drop off).take (len * sz)) := by
  intro E β a hr
  obtain ⟨cap, hxr, _⟩ := vsl_rsl (hy.rd hr)
  obtain ⟨b, p, c, e', f, hv, hb, hlc, hsz, hp, hp', hcap, hcs, hcm⟩ := rd_rsl hxr
  have hent := hr.h.ent id
  rw [he] at hent
  obtain ⟨vs, sp, hown, hh, hX, hvs⟩ := blk_at hent hb
  by_cases h0 : len = 0
  · subst h0
    exact .inl ⟨.inr ⟨_, _, hv⟩, rfl, by simp⟩
  · have hpo := hp (by omega)
    subst hpo
    have hvl := hvs.length
    refine .inr ⟨b, p, cap, (vs.drop p).take (len * sz), hv, fun j u hj => ?_, (hvs.drop p).take _⟩
    rw [add_none, cell_of_row _ _ _ _ _ _ hh]
    rw [List.getElem?_take] at hj
    split at hj
    · rename_i hjl
      rw [List.getElem?_drop] at hj
      have hlt := (List.getElem?_eq_some_iff.1 hj).1
      simpa [List.getElem?_append_left hlt] using hj
    · cases hj
/-- 'append' where there is room. -/
theorem iop_app_in {T e : TypeId} {x y : Operand} {z : Value} {size bytes n m id room : Nat} {ds es ds' : List D} (ho : o.op = .call { callee := .builtin .append, args := #[x, y], argTypes := #[T, T] }) (hd : o.dst = some t) (ht : t < N)
    (hu : P.underlying T = some (.slice e)) (hi : TI P e (some z) size bytes) (hx : SV S x (.vsl id size 0 n room)) (he : S.ent id = .blk e ds) (hy : ∀ E β a, Rel O N S E β a → Src E β (a.eval y) m es) (hes : es.length = m * size) (hone : es.all D.one = true)
    (hm : n + m ≤ room) (hpos : 0 < m) (hfit : n * size + es.length ≤ ds.length) (hds : splice ds (n * size) es = ds') : IOp P O N o S ((S.setE id (.blk e ds')).set t (.vsl id size 0 (n + m) room)) := by
  intro E β a hr next Q hn
  subst hds
  obtain ⟨cap, hxr, hlr, hrc⟩ := vsl_rsl (hx.rd hr)
  obtain ⟨b, p, c, e', f, hv, hb, hlc, hsz, hp, hp', hcap, hcs, hcm⟩ := rd_rsl hxr
  have hp0 : p = 0 := by omega
  subst hp0
  have hent := hr.h.ent id
  rw [he] at hent
  obtain ⟨vs, sp, hown, hh, hX, hvs⟩ := blk_at hent hb
  obtain ⟨i, hi1, hi2, hi3, hi4⟩ := hi.at
  have hvl := hvs.length
  rcases hy E β a hr with ⟨_, hm0, _⟩ | ⟨yb, yoff, ycap, us, hyv, hyr, hus⟩
  · omega
  · have hul : us.length = m * i.size := by rw [hus.length, hes, hi3]
    have hra := run_append_room (P := P) E.w T o.type e i hu hi1 b n cap (vs ++ sp).toArray hh ⟨yb, yoff, none⟩ m ycap us hul hyr (rdl_one hus hone) (by omega) (by simp; rw [hul, hi3, ← hes]; omega)
    have hrun : (execOp a.eval o).run P E.w = .ok (.value (.slice (some ⟨b, 0, none⟩) (n + m) cap)) (E.w.setRow b ((vs ++ sp).take (n * size) ++ us ++ (vs ++ sp).drop (n * size + us.length)).toArray) := by
      have : (Builtin.append_ #[T, T] o.type #[a.eval x, a.eval y]).run P E.w = .ok (.slice (some ⟨b, 0, none⟩) (n + m) cap) (E.w.setRow b ((vs ++ sp).take (n * size) ++ us ++ (vs ++ sp).drop (n * size + us.length)).toArray) := by
        rw [hv, hyv, hra, hi3]
      simp [execOp, ho, resolve, invoke, builtin, this]
    unfold Oper.wp
    rw [hrun]
    obtain ⟨E', h1, h2, h3, h4⟩ := put_part hr he hb hown hh hX hvs hus (off := n * size) (by rw [hes, ← hes]; exact hfit)
    simp only [Oper.upon, hd]
    rw [← h1]
    refine hn E' β _ ?_
    refine ⟨by simp [Act.put, hr.n], h4.nd, h4.h, fun s => ?_⟩
    have hts : t < a.tmps.size := hr.n ▸ ht
    by_cases hst : t = s
    · subst hst
      obtain ⟨c', f', g1, g2⟩ := h3.size b _ _ _ hcap
      simp only [Act.put, St.get, St.set, look_cons, if_true, Array.getD_eq_getD_getElem?, Array.getElem?_setIfInBounds_self, hts, Option.getD_some]
      exact .vsl _ _ _ _ _ _ cap b 0 hb hm hrc hsz ⟨fun _ => rfl, Nat.le_refl _⟩ _ _ _ g1 (by rw [g2]; exact hcs) hcm
    · have := h4.sl s
      simpa [Act.put, St.get, St.set, St.setE, look_cons, hst, Array.getElem?_setIfInBounds_ne] using this
theorem iop_clear_v {T e : TypeId} {x : Operand} {z : Value} {id sz off len room bytes : Nat} {e' : TypeId} {ds ds' : List D} (ho : o.op = .call { callee := .builtin .clear, args := #[x], argTypes := #[T] }) (hd : o.dst = none)
    (hu : P.underlying T = some (.slice e)) (hi : TI P e (some z) sz bytes) (hz : z.cells.size = sz) (hz1 : z.cells.toList.all Value.oneCell' = true) (hx : SV S x (.vsl id sz off len room)) (he : S.ent id = .blk e' ds) (hfit : off + len * sz ≤ ds.length)
    (hds : splice ds off (List.replicate (len * sz) .dead) = ds') : IOp P O N o S (S.setE id (.blk e' ds')) := by
  intro E β a hr next Q hn
  subst hds
  obtain ⟨cap, hxr, _, _⟩ := vsl_rsl (hx.rd hr)
  obtain ⟨b, p, c, e'', f, hv, hb, hlc, hsz, hp, hp', hcap, hcs, hcm⟩ := rd_rsl hxr
  have hent := hr.h.ent id
  rw [he] at hent
  obtain ⟨vs, sp, hown, hh, hX, hvs⟩ := blk_at hent hb
  obtain ⟨i, hi1, hi2, hi3, hi4⟩ := hi.at
  have hvl := hvs.length
  have hrun0 : ∀ r, (Builtin.clear_ #[T] o.type #[a.eval x]).run P E.w = r → (execOp a.eval o).run P E.w = r.andThen fun v w' => .ok (.value v) w' := fun r hr' => by
    simp [execOp, ho, resolve, invoke, builtin, hr']
  have key : ∀ us : List Value, us.length = len * sz → (Builtin.clear_ #[T] o.type #[a.eval x]).run P E.w = .ok (.tuple #[]) (E.w.setRow b ((vs ++ sp).take off ++ us ++ (vs ++ sp).drop (off + us.length)).toArray) → o.wp P a E.w next Q := by
    intro us hul hra
    unfold Oper.wp
    rw [hrun0 _ hra]
    have hus := rdl_dead E β us
    rw [hul] at hus
    obtain ⟨E', h1, h2, h3, h4⟩ := put_part hr he hb hown hh hX hvs hus (off := off) (by rw [List.length_replicate]; exact hfit)
    simp only [Result.andThen_ok, Oper.upon, hd, Act.put]
    rw [← h1]
    exact hn E' β _ h4
  by_cases h0 : len = 0
  · subst h0
    refine key [] (by simp) ?_
    have e1 : E.w.setRow b ((vs ++ sp).take off ++ [] ++ (vs ++ sp).drop (off + ([] : List Value).length)).toArray = E.w := by
      simp only [List.append_nil, List.length_nil, Nat.add_zero, List.take_append_drop]
      exact setRow_self _ _ _ _ _ hh
    rw [e1, hv]
    simp [Builtin.clear_, run_underlying hu]
  · have hpo := hp (by omega)
    have hl : (Builtin.zeroCells z.cells len).toList.length = len * sz := by rw [Array.length_toList, size_zeroCells, hz]
    refine key (Builtin.zeroCells z.cells len).toList hl ?_
    have hone : ∀ v ∈ (Builtin.zeroCells z.cells len).toList, v.oneCell' = true := by
      intro v hv
      rw [List.all_eq_true] at hz1
      simp only [Builtin.zeroCells, Array.toList_map, List.mem_map] at hv
      obtain ⟨j, _, rfl⟩ := hv
      have hlt : j % z.cells.size < z.cells.size := Nat.mod_lt _ (by rw [hz]; exact hsz)
      rw [getElem!_pos z.cells (j % z.cells.size) hlt]
      exact hz1 _ (by simp)
    have hst := run_storeCells_at P b p e' (Builtin.zeroCells z.cells len).toList 0 (vs ++ sp).toArray E.w hh (by rw [hl]; simp; omega) hone
    simp only [Nat.add_zero] at hst
    rw [hv]
    subst hpo
    cases len with
    | zero => exact absurd rfl h0
    | succ len => simp [Builtin.clear_, run_underlying hu, zeroValue, typeInfo, hi1, hi2, hst]
/-- A new block, as an owned slice. -/
theorem iop_newvsl {e : TypeId} {sz n : Nat} {ds : List D} (id : Nat) (hd : o.dst = some t) (ht : t < N) (hf : S.ent id = .fresh) (hlen : ds.length = n * sz) (hsp : 0 < sz) (hmax : n ≤ maxLen)
    (h : ∀ E β a, Rel O N S E β a → ∃ vs : List Value, (execOp a.eval o).run P E.w = .ok (.value (.slice (some ⟨E.w.heap.size, 0, none⟩) n n)) (E.w.alloc (.cells vs.toArray e)) ∧ RdL E β vs ds) :
    IOp P O N o S ((S.setE id (.blk e ds)).set t (.vsl id sz 0 n n)) := by
  intro E β a hr next Q hn
  obtain ⟨vs, hrun, hv⟩ := h E β a hr
  unfold Oper.wp
  rw [hrun]
  simp only [Oper.upon, hd]
  have hfr : β id = none := by have := hr.h.ent id; rw [hf] at this; exact this
  let E' : Env := ⟨E.w.alloc (.cells vs.toArray e), fun b o => b = E.w.heap.size ∨ E.X b o⟩
  let β' : Names := fun j => if j = id then some E.w.heap.size else β j
  have hβ : β.le β' := fun j b hj => by
    by_cases hji : j = id
    · subst hji; rw [hfr] at hj; cases hj
    · simp [β', hji, hj]
  have hs : Step O E E' E.w.heap.size :=
    ⟨rfl, rfl, rfl, by simp [E'], by simp [E'], .inl hr.h.size, fun k hk _ => heap_alloc_old _ _ hk, fun k o hk => by simp [E', hk], fun _ h => Nat.lt_irrefl _ (heap_lt h)⟩
  have hle : E.le E' := hs.le (fun o v h1 _ => by have := World.block_lt_of_cell? _ _ h1; simp at this) (fun c e f h1 => by have := heap_lt h1; simp at this)
  refine hn E' β' _ ⟨by simp [Act.put, hr.n], hr.nd.step hs, ?_, ?_⟩
  · refine HOk.put hr.h hs hle hβ ?_ ?_ (id := id) (by simp [β']) ?_ (fun _ _ => trivial)
    · intro j hj; left; constructor
      · simp [St.ent, entL, St.setE, St.set, look_cons, Ne.symm hj]
      · simp [β', hj]
    · intro j hj hheld hb
      have : (S.ent j).held = true := by simpa [St.ent, entL, St.setE, St.set, look_cons, Ne.symm hj] using hheld
      have := hr.h.held_lt this hb
      omega
    · simp only [St.ent, entL, St.setE, St.set, look_cons, if_true]
      exact ⟨vs, [], by rw [List.append_nil]; exact heap_alloc_new _ _, fun o => .inl rfl, RdL.mono hle hβ hv⟩
  · intro s
    have hts : t < a.tmps.size := hr.n ▸ ht
    by_cases hst : t = s
    · subst hst
      simp only [Act.put, St.get, St.set, look_cons, if_true, Array.getD_eq_getD_getElem?, Array.getElem?_setIfInBounds_self, hts, Option.getD_some]
      exact .vsl _ _ _ _ _ _ n E.w.heap.size 0 (by simp [β']) (Nat.le_refl _) (Nat.le_refl _) hsp ⟨fun _ => rfl, Nat.le_refl _⟩ _ _ _ (heap_alloc_new E.w _) (by simp [hv.length, hlen]) hmax
    · have := Rd.mono hle hβ (hr.sl s)
      simpa [Act.put, St.get, St.set, St.setE, look_cons, hst, Array.getElem?_setIfInBounds_ne] using this

theorem iop_buildSlice_v {T e : TypeId} {len esz eb : Nat} {ez : Value} {ps : List (Nat × Operand)} {dps : List (Nat × D)} {ds : List D} (id : Nat) (ho : o.op = .buildSlice T len ps.toArray) (hd : o.dst = some t) (ht : t < N)
    (hu : P.underlying T = some (.slice e)) (he : TI P e (some ez) esz eb) (hsp : 0 < esz) (hf : S.ent id = .fresh) (hx : PVs S ps dps)
    (hfill : fillD (fun i => some (i * esz, esz)) (List.replicate (len * esz) .dead) dps = some ds) (hl : ds.length = len * esz) (hb : len * esz ≤ 2 ^ 24) :
    IOp P O N o S ((S.setE id (.blk e ds)).set t (.vsl id esz 0 len len)) := by
  refine iop_newvsl id hd ht hf hl hsp (by have : len ≤ len * esz := Nat.le_mul_of_pos_right _ hsp; simp only [maxLen]; omega) fun E β a hr => ?_
  obtain ⟨i, h1, h2, h3, _⟩ := he.at
  let init : Array Value := (Array.range (len * esz)).map fun k => (if len * esz = 0 then #[] else ez.cells)[k % (if len * esz = 0 then #[] else ez.cells).size]!
  have hinit : RdL E β init.toList (List.replicate (len * esz) .dead) := by
    have := rdl_dead E β init.toList
    rwa [show init.toList.length = len * esz by simp [init]] at this
  obtain ⟨cells, h4, h5⟩ := fill_rd hr hx hinit hfill
  have hcl : cells.size = len * esz := by have := h5.length; rw [hl] at this; simpa using this
  refine ⟨cells.toList, ?_, h5⟩
  have hb' : ¬ (2 ^ 24 < len * esz) := by omega
  simp only [execOp, ho, Instr.buildSlice, Sem.run_bind, run_underlying hu, Result.andThen_ok, he.run_size]
  rw [if_neg (by simpa using hb')]
  by_cases h0 : len * esz = 0
  · have h4' := h4
    simp only [init, h0, if_true] at h4' ⊢
    simp at h4'
    simp [h4', newRow]
  · have h4' := h4
    simp only [init, h0, if_false] at h4' ⊢
    simp [zeroValue, typeInfo, h1, h2, h4', newRow]

/-- 'make([]T, n)'. -/
theorem iop_make_v {T e : TypeId} {x : Operand} {k : IntKind} {m : Nat} {z : Value} {sz bytes : Nat} (id : Nat) (ho : o.op = .makeSlice T x x) (hd : o.dst = some t) (ht : t < N)
    (hu : P.underlying T = some (.slice e)) (hi : TI P e (some z) sz bytes) (hz : z.cells.size = sz) (hsp : 0 < sz) (hf : S.ent id = .fresh) (hx : SV S x (.int k (Int.ofNat m))) (hb : bytes * m ≤ 281474976710656) (h63 : m ≤ maxLen) :
    IOp P O N o S ((S.setE id (.blk e (List.replicate m (z.cells.toList.map D.ofScalar)).flatten)).set t (.vsl id sz 0 m m)) := by
  refine iop_newvsl id hd ht hf ?_ hsp h63 fun E β a' hr => ⟨(List.replicate m z.cells.toList).flatten, ?_, ?_⟩
  · rw [List.length_flatten, List.map_replicate, List.sum_replicate_nat]; simp [hz]
  · obtain ⟨i, h1, h2, h3, h4⟩ := hi.at
    have hxv := rd_int (hx.rd hr)
    have := run_make (P := P) E.w T e i z hu h1 h2 k k (m : Int) (m : Int) (by omega) (by omega) (by rw [h4, ← Int.natCast_mul]; omega) (by simp only [maxLen] at h63; omega)
    simp only [Int.toNat_natCast, h3] at this
    rw [← hz, made_flat (by rw [hz]; exact hsp)] at this
    have hxe : Int.ofNat m = (m : Int) := rfl
    simp only [execOp, ho, hxv, hxe, Sem.run_bind, this, Result.andThen_ok, Sem.run_pure]
  · clear hx hb h63
    induction m with
    | zero => exact .nil _
    | succ m ih => rw [List.replicate_succ, List.flatten_cons, List.replicate_succ, List.flatten_cons]; exact (rdl_ofScalar E β _).append ih
/-- 'string(b)' of a view. -/
theorem iop_bytes_vsl {T e e' dst : TypeId} {x : Operand} {id off len room : Nat} {ds : List D} {l : List UInt8} (ho : o.op = .convert T dst x) (hd : o.dst = some t) (ht : t < N) (hu : P.underlying T = some (.slice e)) (he : P.underlying e = some (.int .u8)) (hdst : P.underlying dst = some .string)
    (hx : SV S x (.vsl id 1 off len room)) (hb : S.ent id = .blk e' ds) (hl : (ds.drop off).take len = l.map byteD) (hlen : off + len ≤ ds.length) : IOp P O N o S (S.set t (.str l)) :=
  iop_of hd ht fun E β a hr => by
    refine ⟨.string (bs l), ?_, .str _ _⟩
    obtain ⟨cap, hxr, hlr, hrc⟩ := vsl_rsl (hx.rd hr)
    obtain ⟨b, p, c, e'', f, hev, hβ, hlc, hsz, hp, hp', hcap, hcs, hcm⟩ := rd_rsl hxr
    have hent := hr.h.ent id
    rw [hb] at hent
    obtain ⟨vs, sp, hown, hh, hX, hvs⟩ := blk_at hent hβ
    have hll : l.length = len := by
      have := congrArg List.length hl
      rw [List.length_take, List.length_drop, List.length_map] at this; omega
    by_cases h0 : len = 0
    · subst h0
      have hl0 : l = [] := List.length_eq_zero_iff.1 hll
      subst hl0
      have hz := run_loadCells_list (P := P) E.w ⟨b, p, none⟩ [] (fun j v hj => by simp at hj)
      have := run_convert_bytes_string E.w T dst e (some ⟨b, p, none⟩) 0 cap hu he hdst (P := P)
      simp only [List.length_nil] at hz
      simp [execOp, ho, hev, this, Conv.bytesToString, Sem.run_bind, hz]
      rfl
    · have hpo := hp (by omega)
      subst hpo
      have hvl := hvs.length
      have hv := rdl_bytes (l := l) (by rw [← hl]; exact (hvs.drop p).take len)
      have h1 := run_convert_bytes_arg (P := P) E.w T e hu he b p l.length cap (l.map fun c => (c.toNat : Int)) (by simp) (fun i hi => by
        have hcell : E.w.cell? ⟨b, p + i, none⟩ = some (.int .u8 (l[i]).toNat) := by
          rw [cell_of_row _ _ _ _ _ _ hh]
          have h9 : ((vs.drop p).take len)[i]? = some (.int .u8 (l[i]).toNat) := by rw [hv]; simp [hi]
          rw [List.getElem?_take, if_pos (by omega), List.getElem?_drop] at h9
          have hlt := (List.getElem?_eq_some_iff.1 h9).1
          simpa [List.getElem?_append_left hlt] using h9
        rw [hcell]; simp [List.getD, hi]) dst hdst
      have h2 : strOfNums (l.map fun c => (c.toNat : Int)) = bs l := by
        have : ∀ s t : ByteArray, s.data.toList = t.data.toList → s = t := fun s t h => by
          cases s; cases t; congr; exact Array.toList_inj.1 h
        apply this
        rw [strOfNums_data]
        simp [bs, List.map_map, Function.comp_def]
      rw [h2, hll] at h1
      simp [execOp, ho, hev, h1]
/-- 'copy' onto a view. -/
theorem iop_copy_vsl {T T2 e : TypeId} {x y : Operand} {id sz off len room m : Nat} {e' : TypeId} {ds es ds' : List D} {z : Option Value} {bytes : Nat} {k : Int} (ho : o.op = .call { callee := .builtin .copy, args := #[x, y], argTypes := #[T, T2] }) (hd : o.dst = some t) (ht : t < N)
    (hu : P.underlying T = some (.slice e)) (hi : TI P e z sz bytes) (hx : SV S x (.vsl id sz off len room)) (he : S.ent id = .blk e' ds) (hy : ∀ E β a, Rel O N S E β a → Src E β (a.eval y) m es) (hes : es.length = m * sz) (hone : (es.take (min m len * sz)).all D.one = true)
    (hfit : off + len * sz ≤ ds.length) (hk : ((min m len : Nat) : Int) = k) (hds : splice ds off (es.take (min m len * sz)) = ds') : IOp P O N o S ((S.setE id (.blk e' ds')).set t (.int .i64 k)) :=
  fun E β a hr next Q hn => by
    obtain ⟨cap, hxr, _⟩ := vsl_rsl (hx.rd hr)
    exact copy_core ho hd ht hu hi he hy hes hone hfit hk hds E β a hr hxr next Q hn
end
end Go.IL
set_option linter.unusedVariables false
namespace Go.IL
/-! All operations that make a value. -/
def cellsK {β : Type} (d : D) (q : List D → Option β) : Option β := match d with
  | .agg cs => q cs
  | d => q [d]
theorem cellsK_eq {β : Type} (d : D) (q : List D → Option β) : cellsK d q = q d.cells := by cases d <;> rfl
def faC (P : Program) (T : TypeId) (i : Nat) : Ur := match P.underlying T with
  | some (.struct fs) => match fs[i]? with
    | some F => match P.info? F.type with
      | some fi => match Nat.ble 1 fi.size with
        | true => ⟨fun a q => match a with
          | .ref id off => fcN (Nat.add off F.offset) fun off => q (.ref id off)
          | .fptr cs => fcL (tkF fi.size (cs.drop F.offset)) fun r => q (.fptr r)
          | _ => none⟩
        | false => noU
      | none => noU
    | none => noU
  | _ => noU
section
variable {P : Program} {O : Origin} {N : Nat} {S S' : St} {o : Oper} {t : Nat} {β : Type} {r : β} {a : D} {q : D → Option β}
theorem faC_ok {T : TypeId} {x : Operand} {i : Nat} (h : (faC P T i).run a q = some r) : ∃ d, UOk P (.fieldAddr T x i) x a d ∧ q d = some r := by
  unfold faC at h
  try dsimp only at h
  split at h
  · rename_i fs hu
    try dsimp only at h
    split at h
    · rename_i F hF
      try dsimp only at h
      split at h
      · rename_i fi hfi
        try dsimp only at h
        split at h
        · rename_i h1
          have h1 := Nat.le_of_ble_eq_true h1
          try dsimp only at h
          split at h
          · rw [fcN_eq] at h
            exact ⟨_, fun ho hd ht hx => iop_fieldAddr_ref ho hd ht hu hF (ti_of2 hfi) h1 hx rfl, h⟩
          · rw [fcL_eq, tkF_eq] at h
            exact ⟨_, fun ho hd ht hx => iop_fieldAddr_fptr ho hd ht hu hF (ti_of2 hfi) h1 hx rfl, h⟩
          · cases h
        · cases h
      · cases h
    · cases h
  · cases h
def ixaC (P : Program) (T : TypeId) : Br2 := match P.underlying T with
  | some (.slice e) => match P.info? e with
    | some i => ⟨fun a n q => match a with
      | .slice _ l => nthK n l fun d => cellsK d fun cs => tstb (Nat.beq cs.length i.size) (q (.fptr cs))
      | .vsl id sz off len _ => tstb (Nat.blt n len) (tstb (Nat.beq i.size sz) (fcN (Nat.add off (Nat.mul n sz)) fun m => q (.ref id m)))
      | _ => none⟩
    | none => noB2
  | some (.array len e) => match P.info? e with
    | some i => ⟨fun a n q => match a with
      | .ref id off => tstb (Nat.blt n len) (fcN (Nat.add off (Nat.mul n i.size)) fun m => q (.ref id m))
      | _ => none⟩
    | none => noB2
  | _ => noB2
theorem ixaC_ok {T : TypeId} {x y : Operand} {k : IntKind} {n : Nat} (h : (ixaC P T).run a n q = some r) : ∃ d, (∀ {O : Origin} {N : Nat} {S : St} {o : Oper} {t : Nat}, o.op = .indexAddr T x y → o.dst = some t → t < N → SV S x a → SV S y (.int k (Int.ofNat n)) → IOp P O N o S (S.set t d)) ∧ q d = some r := by
  unfold ixaC at h
  try dsimp only at h
  split at h
  · rename_i e hu
    try dsimp only at h
    split at h
    · rename_i i hi
      simp only at h
      try dsimp only at h
      split at h
      · obtain ⟨d, hl, h⟩ := nthK_e h
        rw [cellsK_eq] at h
        obtain ⟨h1, h⟩ := tstb_e h
        exact ⟨_, fun ho hd ht hx hy => iop_index_slice ho hd ht hu (ti_of2 hi) hx hy (Int.natCast_nonneg _) hl rfl (Nat.eq_of_beq_eq_true h1), h⟩
      · rename_i id sz off len room
        obtain ⟨h1, h⟩ := tstb_e h
        obtain ⟨h2, h⟩ := tstb_e h
        rw [fcN_eq] at h
        have h2 : i.size = sz := Nat.eq_of_beq_eq_true h2
        have hi' := ti_of2 hi
        rw [h2] at hi'
        rw [Nat.blt_eq] at h1
        exact ⟨_, fun ho hd ht hx hy => iop_index_vsl ho hd ht hu hi' hx hy h1, h⟩
      · cases h
    · cases h
  · rename_i len e hu
    try dsimp only at h
    split at h
    · rename_i i hi
      simp only at h
      try dsimp only at h
      split at h
      · obtain ⟨h1, h⟩ := tstb_e h
        rw [fcN_eq] at h
        rw [Nat.blt_eq] at h1
        exact ⟨_, fun ho hd ht hx hy => iop_index_ref ho hd ht hu (ti_of2 hi) hx hy (Int.natCast_nonneg _) (by simpa using h1) rfl, h⟩
      · cases h
    · cases h
  · cases h
/-! Parts of lists and texts. -/
def bdK {β : Type} (x : Option Operand) (z : Nat) (s : Tt D) (q : Nat → Option β) : Option β := match x with
  | none => q z
  | some x => (rdC x).run s fun d => natK d q
theorem iop_slice_nil0 {T e : TypeId} {x : Operand} {lo hi : Option Operand} {z : Option Value} {size bytes : Nat} (ho : o.op = .slice T x lo hi none) (hd : o.dst = some t) (ht : t < N)
    (hu : P.underlying T = some (.slice e)) (hi' : TI P e z size bytes) (hx : SV S x .nils) (hlo : Bound S 0 lo 0) (hhi : Bound S 0 hi 0) : IOp P O N o S (S.set t .nils) :=
  iop_of hd ht fun E β a hr => by
    have h1 := hx.rd hr
    generalize hv : a.eval x = v at h1
    cases h1
    have hb := run_bounds (P := P) (len := 0) hr (isS := true) hlo hhi (Int.le_refl 0) (Int.le_refl 0) (Int.le_refl 0) (Nat.le_refl 0)
    refine ⟨.slice none 0 0, ?_, .nils _⟩
    simp [execOp, ho, hv, Instr.sliceAt, Instr.slice, run_underlying hu, hb, hi'.run_size]
theorem iop_slice_arr {O : Origin} {S : St} {T e e' : TypeId} {x : Operand} {id off sz n : Nat} {ds : List D} {z : Option Value} {bytes : Nat} (ho : o.op = .slice T x none none none) (hd : o.dst = some t) (ht : t < N) (hu : P.underlying T = some (.array n e)) (hi' : TI P e z sz bytes)
    (hx : SV S x (.ref id off)) (he : S.ent id = .blk e' ds) (hl : off + n * sz ≤ ds.length) (hs : 0 < sz) (hm : n ≤ maxLen) : IOp P O N o S (S.set t (.vsl id sz off n n)) :=
  iop_of hd ht fun E β a hr => by
    have h1 := hx.rd hr
    generalize hv : a.eval x = v at h1
    cases h1 with
    | ref _ _ b hb hb' =>
      have hent := hr.h.ent id
      rw [he] at hent
      obtain ⟨vs, sp, hown, hh, hX, hvs⟩ := blk_at hent hb'
      have hvl := hvs.length
      refine ⟨.slice (some ⟨_, _, none⟩) n n, ?_, .vsl _ _ _ _ _ _ n _ _ hb' (Nat.le_refl _) (Nat.le_refl _) hs ⟨fun _ => rfl, Nat.le_refl _⟩ _ _ _ hh (by simp; omega) hm⟩
      simp [execOp, ho, hv, Instr.sliceAt, run_underlying hu, Instr.sliceBounds, hi'.run_size, Instr.sureAddr, asAddr, add_none]
def slC (P : Program) (T : TypeId) (x : Operand) (lo hi : Option Operand) : Vr := match P.underlying T with
  | some .string => ⟨fun X q => (rdC x).run X.sl fun a => match a with
    | .str l => bdK lo 0 X.sl fun m => fcN l.length fun len => bdK hi len X.sl fun n => tstb (Nat.ble m n) (tstb (Nat.ble n len) (fcL ((tkF n l).drop m) fun r => q (.str r)))
    | _ => none⟩
  | some (.slice e) => match P.info? e with
    | some i => ⟨fun X q => (rdC x).run X.sl fun a => match a with
      | .slice _ l => bdK lo 0 X.sl fun m => fcN l.length fun len => bdK hi len X.sl fun n => tstb (Nat.ble m n) (tstb (Nat.ble n len) (tstb (l.all fun d => Nat.beq d.cells.length i.size) (fcL ((tkF n l).drop m) fun r => q (.slice false r))))
      | .nils => bdK lo 0 X.sl fun m => bdK hi 0 X.sl fun n => tstb (Nat.beq m 0) (tstb (Nat.beq n 0) (q .nils))
      | .vsl id sz off len room => bdK lo 0 X.sl fun m => bdK hi len X.sl fun n => tstb (Nat.ble m n) (tstb (Nat.ble n room) (tstb (Nat.beq i.size sz) (fcN (Nat.add off (Nat.mul m sz)) fun off => fcN (Nat.sub n m) fun len => fcN (Nat.sub room m) fun room => q (.vsl id sz off len room))))
      | _ => none⟩
    | none => noV
  | some (.array n e) => match P.info? e with
    | some i => match lo with
      | none => match hi with
        | none => match Nat.ble n maxLen with
          | true => match Nat.ble 1 i.size with
            | true => ⟨fun X q => (rdC x).run X.sl fun a => match a with
              | .ref id off => blkK X id fun _ m _ => tstb (Nat.ble (Nat.add off (Nat.mul n i.size)) m) (q (.vsl id i.size off n n))
              | _ => none⟩
            | false => noV
          | false => noV
        | some _ => noV
      | some _ => noV
    | none => noV
  | _ => noV
theorem slC_ok {X : XS} {T : TypeId} {x : Operand} {lo hi : Option Operand} (ho : o.op = .slice T x lo hi none) (hd : o.dst = some t) (ht : t < N) (h : (slC P T x lo hi).run X q = some r) : ∃ d, (∀ O S L, SubX O X S L → IOp P O N o S (S.set t d)) ∧ q d = some r := by
  have bd : ∀ {γ : Type} {s : γ} {y : Option Operand} {z : Nat} {q : Nat → Option γ}, bdK y z X.sl q = some s → ∃ n : Nat, (∀ O S L, SubX O X S L → Bound S (z : Int) y n) ∧ q n = some s := by
    intro γ s y z q h
    cases y with
    | none => exact ⟨z, fun _ _ _ _ => rfl, h⟩
    | some y =>
      simp only [bdK, rdC_eq] at h
      obtain ⟨k, m, hd, hq⟩ := natK_e h
      exact ⟨m, fun O S L hs => ⟨k, hd ▸ hs.sv y⟩, hq⟩
  unfold slC at h
  try dsimp only at h
  split at h
  · rename_i hu
    simp only [rdC_eq] at h
    try dsimp only at h
    split at h
    · rename_i l hx
      obtain ⟨m, hm, h⟩ := bd h
      rw [fcN_eq] at h
      obtain ⟨n, hn, h⟩ := bd h
      obtain ⟨h1, h⟩ := tstb_e h
      obtain ⟨h2, h⟩ := tstb_e h
      have h1 := Nat.le_of_ble_eq_true h1
      have h2 := Nat.le_of_ble_eq_true h2
      rw [fcL_eq, tkF_eq] at h
      exact ⟨_, fun O S L hs => iop_slice_str ho hd ht hu (hx ▸ hs.sv x) (hm O S L hs) (hn O S L hs) (Int.natCast_nonneg _) (by omega) (by omega) rfl, h⟩
    · cases h
  · rename_i e hu
    try dsimp only at h
    split at h
    · rename_i i hi'
      simp only [rdC_eq] at h
      try dsimp only at h
      split at h
      · rename_i f l hx
        obtain ⟨m, hm, h⟩ := bd h
        rw [fcN_eq] at h
        obtain ⟨n, hn, h⟩ := bd h
        obtain ⟨h1, h⟩ := tstb_e h
        obtain ⟨h2, h⟩ := tstb_e h
        obtain ⟨h3, h⟩ := tstb_e h
        have h1 := Nat.le_of_ble_eq_true h1
        have h2 := Nat.le_of_ble_eq_true h2
        rw [fcL_eq, tkF_eq] at h
        exact ⟨_, fun O S L hs => iop_slice_slice ho hd ht hu (ti_of2 hi') (hx ▸ hs.sv x) (fun d hdm => Nat.eq_of_beq_eq_true (List.all_eq_true.1 h3 d hdm)) (hm O S L hs) (hn O S L hs) (Int.natCast_nonneg _) (by omega) (by omega) rfl, h⟩
      · rename_i hx
        obtain ⟨m, hm, h⟩ := bd h
        obtain ⟨n, hn, h⟩ := bd h
        obtain ⟨h1, h⟩ := tstb_e h
        obtain ⟨h2, h⟩ := tstb_e h
        have h1 := Nat.eq_of_beq_eq_true h1
        have h2 := Nat.eq_of_beq_eq_true h2
        subst h1; subst h2
        exact ⟨_, fun O S L hs => iop_slice_nil0 ho hd ht hu (ti_of2 hi') (hx ▸ hs.sv x) (hm O S L hs) (hn O S L hs), h⟩
      · rename_i id sz off len room hx
        obtain ⟨m, hm, h⟩ := bd h
        obtain ⟨n, hn, h⟩ := bd h
        obtain ⟨h1, h⟩ := tstb_e h
        obtain ⟨h2, h⟩ := tstb_e h
        obtain ⟨h3, h9⟩ := tstb_e h
        have h3 : i.size = sz := Nat.eq_of_beq_eq_true h3
        have hi2 := ti_of2 hi'
        rw [h3] at hi2
        rw [fcN_eq, fcN_eq, fcN_eq] at h9
        exact ⟨_, fun O S L hs => iop_slice_vsl ho hd ht hu hi2 (hx ▸ hs.sv x) (hm O S L hs) (hn O S L hs) (.inl ⟨rfl, rfl⟩) (Nat.le_of_ble_eq_true h1) (Nat.le_of_ble_eq_true h2) (Nat.le_refl _), h9⟩
      · cases h
    · cases h
  · rename_i n e hu
    split at h
    · rename_i i hi'
      split at h
      · split at h
        · split at h
          · rename_i hm
            split at h
            · rename_i h1
              simp only [rdC_eq] at h
              split at h
              · rename_i id off hx
                obtain ⟨e', m, c, hb, h⟩ := blkK_e h
                obtain ⟨h2, h⟩ := tstb_e h
                exact ⟨_, fun O S L hs => iop_slice_arr ho hd ht hu (ti_of2 hi') (hx ▸ hs.sv x) (hs.blk hb) (by rw [cellsT_length]; exact Nat.le_of_ble_eq_true h2) (Nat.le_of_ble_eq_true h1) (Nat.le_of_ble_eq_true hm), h⟩
              · cases h
            · cases h
          · cases h
        · cases h
      · cases h
    · cases h
  · cases h
theorem iop_slice_nil3 {O : Origin} {S : St} {T e : TypeId} {x hi mx : Operand} {lo : Option Operand} {z : Option Value} {size bytes : Nat} (ho : o.op = .slice T x lo (some hi) (some mx)) (hd : o.dst = some t) (ht : t < N)
    (hu : P.underlying T = some (.slice e)) (hi' : TI P e z size bytes) (hx : SV S x .nils) (hlo : Bound S 0 lo 0) (hhi : Bound S 0 (some hi) 0) (hmx : Bound S 0 (some mx) 0) : IOp P O N o S (S.set t .nils) :=
  iop_of hd ht fun E β a hr => by
    have h1 := hx.rd hr
    generalize hv : a.eval x = v at h1
    cases h1
    have hb := run_bounds3 (P := P) (len := 0) (cap := 0) hr (l := 0) (h := 0) (m := 0) hlo hhi hmx (fun _ => rfl) (Int.le_refl 0) (Int.le_refl 0) (Int.le_refl 0) (Int.le_refl 0)
    refine ⟨.slice none 0 0, ?_, .nils _⟩
    simp only [Option.map_some] at hb
    simp [execOp, ho, hv, Instr.sliceAt, Instr.slice, run_underlying hu, hb, hi'.run_size]
/-- The same, where room is told. -/
def sl3C (P : Program) (T : TypeId) (x : Operand) (lo : Option Operand) (hi mx : Operand) : Vr := match P.underlying T with
  | some (.slice e) => match P.info? e with
    | some i => ⟨fun X q => (rdC x).run X.sl fun a => match a with
      | .vsl id sz off len room => bdK lo 0 X.sl fun m => (rdC hi).run X.sl fun d => natK d fun n => (rdC mx).run X.sl fun d => natK d fun k => tstb (Nat.ble m n) (tstb (Nat.ble n k) (tstb (Nat.ble k room) (tstb (Nat.beq i.size sz) (fcN (Nat.add off (Nat.mul m sz)) fun off => fcN (Nat.sub n m) fun len => fcN (Nat.sub k m) fun room => q (.vsl id sz off len room)))))
      | .nils => bdK lo 0 X.sl fun m => (rdC hi).run X.sl fun d => natK d fun n => (rdC mx).run X.sl fun d => natK d fun k => tstb (Nat.beq m 0) (tstb (Nat.beq n 0) (tstb (Nat.beq k 0) (q .nils)))
      | _ => none⟩
    | none => noV
  | _ => noV
theorem sl3C_ok {X : XS} {T : TypeId} {x : Operand} {lo : Option Operand} {hi mx : Operand} (ho : o.op = .slice T x lo (some hi) (some mx)) (hd : o.dst = some t) (ht : t < N) (h : (sl3C P T x lo hi mx).run X q = some r) : ∃ d, (∀ O S L, SubX O X S L → IOp P O N o S (S.set t d)) ∧ q d = some r := by
  have bd : ∀ {γ : Type} {s : γ} {y : Option Operand} {z : Nat} {q : Nat → Option γ}, bdK y z X.sl q = some s → ∃ n : Nat, (∀ O S L, SubX O X S L → Bound S (z : Int) y n) ∧ q n = some s := by
    intro γ s y z q h
    cases y with
    | none => exact ⟨z, fun _ _ _ _ => rfl, h⟩
    | some y =>
      simp only [bdK, rdC_eq] at h
      obtain ⟨k, m, hd, hq⟩ := natK_e h
      exact ⟨m, fun O S L hs => ⟨k, hd ▸ hs.sv y⟩, hq⟩
  unfold sl3C at h
  split at h
  · rename_i e hu
    split at h
    · rename_i i hi'
      simp only [rdC_eq] at h
      split at h
      · rename_i id sz off len room hx
        obtain ⟨m, hm, h⟩ := bd h
        obtain ⟨k1, n, hn, h⟩ := natK_e h
        obtain ⟨k2, k, hk, h⟩ := natK_e h
        obtain ⟨h1, h⟩ := tstb_e h
        obtain ⟨h2, h⟩ := tstb_e h
        obtain ⟨h4, h⟩ := tstb_e h
        obtain ⟨h3, h9⟩ := tstb_e h
        have h3 : i.size = sz := Nat.eq_of_beq_eq_true h3
        have hi2 := ti_of2 hi'
        rw [h3] at hi2
        rw [fcN_eq, fcN_eq, fcN_eq] at h9
        exact ⟨_, fun O S L hs => iop_slice_vsl ho hd ht hu hi2 (hx ▸ hs.sv x) (hm O S L hs) ⟨k1, hn ▸ hs.sv hi⟩ (.inr ⟨⟨k2, hk ▸ hs.sv mx⟩, rfl, rfl⟩) (Nat.le_of_ble_eq_true h1) (Nat.le_of_ble_eq_true h2) (Nat.le_of_ble_eq_true h4), h9⟩
      · rename_i hx
        obtain ⟨m, hm, h⟩ := bd h
        obtain ⟨k1, n, hn, h⟩ := natK_e h
        obtain ⟨k2, k, hk, h⟩ := natK_e h
        obtain ⟨h1, h⟩ := tstb_e h
        obtain ⟨h2, h⟩ := tstb_e h
        obtain ⟨h4, h⟩ := tstb_e h
        have h1 := Nat.eq_of_beq_eq_true h1
        have h2 := Nat.eq_of_beq_eq_true h2
        have h4 := Nat.eq_of_beq_eq_true h4
        subst h1; subst h2; subst h4
        exact ⟨_, fun O S L hs => iop_slice_nil3 ho hd ht hu (ti_of2 hi') (hx ▸ hs.sv x) (hm O S L hs) ⟨k1, hn ▸ hs.sv hi⟩ ⟨k2, hk ▸ hs.sv mx⟩, h⟩
      · cases h
    · cases h
  · cases h
/-! Values out of parts. -/
def spF : List D → Nat → List D → List D
  | l, 0, new => apF new (l.drop new.length)
  | [], _ + 1, _ => []
  | a :: l, n + 1, new => fcL (spF l n new) fun r => a :: r
theorem spF_eq : ∀ (l : List D) (off : Nat) (new : List D), off ≤ l.length → spF l off new = splice l off new
  | l, 0, new, _ => by cases l <;> simp [spF, apF_eq, splice]
  | [], n + 1, new, h => by simp at h
  | a :: l, n + 1, new, h => by
    rw [spF, fcL_eq, spF_eq l n new (by simpa using h)]
    simp only [splice, List.take_succ_cons, List.cons_append, show n + 1 + new.length = (n + new.length) + 1 by omega, List.drop_succ_cons]
def fillK {β : Type} (pl : Nat → Option (Nat × Nat)) : List (Nat × D) → List D → (List D → Option β) → Option β
  | [], cs, q => q cs
  | (i, d) :: ps, cs, q => match pl i with
    | some (off, size) => tstb d.boxable (cellsK d fun es => tstb (Nat.beq es.length size) (tstb (Nat.ble (Nat.add off size) cs.length) (fcL (spF cs off es) fun cs => fillK pl ps cs q)))
    | none => none
theorem fillK_e {β : Type} {r : β} {pl : Nat → Option (Nat × Nat)} : ∀ {ps : List (Nat × D)} {cs : List D} {q : List D → Option β}, fillK pl ps cs q = some r → ∃ cs', fillD pl cs ps = some cs' ∧ q cs' = some r
  | [], cs, q, h => ⟨cs, rfl, h⟩
  | (i, d) :: ps, cs, q, h => by
    simp only [fillK] at h
    try dsimp only at h
    split at h
    · rename_i off size hp
      obtain ⟨h1, h⟩ := tstb_e h
      rw [cellsK_eq] at h
      obtain ⟨h2, h⟩ := tstb_e h
      obtain ⟨h3, h⟩ := tstb_e h
      have h2 := Nat.eq_of_beq_eq_true h2
      have h3 : off + size ≤ cs.length := Nat.le_of_ble_eq_true h3
      rw [fcL_eq, spF_eq _ _ _ (by omega)] at h
      obtain ⟨cs', h4, h5⟩ := fillK_e h
      refine ⟨cs', ?_, h5⟩
      simp only [fillD, hp]
      rw [if_neg (by simp [h1, h2]; omega)]
      exact h4
    · cases h
def plC (P : Program) : List Field → Option (List (Nat × Nat))
  | [] => some []
  | f :: r => match P.info? f.type with
    | some i => match plC P r with
      | some l => some ((f.offset, i.size) :: l)
      | none => none
    | none => none
theorem plC_run : ∀ {fs : List Field} {l : List (Nat × Nat)}, plC P fs = some l → fs.mapM (fun f => (P.info? f.type).map fun i => (f.offset, i.size)) = some l
  | [], l, h => by simp only [plC, Option.some.injEq] at h; subst h; rfl
  | f :: r, l, h => by
    simp only [plC] at h
    try dsimp only at h
    split at h
    · rename_i i hi
      try dsimp only at h
      split at h
      · rename_i l' hl'
        cases h
        simp [List.mapM_cons, hi, plC_run hl']
      · cases h
    · cases h
def nthO {α : Type} : Nat → List α → Option α
  | _, [] => none
  | n, a :: l => match n with
    | 0 => some a
    | m + 1 => nthO m l
theorem nthO_eq {α : Type} : ∀ (n : Nat) (l : List α), nthO n l = l[n]?
  | _, [] => by simp [nthO]
  | 0, a :: l => rfl
  | n + 1, a :: l => by simp [nthO, nthO_eq n l]
/-- The cells that a type's variables have at first. -/
def zrC (P : Program) (T : TypeId) : Option (List D) := match P.info? T with
  | some i => match i.zero with
    | some z => match (D.ofVal z).boxable with
      | true => some (D.ofVal z).cells
      | false => none
    | none => none
  | none => none
theorem zrC_e {T : TypeId} {cs : List D} (h : zrC P T = some cs) : ∃ z s b, TI P T (some z) s b ∧ (D.ofVal z).boxable = true ∧ (D.ofVal z).cells = cs := by
  unfold zrC at h
  try dsimp only at h
  split at h
  · rename_i i hi
    try dsimp only at h
    split at h
    · rename_i z hz
      try dsimp only at h
      split at h
      · rename_i h1
        cases h
        exact ⟨z, _, _, hz ▸ ti_of2 hi, h1, rfl⟩
      · cases h
    · cases h
  · cases h
def bldC (P : Program) (T : TypeId) (ps : List (Nat × Operand)) : Vr := match P.underlying T with
  | some (.struct fs) => match plC P fs.toList with
    | some l => match zrC P T with
      | some z => let p := psC ps; ⟨fun X q => p.run X.sl fun ds => fillK (fun i => nthO i l) ds z fun cs => q (.agg cs)⟩
      | none => noV
    | none => noV
  | some (.array len e) => match P.info? e with
    | some i => match zrC P T with
      | some z => let p := psC ps; ⟨fun X q => p.run X.sl fun ds => fillK (fun k => some (Nat.mul k i.size, i.size)) ds z fun cs => q (.agg cs)⟩
      | none => noV
    | none => noV
  | _ => noV
theorem opPs_ok {X : XS} {L : Nat} (hs : SubX O X S L) : ∀ (ps : List (Nat × Operand)), PVs S ps (opPs X.sl ps)
  | [] => .nil
  | (i, x) :: r => .cons (hs.sv x) (opPs_ok hs r)
theorem opDs_ok {X : XS} {L : Nat} (hs : SubX O X S L) : ∀ (xs : List Operand), SVs S xs (opDs X.sl xs)
  | [] => .nil
  | x :: r => .cons (hs.sv x) (opDs_ok hs r)
theorem bldC_ok {X : XS} {T : TypeId} {ps : Array (Nat × Operand)} (ho : o.op = .build T ps) (hd : o.dst = some t) (ht : t < N) (h : (bldC P T ps.toList).run X q = some r) : ∃ d, (∀ O S L, SubX O X S L → IOp P O N o S (S.set t d)) ∧ q d = some r := by
  unfold bldC at h
  try dsimp only at h
  split at h
  · rename_i fs hu
    try dsimp only at h
    split at h
    · rename_i l hl
      try dsimp only at h
      split at h
      · rename_i z hz
        simp only [psC_eq] at h
        obtain ⟨cs, hf, h9⟩ := fillK_e h
        obtain ⟨z, s, b, h1, h2, rfl⟩ := zrC_e hz
        refine ⟨_, fun O S L hs => ?_, h9⟩
        refine iop_build_struct (places := l.toArray) (ps := ps.toList) (by rw [ho]) hd ht hu h1 (fun w => ?_) h2 (opPs_ok hs _) ?_
        · rw [Array.mapM_eq_mapM_toList, Sem.run_map, run_places (P := P) w fs.toList l (plC_run hl)]; rfl
        · have e : (fun i => nthO i l) = (l.toArray[·]?) := by funext i; rw [nthO_eq]; simp
          rw [← e]; exact hf
      · cases h
    · cases h
  · rename_i len e hu
    try dsimp only at h
    split at h
    · rename_i i hi
      try dsimp only at h
      split at h
      · rename_i z hz
        simp only [psC_eq] at h
        obtain ⟨cs, hf, h9⟩ := fillK_e h
        obtain ⟨z, s, b, h1, h2, rfl⟩ := zrC_e hz
        exact ⟨_, fun O S L hs => iop_build_array (ps := ps.toList) (by rw [ho]) hd ht hu h1 (ti_of2 hi) h2 (opPs_ok hs _) hf, h9⟩
      · cases h
    · cases h
  · cases h
def lnC (P : Program) (T : TypeId) : Ur := match P.underlying T with
  | some .string => ⟨fun a q => match a with
    | .str l => fcN l.length fun n => q (.int .i64 (.ofNat n))
    | _ => none⟩
  | some (.array n _) => ⟨fun _ q => q (.int .i64 (.ofNat n))⟩
  | some (.slice _) => ⟨fun a q => match a with
    | .slice _ l => fcN l.length fun n => q (.int .i64 (.ofNat n))
    | .vsl _ _ _ n _ => q (.int .i64 (.ofNat n))
    | .nils => q (.int .i64 (.ofNat 0))
    | _ => none⟩
  | _ => noU
theorem lnC_ok {T : TypeId} {x : Operand} (h : (lnC P T).run a q = some r) : ∃ d, UOk P (.call { callee := .builtin .len, args := #[x], argTypes := #[T] }) x a d ∧ q d = some r := by
  unfold lnC at h
  try dsimp only at h
  split at h
  · rename_i hu
    try dsimp only at h
    split at h
    · rw [fcN_eq] at h
      exact ⟨_, fun ho hd ht hx => iop_len_str ho hd ht hu hx rfl, h⟩
    · cases h
  · rename_i n _ hu
    exact ⟨_, fun ho hd ht hx => iop_len_array ho hd ht hu rfl, h⟩
  · rename_i hu
    try dsimp only at h
    split at h
    · rw [fcN_eq] at h
      exact ⟨_, fun ho hd ht hx => iop_len_slice ho hd ht hu hx rfl, h⟩
    · exact ⟨_, fun ho hd ht hx => iop_len_vsl ho hd ht hu hx, h⟩
    · refine ⟨_, fun ho hd ht hx => ?_, h⟩
      refine iop_len_slice (f := false) (l := []) ho hd ht hu (fun E β v k => ?_) rfl
      have := hx E β v k
      cases this with
      | nils => exact .nslice _ _
    · cases h
  · cases h
end
end Go.IL
namespace Go.IL
/-! A block in which a great array stands between other cells: the array as a list. -/
section
variable {P : Program} {O : Origin} {N : Nat} {S S' : St} {o : Oper} {t : Nat} {α : Type}
section loads
variable (f : Enc0 α) {T : TypeId} {x : Operand} {u : TypeDesc} {z : Option Value} {size bytes : Nat} {id off : Nat} {e : TypeId} {pre post r cs : List D} {xs : List α} {d : D}
end loads
section stores
variable (f : Enc0 α) {T : TypeId} {x y : Operand} {z : Option Value} {size bytes : Nat} {id off : Nat} {e : TypeId} {pre pre' post post' : List D} {xs zs : List α} {d : D}
end stores
/-! Names in it. -/
theorem SubC.refl : ∀ l : List D, SubC l l
  | [] => .nil
  | _ :: l => .same (SubC.refl l)
theorem SubC.append {l l' m m' : List D} (h : SubC l l') (k : SubC m m') : SubC (l ++ m) (l' ++ m') := by
  induction h with
  | nil => exact k
  | same _ ih => exact .same ih
  | nilg _ ih => exact .nilg ih
  | nilo _ ih => exact .nilo ih
  | nils _ ih => exact .nils ih
  | gsl _ ih => exact .gsl ih
/-! A great array taken whole. -/
section
variable {Q : Exit → St → Prop}
end
/-! A call that is handed memory, and leaves it. -/
end
end Go.IL
namespace Go.IL
section
variable {P : Program} {O : Origin} {N : Nat} {S S' : St} {o : Oper} {t : Nat} {Q : Exit → St → Prop}
/-! Short names. -/
def LA (P : Program) (T : TypeId) (u : TypeDesc) (z : Option Value) (size bytes : Nat) (g : Bool) : Prop := P.underlying T = some u ∧ aggOf P T = g ∧ TI P T z size bytes ∧ 0 < size
theorem LA.mk {T : TypeId} {u : TypeDesc} {z : Option Value} {size bytes : Nat} {g : Bool} (h1 : P.underlying T = some u) (h2 : aggOf P T = g) (h3 : TI P T z size bytes) (h4 : 0 < size) : LA P T u z size bytes g := ⟨h1, h2, h3, h4⟩
theorem AllW.s {ρ : Nat → Nat} {t : Nat} {d : D} {l : List (Nat × D)} (h : S.get t = d.ren ρ) (hr : d.refsIn S'.okn = true) (k : AllW (SlW S S' ρ) l) : AllW (SlW S S' ρ) ((t, d) :: l) := .cons (.same h hr) k
end
theorem SubL.k {d : D} {ds ds' : List D} (t : SubL ds ds') : SubL (d :: ds) (d :: ds') := .cons (.refl d) t
theorem FDL.k {S : St} {d : D} {ds ds' : List D} (t : FDL S ds ds') : FDL S (d :: ds) (d :: ds') := .cons (.refl d) t
theorem SubL.all : ∀ (l : List D), SubL l l
  | [] => .nil
  | d :: l => .cons (.refl d) (SubL.all l)
theorem FDL.all {S : St} (l : List D) : FDL S l l := fdl_refl l
end Go.IL
namespace Go.IL
open RowKit (Below)
section
variable {P : Program} {O : Origin} {N : Nat} {S S' : St} {o : Oper} {t : Nat}
end
end Go.IL
namespace Go.IL
open RowKit (Below)
open Go.MapKept
/-! Maps of whole numbers: made, written, looked at. -/
def mput {V : Type} : List (Int × V) → Int → V → List (Int × V)
  | [], k, v => [(k, v)]
  | (j, w) :: r, k, v => if j = k then (k, v) :: r else (j, w) :: mput r k v
def mget {V : Type} : List (Int × V) → Int → Option V
  | [], _ => none
  | (j, w) :: r, k => if j = k then some w else mget r k
def mapD {V : Type} (f : V → D) (l : List (Int × V)) : List (Int × D) := l.map fun x => (x.1, f x.2)
theorem mget_D {V : Type} (f : V → D) (k : Int) : ∀ l : List (Int × V), mget (mapD f l) k = (mget l k).map f
  | [] => rfl
  | (j, w) :: r => by
    show mget ((j, f w) :: mapD f r) k = _
    rw [mget, mget]
    by_cases h : j = k
    · rw [if_pos h, if_pos h]; rfl
    · rw [if_neg h, if_neg h, mget_D f k r]
def kI64 (n : Int) : Value := .int .i64 n
theorem same_key (k j : Int) : Instr.sameNow (.int .i64) (kI64 k) (kI64 j) = some (k == j) := by simp [Instr.sameNow, kI64]
theorem find_list {E : Env} {β : Names} {k : Int} {v : Value} {d : D} (hv : Rd E β v d) : ∀ (es : List MapEntry) (l : List (Int × D)) (i : Nat), es.map (·.key) = l.map (fun x => kI64 x.1) → RdL E β (es.map (·.val)) (l.map (·.2)) →
    (Instr.findNow (.int .i64) (kI64 k) es i = some none ∧ mget l k = none ∧ mput l k d = l ++ [(k, d)]) ∨
    ∃ j e x, Instr.findNow (.int .i64) (kI64 k) es i = some (some (i + j, e.val)) ∧ es[j]? = some e ∧ e.key = kI64 k ∧ mget l k = some x ∧ Rd E β e.val x ∧
      (es.modify j fun e => { e with key := kI64 k, val := v }).map (·.key) = (mput l k d).map (fun x => kI64 x.1) ∧ RdL E β ((es.modify j fun e => { e with key := kI64 k, val := v }).map (·.val)) ((mput l k d).map (·.2))
  | [], [], _, _, _ => .inl ⟨rfl, rfl, rfl⟩
  | [], _ :: _, _, h, _ => by cases h
  | _ :: _, [], _, h, _ => by cases h
  | e :: es, (j, x) :: l, i, h, hr => by
    simp only [List.map_cons, List.cons.injEq] at h
    obtain ⟨h1, h2⟩ := h
    simp only [List.map_cons] at hr
    cases hr with
    | cons hx hr =>
      by_cases hk : j = k
      · refine .inr ⟨0, e, x, ?_, rfl, by rw [h1, hk], by rw [mget, if_pos hk], hx, ?_, ?_⟩
        · unfold Instr.findNow
          rw [h1, same_key, hk]; simp
        · rw [mput, if_pos hk]
          simp [h2]
        · rw [mput, if_pos hk]
          simpa using RdL.cons hv hr
      · have hkb : (k == j) = false := by simpa using fun e => hk e.symm
        rcases find_list hv es l (i + 1) h2 hr with ⟨g1, g2, g3⟩ | ⟨m, e', x', g1, g2, g3, g4, g5, g6, g7⟩
        · refine .inl ⟨?_, by rw [mget, if_neg hk, g2], by rw [mput, if_neg hk, g3]; rfl⟩
          unfold Instr.findNow
          rw [h1, same_key, hkb]; exact g1
        · refine .inr ⟨m + 1, e', x', ?_, by simpa using g2, g3, by rw [mget, if_neg hk, g4], g5, ?_, ?_⟩
          · unfold Instr.findNow
            rw [h1, same_key, hkb]
            show Instr.findNow _ _ es (i + 1) = _
            rw [g1]; congr 3; omega
          · rw [mput, if_neg hk]
            simp only [List.modify_succ_cons, List.map_cons, h1, g6]
          · rw [mput, if_neg hk]
            simp only [List.modify_succ_cons, List.map_cons]
            exact .cons hx g7
section
variable {P : Program} {O : Origin} {N : Nat} {S S' : St} {o : Oper} {t : Nat}
def Ent.mpD (l : List (Int × D)) : Ent := .mp (l.map (·.1)) (l.map (·.2))
theorem iop_mkmap {T : TypeId} (id : Nat) (ho : o.op = .makeMap T none) (hd : o.dst = some t) (ht : t < N) (hf : S.ent id = .fresh) : IOp P O N o S ((S.setE id (.mpD [])).set t (.mref id)) := by
  intro E β a hr next Q hn
  have hrun : (execOp a.eval o).run P E.w = .ok (.value (.map (some E.w.heap.size))) (E.w.alloc (.map #[] 0)) := by
    simp [execOp, ho, Instr.makeMap, Sem.run_bind, Sem.run_pure]
  unfold Oper.wp
  rw [hrun]
  simp only [Oper.upon, hd]
  have hfr : β id = none := by have := hr.h.ent id; rw [hf] at this; exact this
  let E' : Env := ⟨E.w.alloc (.map #[] 0), fun b o => b = E.w.heap.size ∨ E.X b o⟩
  let β' : Names := fun j => if j = id then some E.w.heap.size else β j
  have hβ : β.le β' := fun j b hj => by
    by_cases hji : j = id
    · subst hji; rw [hfr] at hj; cases hj
    · simp [β', hji, hj]
  have hs : Step O E E' E.w.heap.size :=
    ⟨rfl, rfl, rfl, by simp [E'], by simp [E'], .inl hr.h.size, fun k hk _ => heap_alloc_old _ _ hk, fun k o hk => by simp [E', hk], fun _ h => Nat.lt_irrefl _ (heap_lt h)⟩
  have hle : E.le E' := hs.le (fun o v h1 _ => by have := World.block_lt_of_cell? _ _ h1; simp at this) (fun c e f h1 => by have := heap_lt h1; simp at this)
  refine hn E' β' _ ⟨by simp [Act.put, hr.n], hr.nd.step hs, ?_, ?_⟩
  · refine HOk.put hr.h hs hle hβ ?_ ?_ (id := id) (by simp [β']) ?_ (fun _ _ => trivial)
    · intro j hj; left; constructor
      · simp [St.ent, entL, St.setE, St.set, look_cons, Ne.symm hj]
      · simp [β', hj]
    · intro j hj hheld hb
      have : (S.ent j).held = true := by simpa [St.ent, entL, St.setE, St.set, look_cons, Ne.symm hj] using hheld
      exact Nat.lt_irrefl _ (hr.h.lt this hb)
    · simp only [St.ent, entL, St.setE, St.set, look_cons, if_true]
      exact ⟨#[], 0, heap_alloc_new _ _, fun o => .inl rfl, rfl, .nil _⟩
  · intro s
    have hts : t < a.tmps.size := hr.n ▸ ht
    by_cases hst : t = s
    · subst hst
      simp only [Act.put, St.get, St.set, look_cons, if_true, Array.getD_eq_getD_getElem?, Array.getElem?_setIfInBounds_self, hts, Option.getD_some]
      exact .mref _ _ _ (by simp [β'])
    · have := Rd.mono hle hβ (hr.sl s)
      simpa [Act.put, St.get, St.set, St.setE, look_cons, hst, Array.getElem?_setIfInBounds_ne] using this
theorem mp_at {E : Env} {β : Names} {id b : Nat} {l : List (Int × D)} (h : EntAt O E β id (.mpD l)) (hb : β id = some b) :
    ∃ es cl, O.own b ∧ E.w.heap[b]? = some (.map es cl) ∧ (∀ o, E.X b o) ∧ es.toList.map (·.key) = l.map (fun x => kI64 x.1) ∧ RdL E β (es.toList.map (·.val)) (l.map (·.2)) := by
  obtain ⟨b', es, cl, h1, h2, h3, h4, h5, h6⟩ := h
  rw [hb] at h1; cases h1
  exact ⟨es, cl, h2, h3, h4, by rw [h5, List.map_map]; rfl, h6⟩
theorem rd_mref {E : Env} {β : Names} {v : Value} {id : Nat} (h : Rd E β v (.mref id)) : ∃ b, β id = some b ∧ v = .map (some b) := by
  cases h with | mref _ _ b h => exact ⟨b, h, rfl⟩
theorem iop_mapput' {T kt et : TypeId} {x k v : Operand} {id : Nat} {l : List (Int × D)} {n : Int} {d : D} (ho : o.op = .mapUpdate T x k v) (hd : o.dst = none) (hu : P.underlying T = some (.map kt et)) (hk : P.underlying kt = some (.int .i64))
    (hx : SV S x (.mref id)) (he : S.ent id = .mpD l) (hn : SV S k (.int .i64 n)) (hv : SV S v d) : IOp P O N o S (S.setE id (.mpD (mput l n d))) := by
  intro E β a hr next Q hn'
  obtain ⟨b, hb, hev⟩ := rd_mref (hx.rd hr)
  have hent := hr.h.ent id
  rw [he] at hent
  obtain ⟨es, cl, hown, hh, hX, h1, h2⟩ := mp_at hent hb
  have hkv := rd_int (hn.rd hr)
  have hkey : IsKey (.int .i64) (.int .i64 n) := rfl
  obtain ⟨es', cl', hrun, h3, h4⟩ : ∃ es' cl', (execOp a.eval o).run P E.w = .ok .skip { E.w with heap := E.w.heap.setIfInBounds b (.map es' cl') } ∧ es'.toList.map (·.key) = (mput l n d).map (fun x => kI64 x.1) ∧ RdL E β (es'.toList.map (·.val)) ((mput l n d).map (·.2)) := by
    rcases find_list (k := n) (hv.rd hr) es.toList l 0 h1 h2 with ⟨g1, g2, g3⟩ | ⟨m, e', x', g1, g2, g3, g4, g5, g6, g7⟩
    · have g1' : Instr.findNow (.int .i64) (.int .i64 n) es.toList 0 = some none := g1
      refine ⟨es.push { key := kI64 n, val := a.eval v, born := cl }, cl + 1, ?_, ?_, ?_⟩
      · simp [execOp, ho, hev, hkv, Instr.mapUpdate, run_underlying hu, Go.MapKept.run_getObj_map hh, Go.MapKept.run_checkKey hk hkey, Go.MapKept.run_findKey hk g1', Go.MapKept.run_setObj_map _ hh, Result.andThen, kI64]
      · rw [g3]; simp [h1]
      · rw [g3]
        simp only [Array.toList_push, List.map_append, List.map_cons, List.map_nil]
        exact h2.append (.cons (hv.rd hr) (.nil _))
    · have hj : es[m]? = some e' := by simpa using g2
      refine ⟨es.modify m fun e => { e with key := kI64 n, val := a.eval v }, cl, ?_, ?_, ?_⟩
      · have g1' : Instr.findNow (.int .i64) (.int .i64 n) es.toList 0 = some (some (m, e'.val)) := by rw [Nat.zero_add] at g1; exact g1
        simp [execOp, ho, hev, hkv, Instr.mapUpdate, run_underlying hu, Go.MapKept.run_getObj_map hh, Go.MapKept.run_checkKey hk hkey, Go.MapKept.run_findKey hk g1', hj, g3, kI64, run_keyThatStays hkey, Go.MapKept.run_setObj_map _ hh, Result.andThen]
      · rw [Array.toList_modify]; exact g6
      · rw [Array.toList_modify]; exact g7
  unfold Oper.wp
  rw [hrun]
  simp only [Oper.upon, hd, Act.put]
  let E' : Env := ⟨{ E.w with heap := E.w.heap.setIfInBounds b (.map es' cl') }, E.X⟩
  have hset := heap_set (o' := .map es' cl') hh
  have hs : Step O E E' b := ⟨rfl, rfl, rfl, by simp [E'], by simpa [E'] using heap_lt hh, hown, fun k _ hk => hset.2 k hk, fun _ _ _ => Iff.rfl, fun _ h => by rw [hh] at h; cases h⟩
  have hle : E.le E' := hs.le (fun o v _ h2 => absurd (hX o) h2) (fun c e' f h3 => by rw [hh] at h3; cases h3)
  refine hn' E' β a ⟨hr.n, hr.nd.step hs, ?_, fun s => Rd.mono hle (Names.le.refl _) (hr.sl s)⟩
  refine HOk.put hr.h hs hle (Names.le.refl _) ?_ ?_ hb ?_ (fun _ _ => trivial)
  · intro j hj; left; exact ⟨by simp [St.ent, entL, St.setE, look_cons, Ne.symm hj], rfl⟩
  · intro j hj hheld hbj
    have : (S.ent j).held = true := by simpa [St.ent, entL, St.setE, look_cons, Ne.symm hj] using hheld
    exact hj (hr.h.inj j id b this (by rw [he]; rfl) hbj hb)
  · simp only [St.ent, entL, St.setE, look_cons, if_true]
    exact ⟨es', cl', hset.1, hX, by rw [h3, List.map_map]; rfl, RdL.mono hle (Names.le.refl _) h4⟩
/-- 'm[k]': what is there, or nothing's value. -/
theorem iop_mapget {V : Type} (f : V → D) {T kt et : TypeId} {x k : Operand} {id : Nat} {l : List (Int × V)} {n : Int} {z : Value} {size bytes : Nat} {v0 r : V} (ho : o.op = .lookup T x k false) (hd : o.dst = some t) (ht : t < N) (hu : P.underlying T = some (.map kt et)) (hk : P.underlying kt = some (.int .i64)) (hz : TI P et (some z) size bytes)
    (hx : SV S x (.mref id)) (he : S.ent id = .mpD (mapD f l)) (hn : SV S k (.int .i64 n)) (h0 : ∀ E β, Rd E β z (f v0)) (hr : (mget l n).getD v0 = r) : IOp P O N o S (S.set t (f r)) :=
  iop_of hd ht fun E β a hrel => by
    obtain ⟨b, hb, hev⟩ := rd_mref (hx.rd hrel)
    have hent := hrel.h.ent id
    rw [he] at hent
    obtain ⟨es, cl, hown, hh, hX, h1, h2⟩ := mp_at hent hb
    have hkv := rd_int (hn.rd hrel)
    have hkey : IsKey (.int .i64) (.int .i64 n) := rfl
    obtain ⟨i, hi, hzi, _⟩ := hz.at
    rcases find_list (k := n) (v := .bool true) (.bool β true) es.toList (mapD f l) 0 h1 h2 with ⟨g1, g2, g3⟩ | ⟨m, e', x', g1, g2, g3, g4, g5, _, _⟩
    · have g1' : Instr.findNow (.int .i64) (.int .i64 n) es.toList 0 = some none := g1
      refine ⟨z, ?_, ?_⟩
      · simp [execOp, ho, hev, hkv, Instr.lookup, run_underlying hu, Go.MapKept.run_getObj_map hh, Go.MapKept.run_checkKey hk hkey, Go.MapKept.run_findKey hk g1', zeroValue, typeInfo, hi, hzi, Result.andThen]
      · rw [mget_D] at g2
        have : mget l n = none := by cases hm : mget l n with | none => rfl | some _ => rw [hm] at g2; cases g2
        rw [← hr, this]; exact h0 E β
    · have g1' : Instr.findNow (.int .i64) (.int .i64 n) es.toList 0 = some (some (m, e'.val)) := by rw [Nat.zero_add] at g1; exact g1
      refine ⟨e'.val, ?_, ?_⟩
      · simp [execOp, ho, hev, hkv, Instr.lookup, run_underlying hu, Go.MapKept.run_getObj_map hh, Go.MapKept.run_checkKey hk hkey, Go.MapKept.run_findKey hk g1', Result.andThen]
      · rw [mget_D] at g4
        obtain ⟨y, hy, rfl⟩ := Option.map_eq_some_iff.1 g4
        rw [← hr, hy]; exact g5
/-- 'm[k]', with whether it is there. -/
theorem iop_mapget2 {V : Type} (f : V → D) {T kt et : TypeId} {x k : Operand} {id : Nat} {l : List (Int × V)} {n : Int} {z : Value} {size bytes : Nat} {v0 r : V} {is : Bool} (ho : o.op = .lookup T x k true) (hd : o.dst = some t) (ht : t < N) (hu : P.underlying T = some (.map kt et)) (hk : P.underlying kt = some (.int .i64)) (hz : TI P et (some z) size bytes)
    (hx : SV S x (.mref id)) (he : S.ent id = .mpD (mapD f l)) (hn : SV S k (.int .i64 n)) (h0 : ∀ E β, Rd E β z (f v0)) (hr : (mget l n).getD v0 = r) (hs : (mget l n).isSome = is) : IOp P O N o S (S.set t (.tuple [f r, .bool is])) :=
  iop_of hd ht fun E β a hrel => by
    obtain ⟨b, hb, hev⟩ := rd_mref (hx.rd hrel)
    have hent := hrel.h.ent id
    rw [he] at hent
    obtain ⟨es, cl, hown, hh, hX, h1, h2⟩ := mp_at hent hb
    have hkv := rd_int (hn.rd hrel)
    have hkey : IsKey (.int .i64) (.int .i64 n) := rfl
    obtain ⟨i, hi, hzi, _⟩ := hz.at
    rcases find_list (k := n) (v := .bool true) (.bool β true) es.toList (mapD f l) 0 h1 h2 with ⟨g1, g2, g3⟩ | ⟨m, e', x', g1, g2, g3, g4, g5, _, _⟩
    · have g1' : Instr.findNow (.int .i64) (.int .i64 n) es.toList 0 = some none := g1
      refine ⟨.tuple #[z, .bool false], ?_, ?_⟩
      · simp [execOp, ho, hev, hkv, Instr.lookup, run_underlying hu, Go.MapKept.run_getObj_map hh, Go.MapKept.run_checkKey hk hkey, Go.MapKept.run_findKey hk g1', zeroValue, typeInfo, hi, hzi, Result.andThen]
      · rw [mget_D] at g2
        have : mget l n = none := by cases hm : mget l n with | none => rfl | some _ => rw [hm] at g2; cases g2
        rw [← hr, ← hs, this]; exact .tuple _ _ _ (.cons (h0 E β) (.cons (.bool _ _) (.nil _)))
    · have g1' : Instr.findNow (.int .i64) (.int .i64 n) es.toList 0 = some (some (m, e'.val)) := by rw [Nat.zero_add] at g1; exact g1
      refine ⟨.tuple #[e'.val, .bool true], ?_, ?_⟩
      · simp [execOp, ho, hev, hkv, Instr.lookup, run_underlying hu, Go.MapKept.run_getObj_map hh, Go.MapKept.run_checkKey hk hkey, Go.MapKept.run_findKey hk g1', Result.andThen]
      · rw [mget_D] at g4
        obtain ⟨y, hy, rfl⟩ := Option.map_eq_some_iff.1 g4
        rw [← hr, ← hs, hy]; exact .tuple _ _ _ (.cons g5 (.cons (.bool _ _) (.nil _)))
/-- 'len(m)'. -/
theorem iop_maplen {V : Type} (f : V → D) {T kt et : TypeId} {x : Operand} {id : Nat} {l : List (Int × V)} (ho : o.op = .call { callee := .builtin .len, args := #[x], argTypes := #[T] }) (hd : o.dst = some t) (ht : t < N) (hu : P.underlying T = some (.map kt et))
    (hx : SV S x (.mref id)) (he : S.ent id = .mpD (mapD f l)) : IOp P O N o S (S.set t (.int .i64 (l.length : Int))) :=
  iop_of hd ht fun E β a hrel => by
    obtain ⟨b, hb, hev⟩ := rd_mref (hx.rd hrel)
    have hent := hrel.h.ent id
    rw [he] at hent
    obtain ⟨es, cl, hown, hh, hX, h1, h2⟩ := mp_at hent hb
    have hlen : es.size = l.length := by have := congrArg List.length h1; simpa [mapD] using this
    refine ⟨.int .i64 (l.length : Int), ?_, .int _ _ _⟩
    simp [execOp, ho, resolve, hev, invoke, builtin, Builtin.len_, run_underlying hu, Go.MapKept.run_getObj_map hh, hlen, goInt, Result.andThen]
end
end Go.IL
set_option linter.unusedVariables false
namespace Go.IL
/-! Maps of whole numbers. -/
def mgF : List (Int × D) → Int → Option D
  | [], _ => none
  | x :: l, k => match x with
    | (j, w) => match eqZ j k with
      | true => some w
      | false => mgF l k
theorem mgF_eq (k : Int) : ∀ l, mgF l k = mget l k
  | [] => rfl
  | (j, w) :: l => by
    simp only [mgF, mget, eqZ_eq]
    by_cases h : j = k
    · simp [h]
    · simp [h, mgF_eq k l]
def mpF : List (Int × D) → Int → D → List (Int × D)
  | [], k, v => [(k, v)]
  | x :: l, k, v => match x with
    | (j, w) => match eqZ j k with
      | true => (k, v) :: l
      | false => fcL (mpF l k v) fun r => (j, w) :: r
theorem mpF_eq (k : Int) (v : D) : ∀ l, mpF l k v = mput l k v
  | [] => rfl
  | (j, w) :: l => by
    simp only [mpF, mput, eqZ_eq]
    by_cases h : j = k
    · simp [h]
    · simp [h, fcL_eq, mpF_eq k v l]
theorem mapD_id (l : List (Int × D)) : mapD (fun d => d) l = l := by simp [mapD]
def i64K {β : Type} (d : D) (q : Int → Option β) : Option β := match d with
  | .int k n => tstb (Nat.beq (ikn k) (ikn .i64)) (q n)
  | _ => none
theorem i64K_e {β : Type} {r : β} {d : D} {q : Int → Option β} (h : i64K d q = some r) : ∃ n, d = .int .i64 n ∧ q n = some r := by
  unfold i64K at h
  split at h
  · obtain ⟨h1, h⟩ := tstb_e h
    rw [ikn_e h1]
    exact ⟨_, rfl, h⟩
  · cases h
def mapK {β : Type} (X : XS) (d : D) (q : Nat → List (Int × D) → Option β) : Option β := match d with
  | .mref id => match X with
    | ⟨_, H, _, _⟩ => (gkC .no 20 id).run H fun x => match x with
      | .mp l => q id l
      | _ => none
  | _ => none
theorem mapK_e {β : Type} {r : β} {X : XS} {d : D} {q : Nat → List (Int × D) → Option β} (h : mapK X d q = some r) : ∃ id l, d = .mref id ∧ X.ent id = .mp l ∧ q id l = some r := by
  obtain ⟨sl, H, nid, dm⟩ := X
  unfold mapK at h
  split at h
  · simp only [gkC_at] at h
    split at h
    · rename_i id _ l hx
      exact ⟨id, l, rfl, hx, h⟩
    · cases h
  · cases h
theorem SubX.mp {O : Origin} {X : XS} {S : St} {L : Nat} (hs : SubX O X S L) {id : Nat} {l : List (Int × D)} (h : X.ent id = .mp l) : S.ent id = .mpD l := by
  have := hs.en id
  rw [show X.H.at .no id = .mp l from h] at this
  exact this
structure Mr where
  run : ∀ {β : Type}, XS → D → D → (D → Option β) → Option β
def noMr : Mr := ⟨fun _ _ _ _ => none⟩
def lokC (P : Program) (T : TypeId) (is : Bool) : Mr := match P.underlying T with
  | some (.map kt et) => match P.underlying kt with
    | some (.int .i64) => match P.info? et with
      | some i => match i.zero with
        | some z => let z0 := D.ofVal z; match is with
          | false => ⟨fun X a b q => mapK X a fun _ l => i64K b fun n => match mgF l n with
            | some d => q d
            | none => q z0⟩
          | true => ⟨fun X a b q => mapK X a fun _ l => i64K b fun n => match mgF l n with
            | some d => q (.tuple [d, .bool true])
            | none => q (.tuple [z0, .bool false])⟩
        | none => noMr
      | none => noMr
    | _ => noMr
  | _ => noMr
section
variable {P : Program} {N : Nat} {X : XS} {o : Oper} {t : Nat} {β : Type} {r : β} {q : D → Option β}
theorem lokC_ok {T : TypeId} {x y : Operand} {is : Bool} (ho : o.op = .lookup T x y is) (hd : o.dst = some t) (ht : t < N) (h : (lokC P T is).run X (opD X.sl x) (opD X.sl y) q = some r) : ∃ d, (∀ O S L, SubX O X S L → IOp P O N o S (S.set t d)) ∧ q d = some r := by
  unfold lokC at h
  split at h
  · rename_i kt et hu
    split at h
    · rename_i hk
      split at h
      · rename_i i hi
        split at h
        · rename_i z hz
          dsimp only at h
          split at h
          · dsimp only at h
            obtain ⟨id, l, hx, hl, h⟩ := mapK_e h
            obtain ⟨n, hn, h⟩ := i64K_e h
            rw [mgF_eq] at h
            refine ⟨(mget l n).getD (D.ofVal z), fun O S L hs => ?_, ?_⟩
            · exact iop_mapget (fun d => d) ho hd ht hu hk (hz ▸ ti_of2 hi) (hx ▸ hs.sv x) (by rw [mapD_id]; exact hs.mp hl) (hn ▸ hs.sv y) (fun E β => rd_ofVal E β z) rfl
            · split at h <;> rename_i g <;> rw [g] <;> exact h
          · dsimp only at h
            obtain ⟨id, l, hx, hl, h⟩ := mapK_e h
            obtain ⟨n, hn, h⟩ := i64K_e h
            rw [mgF_eq] at h
            refine ⟨.tuple [(mget l n).getD (D.ofVal z), .bool (mget l n).isSome], fun O S L hs => ?_, ?_⟩
            · exact iop_mapget2 (fun d => d) ho hd ht hu hk (hz ▸ ti_of2 hi) (hx ▸ hs.sv x) (by rw [mapD_id]; exact hs.mp hl) (hn ▸ hs.sv y) (fun E β => rd_ofVal E β z) rfl rfl
            · split at h <;> rename_i g <;> rw [g] <;> exact h
        · cases h
      · cases h
    · cases h
  · cases h
end
def lnmC (P : Program) (T : TypeId) : Lr := match P.underlying T with
  | some (.map _ _) => ⟨fun X a q => mapK X a fun _ l => fcI (l.length : Int) fun n => q (.int .i64 n)⟩
  | _ => noL
theorem lnmC_ok {P : Program} {N : Nat} {X : XS} {o : Oper} {t : Nat} {β : Type} {r : β} {q : D → Option β} {T : TypeId} {x : Operand} {id : Nat} (ho : o.op = .call { callee := .builtin .len, args := #[x], argTypes := #[T] }) (hd : o.dst = some t) (ht : t < N) (hx : opD X.sl x = .mref id) (h : (lnmC P T).run X (.mref id) q = some r) :
    ∃ y, (∀ O S L, SubX O X S L → IOp P O N o S (S.set t y)) ∧ q y = some r := by
  unfold lnmC at h
  split at h
  · rename_i kt et hu
    dsimp only at h
    obtain ⟨id', l, hx', hl, h⟩ := mapK_e h
    cases hx'
    rw [fcI_eq] at h
    exact ⟨_, fun O S L hs => iop_maplen (fun d => d) ho hd ht hu (hx ▸ hs.sv x) (by rw [mapD_id]; exact hs.mp hl), h⟩
  · cases h
structure Mur where
  run : ∀ {β : Type}, XS → D → D → D → (XS → Option β) → Option β
def noMu : Mur := ⟨fun _ _ _ _ _ => none⟩
def mpuC (P : Program) (T : TypeId) : Mur := match P.underlying T with
  | some (.map kt _) => match P.underlying kt with
    | some (.int .i64) => ⟨fun X a b d q => mapK X a fun id l => i64K b fun n => fcL (mpF l n d) fun l => match X with
      | ⟨sl, H, nid, dm⟩ => putH id (.mp l) H fun H => fcN (Nat.lor dm (Nat.shiftLeft 1 id)) fun dm => q ⟨sl, H, nid, dm⟩⟩
    | _ => noMu
  | _ => noMu
section
variable {P : Program} {N : Nat} {X : XS} {o : Oper} {t : Nat} {β : Type} {r : β}
theorem mpuC_ok {T : TypeId} {x y u : Operand} {q : XS → Option β} (ho : o.op = .mapUpdate T x y u) (hd : o.dst = none) (h : (mpuC P T).run X (opD X.sl x) (opD X.sl y) (opD X.sl u) q = some r) : ∃ X', StepOk P N o X X' ∧ q X' = some r := by
  unfold mpuC at h
  split at h
  · rename_i kt et hu
    split at h
    · rename_i hk
      dsimp only at h
      obtain ⟨id, l, hx, hl, h⟩ := mapK_e h
      obtain ⟨n, hn, h⟩ := i64K_e h
      rw [fcL_eq, mpF_eq] at h
      obtain ⟨sl, H, nid, dm⟩ := X
      dsimp only at h
      obtain ⟨H', hH, _, h⟩ := putH_e h
      rw [fcN_eq] at h
      refine ⟨_, ?_, h⟩
      have hk' : (XS.mk sl H nid dm).ent id ≠ .no := fun e => by rw [e] at hl; cases hl
      refine ⟨Fwd.wr (X := ⟨sl, H, nid, dm⟩) rfl hH hk', fun O S L hs hoc hL => ?_⟩
      have hSe := hs.mp hl
      refine .of (iop_mapput' ho hd hu hk (hx ▸ hs.sv x) hSe (hn ▸ hs.sv y) (hs.sv u)) ⟨?_, Pres.wr hk' (.inl rfl), fun _ _ => rfl⟩
      exact hs.setE hH rfl (Nat.le_refl _) (hs.lt (by rw [hSe]; exact fun e => by cases e))
    · cases h
  · cases h
theorem step_newm {H' : Tt XE} {d : D} (hd : o.dst = some t) (ht : t < 4000) (hH : ∀ j, H'.at .no j = if X.nid = j then .mp [] else X.H.at .no j)
    (h : ∀ O S L, SubX O X S L → S.ent X.nid = .fresh → IOp P O N o S ((S.setE X.nid (.mpD [])).set t d)) : StepOk P N o X ⟨(stC .dead 12 t).run X.sl d, H', X.nid + 1, X.dm⟩ := by
  refine ⟨(Fwd.new rfl hH).trans (Fwd.put (X := ⟨X.sl, H', X.nid + 1, X.dm⟩)), fun O S L hs hoc hL => ?_⟩
  have hfr : S.ent X.nid = .fresh := hs.fr _ (Nat.le_refl _) hL
  refine .of (h O S L hs hfr) ⟨(hs.new hH rfl X.dm).put ht d, ?_, Kp.set hd d rfl⟩
  exact Pres.trans (Fwd.new rfl hH) (Fwd.put (X := ⟨X.sl, H', X.nid + 1, X.dm⟩)) (Pres.new rfl) (Pres.put t d)
def newM {β : Type} (X : XS) (q : D → XS → Option β) : Option β := match X with
  | ⟨sl, H, nid, dm⟩ => putH nid (.mp []) H fun H => fcN (Nat.add nid 1) fun k => q (.mref nid) ⟨sl, H, k, dm⟩
theorem newM_ok {T : TypeId} (ho : o.op = .makeMap T none) (hd : o.dst = some t) (ht : t < N) (ht4 : t < 4000) {q : D → XS → Option β} (h : newM X q = some r) : ∃ d X1, q d X1 = some r ∧ StepOk P N o X ⟨(stC .dead 12 t).run X1.sl d, X1.H, X1.nid, X1.dm⟩ := by
  obtain ⟨sl, H, nid, dm⟩ := X
  simp only [newM] at h
  obtain ⟨H', hH, _, h⟩ := putH_e h
  rw [fcN_eq] at h
  exact ⟨_, _, h, step_newm (X := ⟨sl, H, nid, dm⟩) hd ht4 hH fun O S L hs hf => iop_mkmap nid ho hd ht hf⟩
end
end Go.IL
set_option linter.unusedVariables false
namespace Go.IL
/-! All operations, but calls of functions. -/
/-- 'string(b)' of a view. -/
def cvvC (P : Program) (s d : TypeId) : Lr := match P.underlying d with
  | some .string => match P.underlying s with
    | some (.slice e) => match P.underlying e with
      | some (.int .u8) => ⟨fun X a q => match a with
        | .vsl id sz off len _ => tstb (Nat.beq sz 1) (blkK X id fun _ n c => tstb (Nat.ble (Nat.add off len) n) (ldF c len off fun cs => unbK cs fun s => q (.str s)))
        | _ => none⟩
      | _ => noL
    | _ => noL
  | _ => noL
theorem cvvC_ok {P : Program} {N : Nat} {o : Oper} {t : Nat} {β : Type} {r : β} {q : D → Option β} {X : XS} {s d : TypeId} {x : Operand} {id sz off len room : Nat} (ho : o.op = .convert s d x) (hd : o.dst = some t) (ht : t < N) (hx : opD X.sl x = .vsl id sz off len room) (h : (cvvC P s d).run X (.vsl id sz off len room) q = some r) :
    ∃ y, (∀ O S L, SubX O X S L → IOp P O N o S (S.set t y)) ∧ q y = some r := by
  unfold cvvC at h
  split at h
  · rename_i hud
    split at h
    · rename_i e hus
      split at h
      · rename_i he
        dsimp only at h
        obtain ⟨h1, h⟩ := tstb_e h
        obtain ⟨e', n, c, hb, h⟩ := blkK_e h
        obtain ⟨h2, h⟩ := tstb_e h
        have h2 : off + len ≤ n := Nat.le_of_ble_eq_true h2
        rw [ldF_eq, ← cells_part h2] at h
        obtain ⟨l, hl, hq⟩ := unbK_e h
        have h1 : sz = 1 := Nat.eq_of_beq_eq_true h1
        rw [h1] at hx
        exact ⟨_, fun O S L hs => iop_bytes_vsl ho hd ht hus he hud (hx ▸ hs.sv x) (hs.blk hb) hl (by rw [cellsT_length]; exact h2), hq⟩
      · cases h
    · cases h
  · cases h
def mmC (mx : Bool) (x y : Operand) : Vr := match mx with
  | true => ⟨fun X q => (rdC x).run X.sl fun a => (rdC y).run X.sl fun b => match a with
    | .int k m => match b with
      | .int k' n => tstb (Nat.beq (ikn k) (ikn k')) (match ltZ m n with
        | true => q (.int k n)
        | false => q (.int k m))
      | _ => none
    | _ => none⟩
  | false => ⟨fun X q => (rdC x).run X.sl fun a => (rdC y).run X.sl fun b => match a with
    | .int k m => match b with
      | .int k' n => tstb (Nat.beq (ikn k) (ikn k')) (match ltZ n m with
        | true => q (.int k n)
        | false => q (.int k m))
      | _ => none
    | _ => none⟩
def mm3 (mx : Bool) (m n : Int) : Int := match mx with
  | true => match ltZ m n with
    | true => n
    | false => m
  | false => match ltZ n m with
    | true => n
    | false => m
theorem mm3_max (m n : Int) : mm3 true m n = max m n := by
  unfold mm3; simp only; rw [ltZ_eq]; by_cases h : m < n <;> simp [h] <;> omega
theorem mm3_min (m n : Int) : mm3 false m n = min m n := by
  unfold mm3; simp only; rw [ltZ_eq]; by_cases h : n < m <;> simp [h] <;> omega
def mm3C (mx : Bool) (x y u : Operand) : Vr := ⟨fun X q => (rdC x).run X.sl fun a => (rdC y).run X.sl fun b => (rdC u).run X.sl fun c => match a with
  | .int k m => match b with
    | .int k' n => match c with
      | .int k2 p => tstb (Nat.beq (ikn k') (ikn k)) (tstb (Nat.beq (ikn k2) (ikn k)) (fcI (mm3 mx (mm3 mx m n) p) fun r => q (.int k r)))
      | _ => none
    | _ => none
  | _ => none⟩
def mn4C (x y u v : Operand) : Vr := ⟨fun X q => (rdC x).run X.sl fun a => (rdC y).run X.sl fun b => (rdC u).run X.sl fun c => (rdC v).run X.sl fun d => match a with
  | .int k m => match b with
    | .int k' n => match c with
      | .int k2 p => match d with
        | .int k3 s => tstb (Nat.beq (ikn k') (ikn k)) (tstb (Nat.beq (ikn k2) (ikn k)) (tstb (Nat.beq (ikn k3) (ikn k)) (fcI (mm3 false (mm3 false (mm3 false m n) p) s) fun r => q (.int k r))))
        | _ => none
      | _ => none
    | _ => none
  | _ => none⟩
theorem iop_min4 {P : Program} {O : Origin} {N : Nat} {S : St} {o : Oper} {t : Nat} {x y u v : Operand} {ts : Array TypeId} {k : IntKind} {a b d e c : Int} (ho : o.op = .call { callee := .builtin .min, args := #[x, y, u, v], argTypes := ts }) (hd : o.dst = some t) (ht : t < N)
    (hx : SV S x (.int k a)) (hy : SV S y (.int k b)) (hu : SV S u (.int k d)) (hv : SV S v (.int k e)) (hc : min (min (min a b) d) e = c) : IOp P O N o S (S.set t (.int k c)) :=
  iop_of hd ht fun E β ac hr => ⟨.int k c, by
    subst hc
    have h1 : ∀ a b : Int, (if b < a then b else a) = min a b := by intro a b; split <;> omega
    simp [execOp, ho, resolve, invoke, builtin, Builtin.min_, Builtin.min2, rd_int (hx.rd hr), rd_int (hy.rd hr), rd_int (hu.rd hr), rd_int (hv.rd hr), h1], .int _ _ _⟩
theorem mn4C_ok {P : Program} {N : Nat} {X : XS} {o : Oper} {t : Nat} {β : Type} {r : β} {q : D → Option β} {x y u v : Operand} {ts : Array TypeId} (ho : o.op = .call { callee := .builtin .min, args := #[x, y, u, v], argTypes := ts }) (hd : o.dst = some t) (ht : t < N) (h : (mn4C x y u v).run X q = some r) :
    ∃ d, (∀ O S L, SubX O X S L → IOp P O N o S (S.set t d)) ∧ q d = some r := by
  simp only [mn4C, rdC_eq] at h
  split at h
  · rename_i k m hx
    split at h
    · rename_i k' n hy
      split at h
      · rename_i k2 p hu
        split at h
        · rename_i k3 s hv
          obtain ⟨h1, h⟩ := tstb_e h
          obtain ⟨h2, h⟩ := tstb_e h
          obtain ⟨h3, h⟩ := tstb_e h
          rw [fcI_eq] at h
          rw [ikn_e h1] at hy
          rw [ikn_e h2] at hu
          rw [ikn_e h3] at hv
          exact ⟨_, fun O S L hs => iop_min4 ho hd ht (hx ▸ hs.sv x) (hy ▸ hs.sv y) (hu ▸ hs.sv u) (hv ▸ hs.sv v) (by rw [mm3_min, mm3_min, mm3_min]), h⟩
        · cases h
      · cases h
    · cases h
  · cases h
def pkC (c x y : Operand) : Vr := let a := rdC x; let b := rdC y; ⟨fun X q => (rdC c).run X.sl fun d => match d with
  | .bool t => match t with
    | true => a.run X.sl q
    | false => b.run X.sl q
  | _ => none⟩
def mfC (f : FuncId) (first caps : List Operand) : Vr := match first with
  | [] => let c := rdsC caps; ⟨fun X q => c.run X.sl fun ds => q (.fn f ds)⟩
  | _ => match caps with
    | [] => let c := rdsC first; ⟨fun X q => c.run X.sl fun ds => q (.mv f ds)⟩
    | _ => noV
def valC (P : Program) (g : Op) : Vr := match g with
  | .move x => let a := rdC x; ⟨fun X q => a.run X.sl q⟩
  | .assign x => let a := rdC x; ⟨fun X q => a.run X.sl q⟩
  | .pick c x y => pkC c x y
  | .binOp op xt x y _ => let a := rdC x; let b := rdC y; let f := binC P op xt; ⟨fun X q => a.run X.sl fun d => b.run X.sl fun e => f.run d e q⟩
  | .unOp u _ x => let a := rdC x; let f := unC u; ⟨fun X q => a.run X.sl fun d => f.run d q⟩
  | .convert s d x => let a := rdC x; let f := cvC P s d; let g := cvvC P s d; ⟨fun X q => a.run X.sl fun d => match d with
    | .vsl id sz off len room => g.run X (.vsl id sz off len room) q
    | d => f.run d q⟩
  | .field T x i => let a := rdC x; let f := fldC P T i; ⟨fun X q => a.run X.sl fun d => f.run d q⟩
  | .extract x i => let a := rdC x; let f := extC i; ⟨fun X q => a.run X.sl fun d => f.run d q⟩
  | .fieldAddr T x i => let a := rdC x; let f := faC P T i; ⟨fun X q => a.run X.sl fun d => f.run d q⟩
  | .index T x y => let a := rdC x; let b := rdC y; let f := ixC P T; ⟨fun X q => a.run X.sl fun d => b.run X.sl fun e => natK e fun n => f.run d n q⟩
  | .indexAddr T x y => let a := rdC x; let b := rdC y; let f := ixaC P T; ⟨fun X q => a.run X.sl fun d => b.run X.sl fun e => natK e fun n => f.run d n q⟩
  | .lookup T x y is => let a := rdC x; let b := rdC y; let f := lokC P T is; ⟨fun X q => a.run X.sl fun d => b.run X.sl fun e => f.run X d e q⟩
  | .load T x => let a := rdC x; let f := ldC P T; ⟨fun X q => a.run X.sl fun d => f.run X d q⟩
  | .nilCheck x => let a := rdC x; ⟨fun X q => a.run X.sl fun d => match d with
    | .ref i j => q (.ref i j)
    | .fptr cs => q (.fptr cs)
    | _ => none⟩
  | .slice T x lo hi mx => match mx with
    | none => slC P T x lo hi
    | some m => match hi with
      | some hi => sl3C P T x lo hi m
      | none => noV
  | .build T ps => bldC P T ps.toList
  | .makeFunc fn first caps => match fn with
    | .func f => mfC f first.toList caps.toList
    | _ => noV
  | .call c => match c.callee with
    | .builtin .len => match c.args.toList with
      | [x] => match c.argTypes.toList with
        | [T] => let a := rdC x; let f := lnC P T; let g := lnmC P T; ⟨fun X q => a.run X.sl fun d => match d with
          | .mref id => g.run X (.mref id) q
          | d => f.run d q⟩
        | _ => noV
      | _ => noV
    | .builtin .max => match c.args.toList with
      | [x, y] => mmC true x y
      | [x, y, u] => mm3C true x y u
      | _ => noV
    | .builtin .min => match c.args.toList with
      | [x, y] => mmC false x y
      | [x, y, u] => mm3C false x y u
      | [x, y, u, v] => mn4C x y u v
      | _ => noV
    | _ => noV
  | _ => noV
theorem arr_of' {α : Type} {a : Array α} {l : List α} (h : a.toList = l) : a = l.toArray := by subst h; simp
section
variable {P : Program} {N : Nat} {o : Oper} {t : Nat} {β : Type} {r : β} {q : D → Option β} {X : XS}
theorem valC_nd {g : Op} (h : (valC P g).run X q = some r) : noDefer g = true := by
  cases g <;> first | rfl | (simp [valC, noV] at h)
theorem mmC_ok {mx : Bool} {x y : Operand} {ts : Array TypeId} (ho : o.op = .call { callee := .builtin (match mx with | true => .max | false => .min), args := #[x, y], argTypes := ts }) (hd : o.dst = some t) (ht : t < N) (h : (mmC mx x y).run X q = some r) :
    ∃ d, (∀ O S L, SubX O X S L → IOp P O N o S (S.set t d)) ∧ q d = some r := by
  cases mx with
  | true =>
    simp only [mmC, rdC_eq] at h
    try dsimp only at h
    split at h
    · rename_i k m hx
      try dsimp only at h
      split at h
      · rename_i k' n hy
        obtain ⟨h1, h9⟩ := tstb_e h
        have := ikn_e h1
        subst this
        try dsimp only at h9
        split at h9
        · rename_i hl
          rw [ltZ_eq] at hl
          have hl : m < n := by simpa using hl
          exact ⟨_, fun O S L hs => iop_max2 ho hd ht (hx ▸ hs.sv x) (hy ▸ hs.sv y) (by omega), h9⟩
        · rename_i hl
          rw [ltZ_eq] at hl
          have hl : ¬ m < n := by simpa using hl
          exact ⟨_, fun O S L hs => iop_max2 ho hd ht (hx ▸ hs.sv x) (hy ▸ hs.sv y) (by omega), h9⟩
      · cases h
    · cases h
  | false =>
    simp only [mmC, rdC_eq] at h
    try dsimp only at h
    split at h
    · rename_i k m hx
      try dsimp only at h
      split at h
      · rename_i k' n hy
        obtain ⟨h1, h9⟩ := tstb_e h
        have := ikn_e h1
        subst this
        try dsimp only at h9
        split at h9
        · rename_i hl
          rw [ltZ_eq] at hl
          have hl : n < m := by simpa using hl
          exact ⟨_, fun O S L hs => iop_min2 ho hd ht (hx ▸ hs.sv x) (hy ▸ hs.sv y) (by omega), h9⟩
        · rename_i hl
          rw [ltZ_eq] at hl
          have hl : ¬ n < m := by simpa using hl
          exact ⟨_, fun O S L hs => iop_min2 ho hd ht (hx ▸ hs.sv x) (hy ▸ hs.sv y) (by omega), h9⟩
      · cases h
    · cases h
theorem mm3C_max {x y u : Operand} {ts : Array TypeId} (ho : o.op = .call { callee := .builtin .max, args := #[x, y, u], argTypes := ts }) (hd : o.dst = some t) (ht : t < N) (h : (mm3C true x y u).run X q = some r) :
    ∃ d, (∀ O S L, SubX O X S L → IOp P O N o S (S.set t d)) ∧ q d = some r := by
  simp only [mm3C, rdC_eq] at h
  split at h
  · rename_i k m hx
    split at h
    · rename_i k' n hy
      split at h
      · rename_i k2 p hu
        obtain ⟨h1, h⟩ := tstb_e h
        obtain ⟨h2, h⟩ := tstb_e h
        rw [fcI_eq] at h
        rw [ikn_e h1] at hy
        rw [ikn_e h2] at hu
        exact ⟨_, fun O S L hs => iop_max3 ho hd ht (hx ▸ hs.sv x) (hy ▸ hs.sv y) (hu ▸ hs.sv u) (by rw [mm3_max, mm3_max]), h⟩
      · cases h
    · cases h
  · cases h
theorem mm3C_min {x y u : Operand} {ts : Array TypeId} (ho : o.op = .call { callee := .builtin .min, args := #[x, y, u], argTypes := ts }) (hd : o.dst = some t) (ht : t < N) (h : (mm3C false x y u).run X q = some r) :
    ∃ d, (∀ O S L, SubX O X S L → IOp P O N o S (S.set t d)) ∧ q d = some r := by
  simp only [mm3C, rdC_eq] at h
  split at h
  · rename_i k m hx
    split at h
    · rename_i k' n hy
      split at h
      · rename_i k2 p hu
        obtain ⟨h1, h⟩ := tstb_e h
        obtain ⟨h2, h⟩ := tstb_e h
        rw [fcI_eq] at h
        rw [ikn_e h1] at hy
        rw [ikn_e h2] at hu
        exact ⟨_, fun O S L hs => iop_min3 ho hd ht (hx ▸ hs.sv x) (hy ▸ hs.sv y) (hu ▸ hs.sv u) (by rw [mm3_min, mm3_min]), h⟩
      · cases h
    · cases h
  · cases h
theorem valC_ok (hd : o.dst = some t) (ht : t < N) (h : (valC P o.op).run X q = some r) : ∃ d, (∀ O S L, SubX O X S L → IOp P O N o S (S.set t d)) ∧ q d = some r := by
  unfold valC at h
  try dsimp only at h
  split at h
  · rename_i x ho
    simp only [rdC_eq] at h
    exact ⟨_, fun O S L hs => iop_move ho hd ht (hs.sv x), h⟩
  · rename_i x ho
    simp only [rdC_eq] at h
    exact ⟨_, fun O S L hs => iop_assign ho hd ht (hs.sv x), h⟩
  · rename_i c x y ho
    simp only [pkC, rdC_eq] at h
    try dsimp only at h
    split at h
    · rename_i b hc
      try dsimp only at h
      split at h
      · exact ⟨_, fun O S L hs => iop_pick ho hd ht (hc ▸ hs.sv c) (fun _ => hs.sv x) (fun e => by cases e), h⟩
      · exact ⟨_, fun O S L hs => iop_pick ho hd ht (hc ▸ hs.sv c) (fun e => by cases e) (fun _ => hs.sv y), h⟩
    · cases h
  · rename_i op xt x y yt ho
    simp only [rdC_eq] at h
    obtain ⟨d, h1, h2⟩ := binC_ok h
    exact ⟨d, fun O S L hs => h1 ho hd ht (hs.sv x) (hs.sv y), h2⟩
  · rename_i u T x ho
    simp only [rdC_eq] at h
    obtain ⟨d, h1, h2⟩ := unC_ok (P := P) (T := T) (x := x) h
    exact ⟨d, fun O S L hs => h1 ho hd ht (hs.sv x), h2⟩
  · rename_i s d x ho
    simp only [rdC_eq] at h
    split at h
    · rename_i id sz off len room hx
      exact cvvC_ok ho hd ht hx h
    · obtain ⟨d, h1, h2⟩ := cvC_ok (x := x) h
      exact ⟨d, fun O S L hs => h1 ho hd ht (hs.sv x), h2⟩
  · rename_i T x i ho
    simp only [rdC_eq] at h
    obtain ⟨d, h1, h2⟩ := fldC_ok (x := x) h
    exact ⟨d, fun O S L hs => h1 ho hd ht (hs.sv x), h2⟩
  · rename_i x i ho
    simp only [rdC_eq] at h
    obtain ⟨d, h1, h2⟩ := extC_ok (P := P) (x := x) h
    exact ⟨d, fun O S L hs => h1 ho hd ht (hs.sv x), h2⟩
  · rename_i T x i ho
    simp only [rdC_eq] at h
    obtain ⟨d, h1, h2⟩ := faC_ok (x := x) h
    exact ⟨d, fun O S L hs => h1 ho hd ht (hs.sv x), h2⟩
  · rename_i T x y ho
    simp only [rdC_eq] at h
    obtain ⟨k, n, hy, h⟩ := natK_e h
    obtain ⟨d, h1, h2⟩ := ixC_ok (x := x) (y := y) (k := k) h
    exact ⟨d, fun O S L hs => h1 ho hd ht (hs.sv x) (hy ▸ hs.sv y), h2⟩
  · rename_i T x y ho
    simp only [rdC_eq] at h
    obtain ⟨k, n, hy, h⟩ := natK_e h
    obtain ⟨d, h1, h2⟩ := ixaC_ok (x := x) (y := y) (k := k) h
    exact ⟨d, fun O S L hs => h1 ho hd ht (hs.sv x) (hy ▸ hs.sv y), h2⟩
  · rename_i T x y is ho
    simp only [rdC_eq] at h
    exact lokC_ok ho hd ht h
  · rename_i T x ho
    simp only [rdC_eq] at h
    exact ldC_all ho hd ht h
  · rename_i x ho
    simp only [rdC_eq] at h
    try dsimp only at h
    split at h
    · rename_i i j hx
      exact ⟨_, fun O S L hs => iop_nilCheck_ref ho hd ht (hx ▸ hs.sv x), h⟩
    · rename_i cs hx
      exact ⟨_, fun O S L hs => iop_nilCheck_fptr ho hd ht (hx ▸ hs.sv x), h⟩
    · cases h
  · rename_i T x lo hi mx ho
    split at h
    · exact slC_ok ho hd ht h
    · split at h
      · exact sl3C_ok ho hd ht h
      · cases h
  · rename_i T ps ho
    exact bldC_ok ho hd ht h
  · rename_i fn first caps ho
    try dsimp only at h
    split at h
    · rename_i f
      unfold mfC at h
      try dsimp only at h
      split at h
      · rename_i hf
        simp only [rdsC_eq] at h
        exact ⟨_, fun O S L hs => iop_makeFunc (xs := caps.toList) (by rw [ho, arr_of' hf]) hd ht (opDs_ok hs _), h⟩
      · try dsimp only at h
        split at h
        · rename_i hc
          simp only [rdsC_eq] at h
          exact ⟨_, fun O S L hs => iop_makeMv (xs := first.toList) (by rw [ho, arr_of' hc]) hd ht (opDs_ok hs _), h⟩
        · cases h
    · cases h
  · rename_i c ho
    obtain ⟨cl, as, ts⟩ := c
    simp only at h
    try dsimp only at h
    split at h
    · try dsimp only at h
      split at h
      · rename_i x ha
        try dsimp only at h
        split at h
        · rename_i T hT
          simp only [rdC_eq] at h
          split at h
          · rename_i id hx
            exact lnmC_ok (by rw [ho, arr_of' ha, arr_of' hT]) hd ht hx h
          · obtain ⟨d, h1, h2⟩ := lnC_ok (x := x) h
            exact ⟨d, fun O S L hs => h1 (by rw [ho, arr_of' ha, arr_of' hT]) hd ht (hs.sv x), h2⟩
        · cases h
      · cases h
    · try dsimp only at h
      split at h
      · rename_i x y ha
        exact mmC_ok (mx := true) (by rw [ho, arr_of' ha]) hd ht h
      · rename_i x y u ha
        exact mm3C_max (by rw [ho, arr_of' ha]) hd ht h
      · cases h
    · try dsimp only at h
      split at h
      · rename_i x y ha
        exact mmC_ok (mx := false) (by rw [ho, arr_of' ha]) hd ht h
      · rename_i x y u ha
        exact mm3C_min (by rw [ho, arr_of' ha]) hd ht h
      · rename_i x y u v ha
        exact mn4C_ok (by rw [ho, arr_of' ha]) hd ht h
      · cases h
    · cases h
  · cases h
end
end Go.IL
set_option linter.unusedVariables false
namespace Go.IL
/-! What is new. -/
def newK {β : Type} (e : TypeId) (ds : List D) (X : XS) (q : Nat → XS → Option β) : Option β := match X with
  | ⟨sl, H, nid, dm⟩ => stL ds 0 .e fun c => fcN ds.length fun n => putH nid (.blk e n c) H fun H => fcN (Nat.add nid 1) fun k => q nid ⟨sl, H, k, dm⟩
def newT {β : Type} (e : TypeId) (n : Nat) (c : Tt D) (X : XS) (q : Nat → XS → Option β) : Option β := match X with
  | ⟨sl, H, nid, dm⟩ => putH nid (.blk e n c) H fun H => fcN (Nat.add nid 1) fun k => q nid ⟨sl, H, k, dm⟩
section
variable {P : Program} {N : Nat} {X : XS} {o : Oper} {t : Nat} {β : Type} {r : β}
theorem newT_e {e : TypeId} {n : Nat} {c : Tt D} {q : Nat → XS → Option β} (h : newT e n c X q = some r) : ∃ H', (∀ j, H'.at .no j = if X.nid = j then .blk e n c else X.H.at .no j) ∧ q X.nid ⟨X.sl, H', X.nid + 1, X.dm⟩ = some r := by
  obtain ⟨sl, H, nid, dm⟩ := X
  simp only [newT] at h
  obtain ⟨H', hH, _, h⟩ := putH_e h
  rw [fcN_eq] at h
  exact ⟨H', hH, h⟩
theorem newK_e {e : TypeId} {ds : List D} {q : Nat → XS → Option β} (h : newK e ds X q = some r) : ∃ c H', cellsT ds.length c = ds ∧ (∀ j, H'.at .no j = if X.nid = j then .blk e ds.length c else X.H.at .no j) ∧ q X.nid ⟨X.sl, H', X.nid + 1, X.dm⟩ = some r := by
  obtain ⟨sl, H, nid, dm⟩ := X
  simp only [newK] at h
  obtain ⟨c, hc, h⟩ := stL_e h
  rw [fcN_eq] at h
  obtain ⟨H', hH, _, h⟩ := putH_e h
  rw [fcN_eq] at h
  exact ⟨c, H', cells_of hc, hH, h⟩
theorem step_new {e : TypeId} {n : Nat} {c : Tt D} {H' : Tt XE} {d : D} (hd : o.dst = some t) (ht : t < 4000) (hH : ∀ j, H'.at .no j = if X.nid = j then .blk e n c else X.H.at .no j)
    (h : ∀ O S L, SubX O X S L → S.ent X.nid = .fresh → IOp P O N o S ((S.setE X.nid (.blk e (cellsT n c))).set t d)) : StepOk P N o X ⟨(stC .dead 12 t).run X.sl d, H', X.nid + 1, X.dm⟩ := by
  refine ⟨(Fwd.new rfl hH).trans (Fwd.put (X := ⟨X.sl, H', X.nid + 1, X.dm⟩)), fun O S L hs hoc hL => ?_⟩
  have hfr : S.ent X.nid = .fresh := hs.fr _ (Nat.le_refl _) hL
  refine .of (h O S L hs hfr) ⟨(hs.new hH rfl X.dm).put ht d, ?_, Kp.set hd d rfl⟩
  exact Pres.trans (Fwd.new rfl hH) (Fwd.put (X := ⟨X.sl, H', X.nid + 1, X.dm⟩)) (Pres.new rfl) (Pres.put t d)
end
/-- Operations that make something new, as they stand. -/
inductive Zt where
  | no
  | mk (n : Nat) (c : Tt D)
def zrT (P : Program) (e : TypeId) : Zt := match zrC P e with
  | some cs => match (stL cs 0 .e fun c => fcN cs.length fun n => some (Zt.mk n c) : Option Zt) with
    | some z => z
    | none => .no
  | none => .no
theorem zrT_e {P : Program} {e : TypeId} {n : Nat} {c : Tt D} (h : zrT P e = .mk n c) : zrC P e = some (cellsT n c) := by
  unfold zrT at h
  try dsimp only at h
  split at h
  · rename_i cs hz
    try dsimp only at h
    split at h
    · rename_i z hs
      obtain ⟨c', hc, hq⟩ := stL_e hs
      rw [fcN_eq] at hq
      cases hq
      cases h
      rw [hz, cells_of hc]
    · cases h
  · cases h
structure Nr where
  run : ∀ {β : Type}, XS → (D → XS → Option β) → Option β
def noN : Nr := ⟨fun _ _ => none⟩
def bslC (P : Program) (T : TypeId) (n : Nat) (ps : List (Nat × Operand)) : Nr := match P.underlying T with
  | some (.slice e) => match P.info? e with
    | some i => match i.zero with
      | some _ => match Nat.ble 1 i.size with
        | true => match Nat.ble (n * i.size) 16777216 with
          | true => let p := psC ps; let z := List.replicate (n * i.size) D.dead; ⟨fun X q => p.run X.sl fun ds => fillK (fun k => some (Nat.mul k i.size, i.size)) ds z fun cs => tstb (Nat.beq cs.length (Nat.mul n i.size)) (newK e cs X fun id X => q (.vsl id i.size 0 n n) X)⟩
          | false => noN
        | false => noN
      | none => noN
    | none => noN
  | _ => noN
def rpF : Nat → List D → List D
  | 0, _ => []
  | n + 1, l => fcL (rpF n l) fun r => apF l r
theorem rpF_eq (l : List D) : ∀ n, rpF n l = (List.replicate n l).flatten
  | 0 => rfl
  | n + 1 => by rw [rpF, fcL_eq, apF_eq, rpF_eq l n, List.replicate_succ, List.flatten_cons]
def sameT : Operand → Operand → Bool
  | .tmp t, .tmp u => Nat.beq t u
  | .const v, .const w => match v with
    | .int k n => match w with
      | .int k' m => Nat.beq (ikn k) (ikn k') && eqZ n m
      | _ => false
    | _ => false
  | _, _ => false
theorem sameT_e {x y : Operand} (h : sameT x y = true) : x = y := by
  unfold sameT at h
  split at h
  · rw [Nat.eq_of_beq_eq_true h]
  · split at h
    · split at h
      · simp only [Bool.and_eq_true] at h
        rw [ikn_e h.1]
        have := h.2
        rw [eqZ_eq, decide_eq_true_eq] at this
        rw [this]
      · cases h
    · cases h
  · cases h
def mkC (P : Program) (T : TypeId) (x : Operand) : Nr := match P.underlying T with
  | some (.slice e) => match P.info? e with
    | some i => match i.zero with
      | some z => match Nat.beq z.cells.size i.size with
        | true => match Nat.ble 1 i.size with
          | true => let a := rdC x; let zs := z.cells.toList.map D.ofScalar; ⟨fun X q => a.run X.sl fun d => natK d fun m => tstb (Nat.ble (Nat.mul i.bytes m) 281474976710656) (tstb (Nat.ble m maxLen) (newK e (rpF m zs) X fun id X => q (.vsl id i.size 0 m m) X))⟩
          | false => noN
        | false => noN
      | none => noN
    | none => noN
  | _ => noN
def newC (P : Program) (g : Op) : Nr := match g with
  | .makeSlice T x y => match sameT x y with
    | true => mkC P T x
    | false => noN
  | .box e x => let a := rdC x; ⟨fun X q => a.run X.sl fun d => tstb d.boxable (cellsK d fun cs => newK e cs X fun id X => q (.ref id 0) X)⟩
  | .alloc e => match zrT P e with
    | .mk n c => ⟨fun X q => newT e n c X fun id X => q (.ref id 0) X⟩
    | .no => noN
  | .buildSlice T n ps => bslC P T n ps.toList
  | .makeMap _ none => ⟨fun X q => newM X q⟩
  | _ => noN
section
variable {P : Program} {N : Nat} {X : XS} {o : Oper} {t : Nat} {β : Type} {r : β}
theorem newC_nd {g : Op} {q : D → XS → Option β} (h : (newC P g).run X q = some r) : noDefer g = true := by
  cases g <;> first | rfl | (simp [newC, noN] at h)
theorem newC_ok (hd : o.dst = some t) (ht : t < N) (ht4 : t < 4000) {q : D → XS → Option β} (h : (newC P o.op).run X q = some r) : ∃ d X1, q d X1 = some r ∧ StepOk P N o X ⟨(stC .dead 12 t).run X1.sl d, X1.H, X1.nid, X1.dm⟩ := by
  unfold newC at h
  try dsimp only at h
  split at h
  · rename_i T x y ho
    try dsimp only at h
    split at h
    · rename_i hxy
      have := sameT_e hxy
      subst this
      unfold mkC at h
      split at h
      · rename_i e hu
        split at h
        · rename_i i hi
          split at h
          · rename_i z hz
            split at h
            · rename_i hsz
              have hsz := Nat.eq_of_beq_eq_true hsz
              split at h
              · rename_i h1
                dsimp only at h
                rw [rdC_eq] at h
                obtain ⟨k, m, hx, h⟩ := natK_e h
                obtain ⟨h2, h⟩ := tstb_e h
                obtain ⟨h3, h⟩ := tstb_e h
                obtain ⟨c, H', hc, hH, h⟩ := newK_e h
                refine ⟨_, _, h, step_new hd ht4 hH fun O S L hs hfr => ?_⟩
                rw [hc, rpF_eq]
                exact iop_make_v X.nid ho hd ht hu (hz ▸ ti_of2 hi) hsz (Nat.le_of_ble_eq_true h1) hfr (hx ▸ hs.sv x) (Nat.le_of_ble_eq_true h2) (Nat.le_of_ble_eq_true h3)
              · cases h
            · cases h
          · cases h
        · cases h
      · cases h
    · cases h
  · rename_i e x ho
    simp only [rdC_eq] at h
    obtain ⟨h1, h⟩ := tstb_e h
    rw [cellsK_eq] at h
    obtain ⟨c, H', hc, hH, h⟩ := newK_e h
    refine ⟨_, _, h, step_new hd ht4 hH fun O S L hs hf => ?_⟩
    rw [hc]
    exact iop_box X.nid ho hd ht hf (hs.sv x) h1
  · rename_i e ho
    try dsimp only at h
    split at h
    · rename_i n c hz
      dsimp only at h
      obtain ⟨H', hH, h⟩ := newT_e h
      obtain ⟨z, s, b, h3, h4, h5⟩ := zrC_e (zrT_e hz)
      refine ⟨_, _, h, step_new hd ht4 hH fun O S L hs hf => ?_⟩
      rw [← h5]
      exact iop_alloc X.nid ho hd ht hf h3 h4
    · cases h
  · rename_i T n ps ho
    unfold bslC at h
    try dsimp only at h
    split at h
    · rename_i e hu
      try dsimp only at h
      split at h
      · rename_i i hi
        try dsimp only at h
        split at h
        · rename_i z hz
          try dsimp only at h
          split at h
          · rename_i h1
            try dsimp only at h
            split at h
            · rename_i h2
              simp only [psC_eq] at h
              obtain ⟨cs, hf, h⟩ := fillK_e h
              obtain ⟨h3, h⟩ := tstb_e h
              have h3 : cs.length = n * i.size := Nat.eq_of_beq_eq_true h3
              obtain ⟨c, H', hc, hH, h⟩ := newK_e h
              refine ⟨_, _, h, step_new hd ht4 hH fun O S L hs hfr => ?_⟩
              rw [hc]
              exact iop_buildSlice_v (ps := ps.toList) X.nid (by rw [ho]) hd ht hu (hz ▸ ti_of2 hi) (Nat.le_of_ble_eq_true h1) hfr (opPs_ok hs _) hf h3 (Nat.le_of_ble_eq_true h2)
            · cases h
          · cases h
        · cases h
      · cases h
    · cases h
  · rename_i T ho
    exact newM_ok ho hd ht ht4 h
  · cases h
end
end Go.IL
set_option linter.unusedVariables false
namespace Go.IL
/-! Growing lists. -/
def flF : List D → List D
  | [] => []
  | d :: l => match d with
    | .agg cs => apF cs (flF l)
    | d => fcL (flF l) fun r => d :: r
theorem flF_eq : ∀ l, flF l = D.flat l
  | [] => rfl
  | d :: l => by
    cases d <;> simp only [flF, apF_eq, fcL_eq, flF_eq l] <;> rfl
/-- What is copied from: how many elements, and their cells. -/
def srcK {β : Type} (X : XS) (sz : Nat) (y : D) (q : Nat → List D → Option β) : Option β := match y with
  | .slice _ l => fcN l.length fun m => q m (flF l)
  | .nils => q 0 []
  | .vsl id sz' off m _ => tstb (Nat.beq sz' sz) (blkK X id fun _ n c => tstb (Nat.ble (Nat.add off (Nat.mul m sz)) n) (ldF c (Nat.mul m sz) off fun es => q m es))
  | _ => none
section
variable {P : Program} {N : Nat} {X : XS} {o : Oper} {t : Nat} {β : Type} {r : β}
theorem cells_pre {c : Tt D} {n m : Nat} (h : m ≤ n) : cellsT n c = cellsT m c ++ (cellsT n c).drop m := by
  have : cellsT m c = (cellsT n c).take m := by
    have := cells_part (c := c) (off := 0) (s := m) (n := n) (by omega)
    rw [List.drop_zero] at this
    rw [this, cellsT, List.range_eq_range']
  rw [this, List.take_append_drop]
theorem srcK_e {sz : Nat} {y : Operand} {q : Nat → List D → Option β} (h : srcK X sz (opD X.sl y) q = some r) : ∃ m es, (∀ O S L, SubX O X S L → ∀ E β a, Rel O N S E β a → Src E β (a.eval y) m es) ∧ q m es = some r := by
  unfold srcK at h
  try dsimp only at h
  split at h
  · rename_i f l hy
    rw [fcN_eq, flF_eq] at h
    exact ⟨_, _, fun O S L hs => src_slice (hy ▸ hs.sv y), h⟩
  · rename_i hy
    refine ⟨_, _, fun O S L hs => ?_, h⟩
    refine src_slice (f := false) (ys := []) (fun E β v k => ?_)
    have := hs.sv y E β v k
    rw [hy] at this
    cases this with
    | nils => exact .nslice _ _
  · rename_i id sz' off m room hy
    obtain ⟨h1, h⟩ := tstb_e h
    have h1 : sz' = sz := Nat.eq_of_beq_eq_true h1
    rw [h1] at hy
    obtain ⟨e, n, c, hb, h⟩ := blkK_e h
    obtain ⟨h2, h⟩ := tstb_e h
    have h2 : off + m * sz ≤ n := Nat.le_of_ble_eq_true h2
    rw [ldF_eq, show m.mul sz = m * sz from rfl, ← cells_part h2] at h
    exact ⟨m, _, fun O S L hs => src_vsl (hy ▸ hs.sv y) (hs.blk hb) (by rw [cellsT_length]; exact h2), h⟩
  · cases h
/-- 'append' of nothing. -/
theorem iop_append0 {O : Origin} {S : St} {T e : TypeId} {x y : Operand} {z : Option Value} {size bytes : Nat} {d : D} (ho : o.op = .call { callee := .builtin .append, args := #[x, y], argTypes := #[T, T] }) (hd : o.dst = some t) (ht : t < N)
    (hu : P.underlying T = some (.slice e)) (hi : TI P e z size bytes) (hx : SV S x d) (hdd : d = .nils ∨ ∃ id sz off n room, d = .vsl id sz off n room) (hy : ∀ E β a, Rel O N S E β a → Src E β (a.eval y) 0 []) : IOp P O N o S (S.set t d) :=
  iop_of hd ht fun E β a hr => by
    have hy' : a.eval y = .slice none 0 0 ∨ ∃ b c', a.eval y = .slice (some b) 0 c' := by
      rcases hy E β a hr with ⟨h1 | ⟨ad, cap, h1⟩, _⟩ | ⟨b, off, cap, us, h1, _⟩
      · exact .inl h1
      · exact .inr ⟨_, _, h1⟩
      · exact .inr ⟨_, _, h1⟩
    have hxv : ∃ p n c, a.eval x = .slice p n c ∧ n ≤ c := by
      have h1 := hx.rd hr
      generalize a.eval x = v at h1
      rcases hdd with rfl | ⟨id, sz, off, n, room, rfl⟩
      · cases h1; exact ⟨_, _, _, rfl, Nat.le_refl _⟩
      · obtain ⟨cap, hxr, _⟩ := vsl_rsl h1
        obtain ⟨b, p, c, e', f, hv, hb, hlc, _⟩ := rd_rsl hxr
        exact ⟨_, _, _, hv, hlc⟩
    obtain ⟨p, n, c, hxv, hc⟩ := hxv
    refine ⟨a.eval x, ?_, hx.rd hr⟩
    have := run_append_nothing (P := P) (w := E.w) (ty := o.type) hu hi p n c hc (a.eval y) hy'
    simp [execOp, ho, resolve, invoke, builtin, hxv, this]
end
/-- The second argument's type is nothing, if it is a list's. -/
theorem append_types {P : Program} {T T' e e' : TypeId} {ty : TypeId} {args : Array Value} {w : World} (hu : P.underlying T = some (.slice e)) (hu' : P.underlying T' = some (.slice e')) :
    (Builtin.append_ #[T, T'] ty args).run P w = (Builtin.append_ #[T, T] ty args).run P w := by
  rcases h0 : args[0]? with _ | s
  · unfold Builtin.append_; simp only [h0]; rfl
  rcases h1 : args[1]? with _ | x
  · unfold Builtin.append_; simp only [h0, h1]; rfl
  unfold Builtin.append_
  simp only [h0, h1, List.getElem?_toArray, List.getElem?_cons_zero, List.getElem?_cons_succ, Sem.run_bind, run_underlying hu, run_underlying hu', Result.andThen_ok]
  cases s <;> try rfl
  simp only [Sem.run_bind, run_underlying hu, run_underlying hu', Result.andThen_ok]
theorem step_types {P : Program} {N : Nat} {X X' : XS} {o : Oper} {T T' e e' : TypeId} {x y : Operand} (ho : o.op = .call { callee := .builtin .append, args := #[x, y], argTypes := #[T, T'] }) (hu : P.underlying T = some (.slice e)) (hu' : P.underlying T' = some (.slice e'))
    (h : StepOk P N { o with op := .call { callee := .builtin .append, args := #[x, y], argTypes := #[T, T] } } X X') : StepOk P N o X X' := by
  refine ⟨h.fwd, fun O S L hs hoc hL E β a hr next Q hn => ?_⟩
  have h1 := h.go O S L hs hoc hL E β a hr next Q hn
  unfold Oper.wp at h1 ⊢
  have : (execOp a.eval o).run P E.w = (execOp a.eval { o with op := .call { callee := .builtin .append, args := #[x, y], argTypes := #[T, T] } }).run P E.w := by
    simp [execOp, ho, resolve, invoke, builtin, append_types hu hu']
  rw [this]
  exact h1
structure Ar where
  run : ∀ {β : Type}, XS → D → D → (D → XS → Option β) → Option β
def noA : Ar := ⟨fun _ _ _ _ => none⟩
def rplK {β : Type} (id : Nat) (e : TypeId) (n : Nat) (c : Tt D) (X : XS) (q : Nat → XS → Option β) : Option β := match X with
  | ⟨sl, H, nid, dm⟩ => putH id .no H fun H => putH nid (.blk e n c) H fun H => fcN (Nat.add nid 1) fun k => fcN (Nat.lor dm (Nat.shiftLeft 1 id)) fun dm => q nid ⟨sl, H, k, dm⟩
def appC (P : Program) (T : TypeId) : Ar := match P.underlying T with
  | some (.slice e) => match P.info? e with
    | some i => match i.zero with
      | some z => match Nat.beq z.cells.size i.size with
        | true => match Nat.ble 1 i.size with
          | true => ⟨fun X x y q => srcK X i.size y fun m es => match es with
            | [] => tstb (Nat.beq m 0) (match x with
              | .nils => q .nils X
              | .vsl id sz off n room => q (.vsl id sz off n room) X
              | _ => none)
            | d :: es => tstb (Nat.beq (d :: es).length (Nat.mul m i.size)) (tstb ((d :: es).all D.one) (match x with
              | .nils => tstb (Nat.ble m maxLen) (tstb (Nat.ble (Nat.mul m i.bytes) 140737488355328) (newK e (d :: es) X fun id X => q (.vsl id i.size 0 m m) X))
              | .vsl id sz off n room => tstb (Nat.beq sz i.size) (tstb (Nat.beq off 0) (fcN (Nat.add n m) fun k => match Nat.ble k room with
                | true => tstb (Nat.ble 1 m) (blkK X id fun e' _ _ => tstb (Nat.beq e' e) (fcN (Nat.mul n i.size) fun at_ => wrK id at_ (d :: es) X fun X => q (.vsl id i.size 0 k room) X))
                | false => tstb (Nat.ble k maxLen) (tstb (Nat.ble (Nat.mul k i.bytes) 140737488355328) (blkK X id fun e' nn c => tstb (Nat.beq e' e) (tstb (Nat.ble (Nat.mul n i.size) nn) (stL (d :: es) (Nat.mul n i.size) c fun c => fcN (Nat.mul k i.size) fun kk => rplK id e kk c X fun id X => q (.vsl id i.size 0 k k) X))))))
              | _ => none))⟩
          | false => noA
        | false => noA
      | none => noA
    | none => noA
  | _ => noA
section
variable {P : Program} {N : Nat} {X : XS} {o : Oper} {t : Nat} {β : Type} {r : β}
theorem rplK_e {id : Nat} {e : TypeId} {n : Nat} {c : Tt D} {q : Nat → XS → Option β} (h : rplK id e n c X q = some r) : ∃ H', (∀ j, H'.at .no j = if X.nid = j then .blk e n c else if id = j then .no else X.H.at .no j) ∧ q X.nid ⟨X.sl, H', X.nid + 1, X.dm ||| 1 <<< id⟩ = some r := by
  obtain ⟨sl, H, nid, dm⟩ := X
  simp only [rplK] at h
  obtain ⟨H1, hH1, _, h⟩ := putH_e h
  obtain ⟨H2, hH2, _, h⟩ := putH_e h
  rw [fcN_eq, fcN_eq] at h
  exact ⟨H2, fun j => by rw [hH2 j, hH1 j], h⟩
theorem step_rpl {id : Nat} {e e0 : TypeId} {n n0 : Nat} {c c0 : Tt D} {H' : Tt XE} {d : D} (hd : o.dst = some t) (ht : t < 4000) (hk : X.ent id = .blk e0 n0 c0) (hH : ∀ j, H'.at .no j = if X.nid = j then .blk e n c else if id = j then .no else X.H.at .no j)
    (h : ∀ O S L, SubX O X S L → S.ent X.nid = .fresh → IOp P O N o S (((S.setE id .none).setE X.nid (.blk e (cellsT n c))).set t d)) : StepOk P N o X ⟨(stC .dead 12 t).run X.sl d, H', X.nid + 1, X.dm ||| 1 <<< id⟩ := by
  have hf : Fwd X ⟨X.sl, H', X.nid + 1, X.dm ||| 1 <<< id⟩ := ⟨fun i h1 h2 => by
    have h2 : i < X.nid ∨ X.nid + 1 ≤ i := h2
    show H'.at .no i = .no
    rw [hH i, if_neg (by omega)]
    split
    · rfl
    · exact h1, fun i h => by
    show (X.dm ||| 1 <<< id).testBit i = true
    rw [Nat.testBit_or, h]; rfl, Nat.le_succ _, fun i h1 h2 => by
    have h2 : i < X.nid ∨ X.nid + 1 ≤ i := h2
    show H'.at .no i = _
    have : id ≠ i := fun e => by
      subst e
      have h1 : (X.dm ||| 1 <<< id).testBit id = false := h1
      rw [Nat.testBit_or, Nat.one_shiftLeft, Nat.testBit_two_pow_self] at h1
      simp at h1
    rw [hH i, if_neg (by omega), if_neg this]; rfl, fun i => by
    show lpC (H'.at .no i) = _ ∨ lpC (H'.at .no i) = _
    rw [hH i]
    split
    · exact .inl rfl
    · split
      · exact .inl rfl
      · exact .inr rfl⟩
  refine ⟨hf.trans (Fwd.put (X := ⟨X.sl, H', X.nid + 1, X.dm ||| 1 <<< id⟩)), fun O S L hs hoc hL => ?_⟩
  have hfr : S.ent X.nid = .fresh := hs.fr _ (Nat.le_refl _) hL
  have hSe := hs.blk hk
  have hne : id ≠ X.nid := fun h => by rw [h, hfr] at hSe; cases hSe
  have key : ∀ i, X.nid ≠ i → id ≠ i → ((S.setE id .none).setE X.nid (.blk e (cellsT n c))).ent i = S.ent i := fun i h1 h2 => by
    simp only [St.ent, St.setE, entL, look_cons, if_neg h1, if_neg h2]
  have sub : SubX O ⟨X.sl, H', X.nid + 1, X.dm ||| 1 <<< id⟩ ((S.setE id .none).setE X.nid (.blk e (cellsT n c))) L := by
    refine ⟨hs.sl, fun i => ?_, fun i h1 h2 => ?_, hs.lim⟩
    · show EnR O (H'.at .no i) _
      rw [hH i]
      by_cases h1 : X.nid = i
      · subst h1
        rw [if_pos rfl]
        show _ = _
        simp only [St.ent, St.setE, entL, look_cons, if_true]
      · rw [if_neg h1]
        by_cases h2 : id = i
        · rw [if_pos h2]; trivial
        · rw [if_neg h2, key i h1 h2]; exact hs.en i
    · have h1 : X.nid + 1 ≤ i := h1
      have h3 : id ≠ i := fun h9 => by
        subst h9
        have := hs.fr id (by omega) h2
        rw [this] at hSe; cases hSe
      rw [key i (by omega) h3]
      exact hs.fr i (by omega) h2
  have pres : Pres X ⟨X.sl, H', X.nid + 1, X.dm ||| 1 <<< id⟩ S ((S.setE id .none).setE X.nid (.blk e (cellsT n c))) := by
    refine ⟨fun i h1 h2 => ?_, fun i h1 h2 => ?_, fun i => ?_⟩
    · have h2 : i < X.nid ∨ X.nid + 1 ≤ i := h2
      exact key i (by omega) fun h => by subst h; rw [hk] at h1; cases h1
    · refine key i (by have h2 : i < X.nid ∨ X.nid + 1 ≤ i := h2; omega) fun h => ?_
      subst h
      have h1 : (X.dm ||| 1 <<< id).testBit id = false := h1
      rw [Nat.testBit_or, Nat.one_shiftLeft, Nat.testBit_two_pow_self] at h1
      simp at h1
    · by_cases h1 : X.nid = i
      · left; subst h1; simp only [St.ent, St.setE, entL, look_cons, if_true]; rfl
      · by_cases h2 : id = i
        · left; subst h2; simp only [St.ent, St.setE, entL, look_cons, if_neg h1, if_true]; rfl
        · right; rw [key i h1 h2]
  exact .of (h O S L hs hfr) ⟨sub.put ht d, pres.trans hf (Fwd.put (X := ⟨X.sl, H', X.nid + 1, X.dm ||| 1 <<< id⟩)) (Pres.put t d), Kp.set hd d rfl⟩
theorem step_wr {id : Nat} {e : TypeId} {n : Nat} {c c' : Tt D} {H' : Tt XE} {d : D} (hd : o.dst = some t) (ht : t < 4000) (hX : X.ent id = .blk e n c) (hH : ∀ j, H'.at .no j = if id = j then .blk e n c' else X.H.at .no j)
    (h : ∀ O S L, SubX O X S L → IOp P O N o S ((S.setE id (.blk e (cellsT n c'))).set t d)) : StepOk P N o X ⟨(stC .dead 12 t).run X.sl d, H', X.nid, X.dm ||| 1 <<< id⟩ := by
  have hk : X.ent id ≠ .no := fun h => by rw [h] at hX; cases hX
  refine ⟨(Fwd.wr rfl hH hk).trans (Fwd.put (X := ⟨X.sl, H', X.nid, X.dm ||| 1 <<< id⟩)), fun O S L hs hoc hL => ?_⟩
  have hSe := hs.blk hX
  refine .of (h O S L hs) ⟨SubX.put (X := ⟨X.sl, H', X.nid, X.dm ||| 1 <<< id⟩) (hs.setE hH rfl (Nat.le_refl _) (hs.lt (by rw [hSe]; exact fun h => by cases h))) ht d, ?_, Kp.set hd d rfl⟩
  exact Pres.trans (Fwd.wr rfl hH hk) (Fwd.put (X := ⟨X.sl, H', X.nid, X.dm ||| 1 <<< id⟩)) (Pres.wr hk (.inl rfl)) (Pres.put t d)
theorem appC_ok {T : TypeId} {x y : Operand} (ho : o.op = .call { callee := .builtin .append, args := #[x, y], argTypes := #[T, T] }) (hd : o.dst = some t) (ht : t < N) (ht4 : t < 4000) {q : D → XS → Option β}
    (h : (appC P T).run X (opD X.sl x) (opD X.sl y) q = some r) : ∃ d X1, q d X1 = some r ∧ StepOk P N o X ⟨(stC .dead 12 t).run X1.sl d, X1.H, X1.nid, X1.dm⟩ := by
  unfold appC at h
  try dsimp only at h
  split at h
  · rename_i e hu
    try dsimp only at h
    split at h
    · rename_i i hi
      try dsimp only at h
      split at h
      · rename_i z hz
        try dsimp only at h
        split at h
        · rename_i hsz
          try dsimp only at h
          split at h
          · rename_i h1
            have h1 := Nat.le_of_ble_eq_true h1
            have hsz := Nat.eq_of_beq_eq_true hsz
            have hi' := ti_of2 hi
            rw [hz] at hi'
            simp only at h
            obtain ⟨m, es, hsrc, h⟩ := srcK_e (N := N) h
            try dsimp only at h
            split at h
            · obtain ⟨hm, h⟩ := tstb_e h
              have hm := Nat.eq_of_beq_eq_true hm
              subst hm
              try dsimp only at h
              split at h
              · rename_i hx
                exact ⟨_, _, h, step_val hd ht4 fun O S L hs => iop_append0 ho hd ht hu hi' (hx ▸ hs.sv x) (.inl rfl) (hsrc O S L hs)⟩
              · rename_i id sz off n room hx
                exact ⟨_, _, h, step_val hd ht4 fun O S L hs => iop_append0 ho hd ht hu hi' (hx ▸ hs.sv x) (.inr ⟨_, _, _, _, _, rfl⟩) (hsrc O S L hs)⟩
              · cases h
            · rename_i d es
              obtain ⟨h2, h⟩ := tstb_e h
              obtain ⟨h3, h⟩ := tstb_e h
              have h2 : (d :: es).length = m * i.size := Nat.eq_of_beq_eq_true h2
              have hm0 : 0 < m := by
                rcases Nat.eq_zero_or_pos m with h0 | h0
                · rw [h0] at h2; simp at h2
                · exact h0
              split at h
              · rename_i hx
                obtain ⟨h4, h⟩ := tstb_e h
                obtain ⟨h5, h⟩ := tstb_e h
                obtain ⟨c, H', hc, hH, h⟩ := newK_e h
                refine ⟨_, _, h, step_new hd ht4 hH fun O S L hs hfr => ?_⟩
                rw [hc]
                exact iop_wk (iop_append_nilo X.nid ho hd ht hu hi' hsz h1 (hs.eq hx (by simp)) hfr (hsrc O S L hs) h2 h3 (Nat.le_of_ble_eq_true h4) (Nat.le_of_ble_eq_true h5)) (osl_vsl hm0)
              · rename_i id sz off n room hx
                obtain ⟨h4, h9⟩ := tstb_e h
                obtain ⟨h0, h9⟩ := tstb_e h9
                have h4 : sz = i.size := Nat.eq_of_beq_eq_true h4
                have h0 : off = 0 := Nat.eq_of_beq_eq_true h0
                rw [h4, h0] at hx
                rw [fcN_eq] at h9
                split at h9
                · rename_i hroom
                  have hroom : n + m ≤ room := Nat.le_of_ble_eq_true hroom
                  obtain ⟨_, h9⟩ := tstb_e h9
                  obtain ⟨e', nn0, c0, hb0, h9⟩ := blkK_e h9
                  obtain ⟨h7, h9⟩ := tstb_e h9
                  have h7 : e' = e := Nat.eq_of_beq_eq_true h7
                  rw [fcN_eq] at h9
                  obtain ⟨e2, nn, c, c', H', hb, hfit, hsp, hH, h10⟩ := wrK_e h9
                  have he2 : e2 = e := by rw [hb0] at hb; cases hb; exact h7
                  refine ⟨_, _, h10, step_wr hd ht4 hb hH fun O S L hs => ?_⟩
                  rw [he2]
                  rw [he2] at hb
                  exact iop_app_in ho hd ht hu hi' (hx ▸ hs.sv x) (hs.blk hb) (hsrc O S L hs) h2 h3 hroom hm0 (by rw [cellsT_length]; exact hfit) hsp
                · obtain ⟨h5, h9⟩ := tstb_e h9
                  obtain ⟨h6, h9⟩ := tstb_e h9
                  obtain ⟨e', nn, c, hb, h9⟩ := blkK_e h9
                  obtain ⟨h7, h9⟩ := tstb_e h9
                  obtain ⟨h8, h10⟩ := tstb_e h9
                  have h7 : e' = e := Nat.eq_of_beq_eq_true h7
                  have h8 : n * i.size ≤ nn := Nat.le_of_ble_eq_true h8
                  obtain ⟨c', hc, h10⟩ := stL_e h10
                  rw [fcN_eq] at h10
                  obtain ⟨H', hH, h10⟩ := rplK_e h10
                  rw [h7] at hb
                  have hall : cellsT ((n + m) * i.size) c' = cellsT (n * i.size) c ++ (d :: es) := by
                    have hkk : (n + m) * i.size = n * i.size + (d :: es).length := by rw [h2, Nat.add_mul]
                    have := splice_cells (c := c) (c' := c') (n := (n + m) * i.size) (off := n * i.size) (ds := d :: es) (by rw [hkk]; omega) hc
                    rw [← this, splice, hkk]
                    have e1 : (cellsT (n * i.size + (d :: es).length) c).take (n * i.size) = cellsT (n * i.size) c := by
                      have := cells_part (c := c) (off := 0) (s := n * i.size) (n := n * i.size + (d :: es).length) (by omega)
                      rw [List.drop_zero] at this
                      rw [this, cellsT, List.range_eq_range']
                    rw [e1, List.drop_eq_nil_of_le (by rw [cellsT_length]; omega), List.append_nil]
                  refine ⟨_, _, h10, step_rpl hd ht4 hb hH fun O S L hs hfr => ?_⟩
                  show IOp P O N o S (((S.setE id .none).setE X.nid (.blk e (cellsT ((n + m) * i.size) c'))).set t _)
                  rw [hall]
                  refine iop_wk (iop_append_ocore (S1 := S.setE id .none) X.nid ho hd ht hu hi' hsz h1 rfl ?_ hfr ?_ (cellsT_length _ _) (hsrc O S L hs) h2 h3 (Nat.le_of_ble_eq_true h5) (Nat.le_of_ble_eq_true h6)) (osl_vsl (by omega))
                  · intro j
                    by_cases hj : id = j
                    · subst hj; right; simp [St.ent, entL, St.setE, look_cons]
                    · left; simp [St.ent, entL, St.setE, look_cons, hj]
                  · intro E β a hr
                    have hent := hr.h.ent id
                    rw [hs.blk hb, cells_pre h8] at hent
                    obtain ⟨cap, hxr, hlr, hrc⟩ := vsl_rsl ((hx ▸ hs.sv x : SV S x (.vsl id i.size 0 n room)).rd hr)
                    obtain ⟨b, p, cc, e'', f, hv, hβ, hlc, _, hp, hp', hcap, hcs, hcm⟩ := rd_rsl hxr
                    have hp0 : p = 0 := by omega
                    rw [hp0] at hv
                    right
                    obtain ⟨vs, sp, hown, hh, hX, hvs⟩ := blk_at hent hβ
                    obtain ⟨us, ws, rfl, g5, g6⟩ := hvs.split
                    rw [hh] at hcap; cases hcap
                    refine ⟨b, cap, _, us, hv, hlc, hcm, hh, by omega, by simp, g5, hown, hX, ?_⟩
                    intro j hj hbj
                    by_cases hji : id = j
                    · subst hji; simp [St.ent, entL, St.setE, look_cons, Ent.held] at hj
                    · have hj' : (S.ent j).held = true := by simpa [St.ent, entL, St.setE, look_cons, hji] using hj
                      exact hji (hr.h.inj id j b (by rw [hs.blk hb]; rfl) hj' hβ hbj)
              · cases h
          · cases h
        · cases h
      · cases h
    · cases h
  · cases h
end
/-! Copies; what is cleared. -/
def cpC (P : Program) (T : TypeId) : Ar := match P.underlying T with
  | some (.slice e) => match P.info? e with
    | some i => ⟨fun X x y q => match x with
      | .vsl id sz off len _ => tstb (Nat.beq sz i.size) (srcK X i.size y fun m es => tstb (Nat.beq es.length (Nat.mul m i.size)) (match Nat.ble m len with
        | true => tstb (es.all D.one) (blkK X id fun _ nn _ => tstb (Nat.ble (Nat.add off (Nat.mul len i.size)) nn) (wrK id off es X fun X => q (.int .i64 (.ofNat m)) X))
        | false => fcL (tkF (Nat.mul len i.size) es) fun es => tstb (es.all D.one) (blkK X id fun _ nn _ => tstb (Nat.ble (Nat.add off (Nat.mul len i.size)) nn) (wrK id off es X fun X => q (.int .i64 (.ofNat len)) X))))
      | _ => none⟩
    | none => noA
  | _ => noA
structure Clr where
  run : ∀ {β : Type}, XS → D → (XS → Option β) → Option β
def noClr : Clr := ⟨fun _ _ _ => none⟩
def clrC (P : Program) (T : TypeId) : Clr := match P.underlying T with
  | some (.slice e) => match P.info? e with
    | some i => match i.zero with
      | some z => match Nat.beq z.cells.size i.size with
        | true => match z.cells.toList.all Value.oneCell' with
          | true => ⟨fun X x q => match x with
            | .vsl id sz off len _ => tstb (Nat.beq sz i.size) (wrK id off (List.replicate (Nat.mul len i.size) .dead) X q)
            | _ => none⟩
          | false => noClr
        | false => noClr
      | none => noClr
    | none => noClr
  | _ => noClr
section
variable {P : Program} {N : Nat} {X : XS} {o : Oper} {t : Nat} {β : Type} {r : β}
theorem cpC_ok {T T2 : TypeId} {x y : Operand} (ho : o.op = .call { callee := .builtin .copy, args := #[x, y], argTypes := #[T, T2] }) (hd : o.dst = some t) (ht : t < N) (ht4 : t < 4000) {q : D → XS → Option β}
    (h : (cpC P T).run X (opD X.sl x) (opD X.sl y) q = some r) : ∃ d X1, q d X1 = some r ∧ StepOk P N o X ⟨(stC .dead 12 t).run X1.sl d, X1.H, X1.nid, X1.dm⟩ := by
  unfold cpC at h
  split at h
  · rename_i e hu
    split at h
    · rename_i i hi
      dsimp only at h
      split at h
      · rename_i id sz off len room hx
        obtain ⟨h4, h⟩ := tstb_e h
        have h4 : sz = i.size := Nat.eq_of_beq_eq_true h4
        rw [h4] at hx
        obtain ⟨m, es, hsrc, h⟩ := srcK_e (N := N) h
        obtain ⟨h2, h⟩ := tstb_e h
        have h2 : es.length = m * i.size := Nat.eq_of_beq_eq_true h2
        split at h
        · rename_i hle
          have hle := Nat.le_of_ble_eq_true hle
          obtain ⟨h3, h⟩ := tstb_e h
          obtain ⟨e0, nn0, c0, hb0, h⟩ := blkK_e h
          obtain ⟨h5, h⟩ := tstb_e h
          have h5 : off + len * i.size ≤ nn0 := Nat.le_of_ble_eq_true h5
          obtain ⟨e2, nn, c, c', H', hb, hfit, hsp, hH, h⟩ := wrK_e h
          have hnn : nn0 = nn := by rw [hb0] at hb; cases hb; rfl
          have htk : es.take (min m len * i.size) = es := by rw [Nat.min_eq_left hle, ← h2, List.take_length]
          refine ⟨_, _, h, step_wr hd ht4 hb hH fun O S L hs => ?_⟩
          exact iop_copy_vsl ho hd ht hu (ti_of2 hi) (hx ▸ hs.sv x) (hs.blk hb) (hsrc O S L hs) h2 (by rw [htk]; exact h3) (by rw [cellsT_length, ← hnn]; exact h5) (by rw [Nat.min_eq_left hle]; rfl) (by rw [htk]; exact hsp)
        · rename_i hle
          have hle : ¬ m ≤ len := fun h9 => by rw [Nat.ble_eq_true_of_le h9] at hle; cases hle
          rw [fcL_eq, tkF_eq] at h
          obtain ⟨h3, h⟩ := tstb_e h
          obtain ⟨e0, nn0, c0, hb0, h⟩ := blkK_e h
          obtain ⟨h5, h⟩ := tstb_e h
          have h5 : off + len * i.size ≤ nn0 := Nat.le_of_ble_eq_true h5
          obtain ⟨e2, nn, c, c', H', hb, hfit, hsp, hH, h⟩ := wrK_e h
          have hnn : nn0 = nn := by rw [hb0] at hb; cases hb; rfl
          have htk : es.take (min m len * i.size) = es.take (len.mul i.size) := by rw [Nat.min_eq_right (by omega)]; rfl
          refine ⟨_, _, h, step_wr hd ht4 hb hH fun O S L hs => ?_⟩
          exact iop_copy_vsl ho hd ht hu (ti_of2 hi) (hx ▸ hs.sv x) (hs.blk hb) (hsrc O S L hs) h2 (by rw [htk]; exact h3) (by rw [cellsT_length, ← hnn]; exact h5) (by rw [Nat.min_eq_right (by omega)]; rfl) (by rw [htk]; exact hsp)
      · cases h
    · cases h
  · cases h
theorem clrC_ok {T : TypeId} {x : Operand} (ho : o.op = .call { callee := .builtin .clear, args := #[x], argTypes := #[T] }) (hd : o.dst = none) {q : XS → Option β}
    (h : (clrC P T).run X (opD X.sl x) q = some r) : ∃ X1, StepOk P N o X X1 ∧ q X1 = some r := by
  unfold clrC at h
  split at h
  · rename_i e hu
    split at h
    · rename_i i hi
      split at h
      · rename_i z hz
        split at h
        · rename_i hsz
          have hsz := Nat.eq_of_beq_eq_true hsz
          split at h
          · rename_i hone
            dsimp only at h
            split at h
            · rename_i id sz off len room hx
              obtain ⟨h4, h⟩ := tstb_e h
              have h4 : sz = i.size := Nat.eq_of_beq_eq_true h4
              rw [h4] at hx
              obtain ⟨e2, nn, c, c', H', hb, hfit, hsp, hH, h⟩ := wrK_e h
              have hi' := ti_of2 hi
              rw [hz] at hi'
              have hk : X.ent id ≠ .no := fun h => by rw [h] at hb; cases hb
              refine ⟨_, ⟨Fwd.wr rfl hH hk, fun O S L hs hoc hL => ?_⟩, h⟩
              have hSe := hs.blk hb
              refine .of (iop_clear_v ho hd hu hi' hsz hone (hx ▸ hs.sv x) hSe (by rw [cellsT_length]; rw [List.length_replicate] at hfit; exact hfit) hsp) ⟨?_, Pres.wr hk (.inl rfl), fun _ _ => rfl⟩
              exact hs.setE hH rfl (Nat.le_refl _) (hs.lt (by rw [hSe]; exact fun h => by cases h))
            · cases h
          · cases h
        · cases h
      · cases h
    · cases h
  · cases h
end
end Go.IL
set_option linter.unusedVariables false
namespace Go.IL
/-! Calls of functions: walked at once, all memory in sight. -/
structure CR where
  d : D
  H : Tt XE
  nid : Nat
  dm : Nat
abbrev CL := FuncId → List D → Tt XE → Nat → Nat → Option CR
def mkX (H : Tt XE) (nid dm : Nat) : XS := ⟨.e, H, nid, dm⟩
/-- What a call is to be. -/
structure FGo (P : Program) (f : FuncId) (ds : List D) (H : Tt XE) (nid dm : Nat) (R : CR) : Prop where
  fwd : Fwd (mkX H nid dm) (mkX R.H R.nid R.dm)
  cal : Callable P f
  go : ∀ (O : Origin) (E : Env) (β : Names) (S : St) (L : Nat) (vs : List Value), O.round = none → O.dt = [] → O.nm = false → OC O (mkX H nid dm) S → HOk O E β S.ent → SubX O (mkX H nid dm) S L → R.nid ≤ L → RdL E β vs ds →
    Calls P f vs.toArray E.w fun e w' => ∃ v, e = .returned v ∧ ∃ S' E' β', E'.w = w' ∧ HOk O E' β' S'.ent ∧ Rd E' β' v R.d ∧ SubX O (mkX R.H R.nid R.dm) S' L ∧ Pres (mkX H nid dm) (mkX R.H R.nid R.dm) S S'
def FOk (P : Program) (cl : CL) : Prop := ∀ f ds H nid dm R, cl f ds H nid dm = some R → FGo P f ds H nid dm R
theorem rd_undef {E E' : Env} {β β' : Names} : ∀ (d : D), Rd E β undef d → Rd E' β' undef d
  | .dead, _ => .dead _ _
  | .tuple cs, h => by
    generalize hu : undef = v at h
    cases h with
    | tuple _ vs _ h =>
      have h1 : #[] = vs.toArray := by unfold undef at hu; injection hu
      have h2 : vs = [] := by cases vs with
        | nil => rfl
        | cons a l => simp at h1
      subst h2
      cases h
      exact .tuple _ _ _ (.nil _)
  | .cnd b d, h => by
    cases h with
    | cnd _ _ _ _ h1 h2 => exact .cnd _ _ _ _ (fun hb => rd_undef d (h1 hb)) h2
  | .bool _, h => by cases h
  | .int _ _, h => by cases h
  | .float _ _, h => by cases h
  | .str _, h => by cases h
  | .slice _ _, h => by cases h
  | .nils, h => by cases h
  | .agg _, h => by cases h
  | .fptr _, h => by cases h
  | .nilp, h => by cases h
  | .nilf, h => by cases h
  | .nili, h => by cases h
  | .fn _ _, h => by cases h
  | .mv _ _, h => by cases h
  | .ref _ _, h => by cases h
  | .rsl _ _ _ _ _, h => by cases h
  | .vsl _ _ _ _ _, h => by cases h
  | .gsl _ _ _, h => by cases h
  | .osl _ _ _, h => by cases h
  | .yld _, h => by cases h
  | .mref _, h => by cases h
  | .optp _, h => by cases h
  | .mapp, h => by cases h
theorem fresh_num : ∀ (H : List (Nat × Ent)), ∃ k, ∀ i, (entL H i).num ≠ some k := by
  intro H
  have key : ∃ m, ∀ x ∈ H, ∀ k, x.2.num = some k → k < m := by
    induction H with
    | nil => exact ⟨0, fun x hx => by cases hx⟩
    | cons x H ih =>
      obtain ⟨m, hm⟩ := ih
      refine ⟨m + (x.2.num.getD 0) + 1, fun y hy k hk => ?_⟩
      rcases List.mem_cons.1 hy with rfl | hy
      · rw [hk]; simp; omega
      · have := hm y hy k hk; omega
  obtain ⟨m, hm⟩ := key
  refine ⟨m, fun i h => ?_⟩
  unfold entL at h
  rcases look_mem (z := defE i) (t := i) (l := H) with h1 | h1
  · rw [h1] at h
    unfold defE at h
    split at h <;> cases h
  · have := hm _ h1 m h
    omega
theorem get_allD {N : Nat} {S : St} {s : Nat} (h : s < N) : look .dead s ((List.range (allD N S).length).zip (allD N S)) = S.get s := by
  have key : ∀ (f : Nat → D) (n k : Nat), k ≤ s → s < k + n → look .dead s ((List.range' k n).zip ((List.range' k n).map f)) = f s := by
    intro f n
    induction n with
    | zero => intro k h1 h2; omega
    | succ n ih =>
      intro k h1 h2
      rw [List.range'_succ, List.map_cons, List.zip_cons_cons, look_cons]
      by_cases hks : k = s
      · subst hks; rw [if_pos rfl]
      · rw [if_neg hks]; exact ih (k + 1) (by omega) (by omega)
  have := key S.get N 0 (Nat.zero_le _) (by omega)
  simpa [allD, List.range_eq_range'] using this
section
variable {P : Program} {O : Origin} {N : Nat} {S : St} {o : Oper} {t : Nat}
theorem SubX.at_nid {X : XS} {L : Nat} (hs : SubX O X S L) {i : Nat} (h1 : X.nid ≤ i) (h2 : i < L) : X.ent i = .no := by
  have h := hs.en i
  rw [hs.fr i h1 h2] at h
  show X.H.at .no i = .no
  cases hx : X.H.at .no i with
  | no => rfl
  | blk e n c => rw [hx] at h; cases h
  | loop N f st pend ps as bd => rw [hx] at h; obtain ⟨k, h1, _⟩ := h; cases h1
  | mp l => rw [hx] at h; cases h
theorem EnR.lc {O O' : Origin} {x : XE} {e : Ent} (h : EnR O x e) (hl : ∀ k, e.num = some k → O'.lc k = O.lc k) : EnR O' x e := by
  cases x with
  | no => trivial
  | blk e n c => exact h
  | loop N f st pend ps as bd =>
    obtain ⟨k, h1, h2⟩ := h
    exact ⟨k, h1, by rw [hl k (by rw [h1]; rfl)]; exact h2⟩
  | mp l => exact h
/-- A call, at its operation: what it is handed is known by values. -/
theorem call_go {X : XS} {f : FuncId} {ds : List D} {R : CR} (hd : o.dst = some t) (ht : t < N) (ht4 : t < 4000) (hg : FGo P f ds X.H (X.nid + 1) X.dm R)
    (h : ∀ O S L, SubX O X S L → ∀ E β a, Rel O N S E β a → ∃ vs : List Value, (execOp a.eval o).run P E.w = .ok (.enter f vs.toArray) E.w ∧ RdL E β vs ds) : StepOk P N o X ⟨(stC .dead 12 t).run X.sl R.d, R.H, R.nid, R.dm⟩ := by
  have hfw : Fwd X ⟨X.sl, R.H, R.nid, R.dm⟩ := ⟨fun i h1 h2 => hg.fwd.p0 i h1 (by
    rcases h2 with h2 | h2
    · left; show i < X.nid + 1; omega
    · right; exact h2), hg.fwd.pm, by have : X.nid + 1 ≤ R.nid := hg.fwd.nid; show X.nid ≤ R.nid; omega, fun i h1 h2 => hg.fwd.p4 i h1 (by
    rcases h2 with h2 | h2
    · left; show i < X.nid + 1; omega
    · right; exact h2), hg.fwd.p5⟩
  refine ⟨hfw.trans (Fwd.put (X := ⟨X.sl, R.H, R.nid, R.dm⟩)), fun O S L hs hoc hL => ?_⟩
  have hL : R.nid ≤ L := hL
  have hn1 : X.nid + 1 ≤ R.nid := hg.fwd.nid
  intro E β a hr next Q hn
  obtain ⟨vs, hrun, hv⟩ := h O S L hs E β a hr
  unfold Oper.wp
  rw [hrun]
  simp only [Oper.upon, hd]
  obtain ⟨Ow, OX, Of, Og, Or, Okv, Olv, Odv, Olc, Omb, Odt, Onm⟩ := O
  obtain ⟨bs, hbs, hnd, hall⟩ := hr.nd
  obtain ⟨k2, hk2⟩ := fresh_num S.H
  let O' : Origin := ⟨Ow, OX, Of, Og, none, fun j => if j = k2 then a.tmps.toList else Okv j, Olv, fun j => if j = k2 then bs else Odv j, Olc, Omb, [], false⟩
  have hcomp : ∀ e : Ent, e.num ≠ some k2 → compat ⟨Ow, OX, Of, Og, Or, Okv, Olv, Odv, Olc, Omb, Odt, Onm⟩ O' e ∧ compat O' ⟨Ow, OX, Of, Og, Or, Okv, Olv, Odv, Olc, Omb, Odt, Onm⟩ e := fun e he => by
    cases e with
    | kept j ds => have : j ≠ k2 := fun h => he (by rw [h]; rfl)
                   simp [compat, O', this]
    | loop j => simp [compat, O']
    | _ => exact ⟨trivial, trivial⟩
  have h0 : HOk O' E β (entL S.H) := hr.h.swap ⟨rfl, rfl, rfl, rfl, rfl⟩ fun id => .inl ⟨rfl, (hcomp _ (hk2 id)).1⟩
  let S0 : St := ⟨[], (X.nid, .kept k2 (allD N S)) :: S.H⟩
  have h1 : HOk O' E β S0.ent := h0.addK (by simpa [O'] using rel_allD hr) fun c hc => (hall c (by simpa [O'] using hc)).2
  have hS0 : ∀ i, X.nid ≠ i → S0.ent i = S.ent i := fun i hi => by simp [S0, St.ent, entL, look_cons, hi]
  have hS0k : S0.ent X.nid = .kept k2 (allD N S) := by simp [S0, St.ent, entL, look_cons]
  have hsub : SubX O' (mkX X.H (X.nid + 1) X.dm) S0 L := by
    refine ⟨fun s => .inr (at_e _ _), fun i => ?_, fun i g1 g2 => ?_, hs.lim⟩
    · show EnR O' (X.H.at .no i) _
      by_cases hi : X.nid = i
      · subst hi
        have : X.H.at .no X.nid = .no := hs.at_nid (Nat.le_refl _) (by omega)
        rw [this]; trivial
      · rw [hS0 i hi]
        exact (hs.en i).lc fun k hk => rfl
    · have g1 : X.nid + 1 ≤ i := g1
      rw [hS0 i (by omega)]
      exact hs.fr i (by omega) g2
  have hoc' : OC O' (mkX X.H (X.nid + 1) X.dm) S0 := by
    refine ⟨hoc.foot, fun j => ?_⟩
    by_cases hj : j = k2
    · subst hj
      exact .inr ⟨X.nid, _, Nat.lt_succ_self _, hs.at_nid (Nat.le_refl _) (by omega), hS0k⟩
    · rcases hoc.dv j with g | ⟨i, ds', g1, g2, g3⟩
      · left; show (if j = k2 then bs else Odv j) = []; rw [if_neg hj]; exact g
      · exact .inr ⟨i, ds', by show i < X.nid + 1; omega, g2, by rw [hS0 i (by omega)]; exact g3⟩
  refine (hg.go O' E β S0 L vs rfl rfl rfl hoc' h1 hsub hL hv).mono ?_
  rintro e w' ⟨v, rfl, S', E', β', rfl, hok, hrd, hsub', hpres⟩
  have hkeep : S'.ent X.nid = .kept k2 (allD N S) := by
    rw [hpres.p1 X.nid (hs.at_nid (Nat.le_refl _) (by omega)) (.inl (Nat.lt_succ_self _)), hS0k]
  have hkept := hok.ent X.nid
  rw [hkeep] at hkept
  obtain ⟨k1, k2'⟩ := hkept
  have hkv : O'.kv k2 = a.tmps.toList := by simp [O']
  have hdk : O'.dv k2 = bs := by simp [O']
  rw [hkv] at k1; rw [hdk] at k2'
  let S1 : St := ⟨S.sl, (X.nid, .none) :: S'.H⟩
  have hS1 : ∀ i, X.nid ≠ i → S1.ent i = S'.ent i := fun i hi => by simp [S1, St.ent, entL, look_cons, hi]
  have hS1k : S1.ent X.nid = .none := by simp [S1, St.ent, entL, look_cons]
  have hnum : ∀ i, X.nid ≠ i → (S'.ent i).num ≠ some k2 := fun i hi hc => by
    rcases hpres.p3 i with g | g
    · rw [g] at hc; cases hc
    · rw [g, hS0 i hi] at hc; exact hk2 i hc
  have hrel : Rel ⟨Ow, OX, Of, Og, Or, Okv, Olv, Odv, Olc, Omb, Odt, Onm⟩ N S1 E' β' a := by
    refine ⟨hr.n, ⟨bs, hbs, hnd, fun c hc => ⟨(hall c hc).1, k2' c hc⟩⟩, ?_, fun s => ?_⟩
    · refine HOk.swap (O := O') (H := S'.ent) hok ⟨rfl, rfl, rfl, rfl, rfl⟩ fun id => ?_
      by_cases hid : X.nid = id
      · right; subst hid; exact hS1k
      · left; exact ⟨hS1 id hid, (hcomp _ (hnum id hid)).2⟩
    · rcases Nat.lt_or_ge s N with hsN | hsN
      · have := rdl_slots0 k1 s
        rw [get_allD hsN] at this
        exact this
      · have hu : a.tmps.getD s undef = undef := by
          have : a.tmps.size = N := hr.n
          simp [Array.getD_eq_getD_getElem?, Array.getElem?_eq_none (show a.tmps.size ≤ s by omega)]
        have := hr.sl s
        rw [hu] at this ⊢
        exact rd_undef _ this
  have hsub1 : SubX ⟨Ow, OX, Of, Og, Or, Okv, Olv, Odv, Olc, Omb, Odt, Onm⟩ ⟨X.sl, R.H, R.nid, R.dm⟩ S1 L := by
    refine ⟨hs.sl, fun i => ?_, fun i g1 g2 => ?_, hs.lim⟩
    · by_cases hi : X.nid = i
      · subst hi
        have : R.H.at .no X.nid = .no := hg.fwd.p0 X.nid (hs.at_nid (Nat.le_refl _) (by omega)) (.inl (Nat.lt_succ_self _))
        show EnR _ (R.H.at .no X.nid) _
        rw [this]; trivial
      · rw [hS1 i hi]
        exact (hsub'.en i).lc fun k hk => rfl
    · have g1 : R.nid ≤ i := g1
      rw [hS1 i (by omega)]
      exact hsub'.fr i g1 g2
  have hpres1 : Pres X ⟨X.sl, R.H, R.nid, R.dm⟩ S S1 := by
    refine ⟨fun i g1 g2 => ?_, fun i g1 g2 => ?_, fun i => ?_⟩
    · have g2 : i < X.nid ∨ R.nid ≤ i := g2
      have hi : X.nid ≠ i := by omega
      rw [hS1 i hi, hpres.p1 i g1 (by rcases g2 with g2 | g2; exact .inl (by show i < X.nid + 1; omega); exact .inr g2), hS0 i hi]
    · have g2 : i < X.nid ∨ R.nid ≤ i := g2
      have hi : X.nid ≠ i := by omega
      rw [hS1 i hi, hpres.p2 i g1 (by rcases g2 with g2 | g2; exact .inl (by show i < X.nid + 1; omega); exact .inr g2), hS0 i hi]
    · by_cases hi : X.nid = i
      · subst hi; left; rw [hS1k]; rfl
      · rw [hS1 i hi]
        rcases hpres.p3 i with g | g
        · exact .inl g
        · right; rw [g, hS0 i hi]
  exact hn _ E' β' _ ⟨hsub1.put ht4 R.d, Pres.trans hfw (Fwd.put (X := ⟨X.sl, R.H, R.nid, R.dm⟩)) hpres1 (Pres.put t R.d), Kp.set hd _ rfl⟩ (hrel.set ht hrd)
end
end Go.IL
set_option linter.unusedVariables false
namespace Go.IL
/-! Operations, all of them; regions in the text's order. -/
def doCall {β : Type} (cl : CL) (f : FuncId) (ds : List D) (X : XS) (q : D → XS → Option β) : Option β := match X with
  | ⟨sl, H, nid, dm⟩ => fcN (Nat.add nid 1) fun k => match cl f ds H k dm with
    | some R => match R with
      | ⟨d, H, nid, dm⟩ => q d ⟨sl, H, nid, dm⟩
    | none => none
structure Kr where
  run : ∀ {β : Type}, CL → XS → (D → XS → Option β) → Option β
def clC (x : Operand) (xs : List Operand) : Kr := match x with
  | .func f => let r := rdsC xs; ⟨fun cl X q => r.run X.sl fun ds => doCall cl f ds X q⟩
  | x => let a := rdC x; let r := rdsC xs; ⟨fun cl X q => a.run X.sl fun g => r.run X.sl fun ds => match g with
    | .fn f caps => fcL (apF ds caps) fun ds => doCall cl f ds X q
    | .mv f first => fcL (apF first ds) fun ds => doCall cl f ds X q
    | _ => none⟩
section
variable {P : Program} {N : Nat} {X : XS} {o : Oper} {t : Nat} {β : Type} {r : β}
theorem doCall_e {cl : CL} {f : FuncId} {ds : List D} {q : D → XS → Option β} (h : doCall cl f ds X q = some r) : ∃ R, cl f ds X.H (X.nid + 1) X.dm = some R ∧ q R.d ⟨X.sl, R.H, R.nid, R.dm⟩ = some r := by
  obtain ⟨sl, H, nid, dm⟩ := X
  simp only [doCall, fcN_eq] at h
  try dsimp only at h
  split at h
  · rename_i R hR
    exact ⟨R, hR, h⟩
  · cases h
theorem clC_ok {cl : CL} (hcl : FOk P cl) {x : Operand} {xs : Array Operand} {ts : Array TypeId} (ho : o.op = .call { callee := .value x, args := xs, argTypes := ts }) (hd : o.dst = some t) (ht : t < N) (ht4 : t < 4000) {q : D → XS → Option β} (h : (clC x xs.toList).run cl X q = some r) :
    ∃ d X1, q d X1 = some r ∧ StepOk P N o X ⟨(stC .dead 12 t).run X1.sl d, X1.H, X1.nid, X1.dm⟩ := by
  obtain ⟨xl, rfl⟩ : ∃ xl : List Operand, xs = xl.toArray := ⟨xs.toList, by simp⟩
  rw [show xl.toArray.toList = xl from rfl] at h
  unfold clC at h
  try dsimp only at h
  split at h
  · rename_i f
    simp only [rdsC_eq] at h
    obtain ⟨R, hR, h⟩ := doCall_e h
    have hg := hcl _ _ _ _ _ _ hR
    refine ⟨_, _, h, call_go hd ht ht4 hg fun O S L hs E β a hr => ⟨xl.map a.eval, ?_, (opDs_ok hs _).rd hr⟩⟩
    simp [execOp, ho, resolve, Deferred.ofValue, Act.eval, invoke, run_callFunc hg.cal]
  · simp only [rdC_eq, rdsC_eq] at h
    try dsimp only at h
    split at h
    · rename_i f caps hx
      rw [fcL_eq, apF_eq] at h
      obtain ⟨R, hR, h⟩ := doCall_e h
      have hg := hcl _ _ _ _ _ _ hR
      have hh : ∀ O S L, SubX O X S L → ∀ E β a, Rel O N S E β a → ∃ vs : List Value, (execOp a.eval o).run P E.w = .ok (.enter f vs.toArray) E.w ∧ RdL E β vs (opDs X.sl xl ++ caps) := fun O S L hs E β a hr => by
        obtain ⟨vs, hev, hl⟩ := rd_fn ((hx ▸ hs.sv x : SV S x (.fn f caps)).rd hr)
        refine ⟨xl.map a.eval ++ vs, ?_, ((opDs_ok hs _).rd hr).append hl⟩
        simp [execOp, ho, resolve, Deferred.ofValue, hev, invoke, run_callFunc hg.cal]
      exact ⟨_, _, h, call_go hd ht ht4 hg hh⟩
    · rename_i f first hx
      rw [fcL_eq, apF_eq] at h
      obtain ⟨R, hR, h⟩ := doCall_e h
      have hg := hcl _ _ _ _ _ _ hR
      have hh : ∀ O S L, SubX O X S L → ∀ E β a, Rel O N S E β a → ∃ vs : List Value, (execOp a.eval o).run P E.w = .ok (.enter f vs.toArray) E.w ∧ RdL E β vs (first ++ opDs X.sl xl) := fun O S L hs E β a hr => by
        obtain ⟨us, hev, hl⟩ := rd_mv ((hx ▸ hs.sv x : SV S x (.mv f first)).rd hr)
        refine ⟨us ++ xl.map a.eval, ?_, hl.append ((opDs_ok hs _).rd hr)⟩
        simp [execOp, ho, resolve, Deferred.ofValue, hev, invoke, run_callFunc hg.cal]
      exact ⟨_, _, h, call_go hd ht ht4 hg hh⟩
    · cases h
end
structure Or where
  run : CL → XS → Option XS
def noO : Or := ⟨fun _ _ => none⟩
def kdO : Op → Nat
  | .box _ _ => 1
  | .alloc _ => 1
  | .buildSlice _ _ _ => 1
  | .makeSlice _ _ _ => 1
  | .makeMap _ _ => 1
  | .call c => match c.callee with
    | .builtin .append => 2
    | .builtin .copy => 4
    | .value _ => 3
    | _ => 0
  | _ => 0
def slT (P : Program) (T : TypeId) : Bool := match P.underlying T with
  | some (.slice _) => true
  | _ => false
theorem slT_e {P : Program} {T : TypeId} (h : slT P T = true) : ∃ e, P.underlying T = some (.slice e) := by
  unfold slT at h
  split at h
  · rename_i e he
    exact ⟨e, he⟩
  · cases h
def opR (P : Program) (N : Nat) (o : Oper) : Or := match o.dst with
  | some t => match Nat.blt t N with
    | false => noO
    | true => match Nat.blt t 4000 with
      | false => noO
      | true => let w := putR t; match kdO o.op with
        | 0 => let v := valC P o.op; ⟨fun _ X => v.run X fun d => w.run X d some⟩
        | 1 => let v := newC P o.op; ⟨fun _ X => v.run X fun d X => w.run X d some⟩
        | 2 => match o.op with
          | .call c => match c.args.toList with
            | [x, y] => match c.argTypes.toList with
              | [T, T'] => match slT P T && slT P T' with
                | true => let a := rdC x; let b := rdC y; let v := appC P T; ⟨fun _ X => a.run X.sl fun d => b.run X.sl fun e => v.run X d e fun d X => w.run X d some⟩
                | false => noO
              | _ => noO
            | _ => noO
          | _ => noO
        | 4 => match o.op with
          | .call c => match c.callee with
            | .builtin .copy => match c.args.toList with
              | [x, y] => match c.argTypes.toList with
                | [T, _] => let a := rdC x; let b := rdC y; let v := cpC P T; ⟨fun _ X => a.run X.sl fun d => b.run X.sl fun e => v.run X d e fun d X => w.run X d some⟩
                | _ => noO
              | _ => noO
            | _ => noO
          | _ => noO
        | _ => match o.op with
          | .call c => match c.callee with
            | .value x => let v := clC x c.args.toList; ⟨fun cl X => v.run cl X fun d X => w.run X d some⟩
            | _ => noO
          | _ => noO
  | none => match o.op with
    | .mapUpdate T x y u => let a := rdC x; let b := rdC y; let c := rdC u; let v := mpuC P T; ⟨fun _ X => a.run X.sl fun d => b.run X.sl fun e => c.run X.sl fun f => v.run X d e f some⟩
    | .store T x y => let a := rdC x; let b := rdC y; let v := stoC P T; ⟨fun _ X => a.run X.sl fun d => b.run X.sl fun e => v.run X d e some⟩
    | .call c => match c.callee with
      | .builtin .clear => match c.args.toList with
        | [x] => match c.argTypes.toList with
          | [T] => let a := rdC x; let v := clrC P T; ⟨fun _ X => a.run X.sl fun d => v.run X d some⟩
          | _ => noO
        | _ => noO
      | _ => noO
    | _ => noO
section
variable {P : Program} {N : Nat} {X X' : XS} {o : Oper} {t : Nat}
theorem opR_ok {cl : CL} (hcl : FOk P cl) (h : (opR P N o).run cl X = some X') : noDefer o.op = true ∧ StepOk P N o X X' := by
  unfold opR at h
  try dsimp only at h
  split at h
  · rename_i t hd
    try dsimp only at h
    split at h
    · cases h
    · rename_i ht
      rw [Nat.blt_eq] at ht
      try dsimp only at h
      split at h
      · cases h
      · rename_i ht4
        rw [Nat.blt_eq] at ht4
        simp only at h
        try dsimp only at h
        split at h
        · obtain ⟨d, h1, h2⟩ := valC_ok hd ht h
          obtain ⟨_, h3⟩ := putR_e h2
          cases h3
          exact ⟨valC_nd h, step_val hd ht4 h1⟩
        · obtain ⟨d, X1, h1, h2⟩ := newC_ok hd ht ht4 h
          obtain ⟨_, h3⟩ := putR_e h1
          cases h3
          exact ⟨newC_nd h, h2⟩
        · rename_i hk
          try dsimp only at h
          split at h
          · rename_i c ho
            obtain ⟨cl', as, ts⟩ := c
            simp only at h
            try dsimp only at h
            split at h
            · rename_i x y ha
              try dsimp only at h
              split at h
              · rename_i T T' hT
                try dsimp only at h
                split at h
                · rename_i hTT
                  rw [Bool.and_eq_true] at hTT
                  obtain ⟨e1, he1⟩ := slT_e hTT.1
                  obtain ⟨e2, he2⟩ := slT_e hTT.2
                  simp only [rdC_eq] at h
                  have hcal : cl' = .builtin .append := by
                    rw [ho] at hk
                    simp only [kdO] at hk
                    split at hk
                    · rfl
                    · cases hk
                    · cases hk
                    · cases hk
                  obtain ⟨d, X1, h1, h2⟩ := appC_ok (o := { o with op := .call { callee := .builtin .append, args := #[x, y], argTypes := #[T, T] } }) rfl hd ht ht4 h
                  obtain ⟨_, h3⟩ := putR_e h1
                  cases h3
                  exact ⟨by rw [ho]; rfl, step_types (by rw [ho, arr_of' ha, arr_of' hT, hcal]) he1 he2 h2⟩
                · cases h
              · cases h
            · cases h
          · cases h
        · try dsimp only at h
          split at h
          · rename_i c ho
            obtain ⟨cl', as, ts⟩ := c
            try dsimp only at h
            split at h
            · split at h
              · rename_i x y ha
                split at h
                · rename_i T T2 hT
                  simp only [rdC_eq] at h
                  obtain ⟨d, X1, h1, h2⟩ := cpC_ok (o := o) (by rw [ho, arr_of' ha, arr_of' hT]) hd ht ht4 h
                  obtain ⟨_, h3⟩ := putR_e h1
                  cases h3
                  exact ⟨by rw [ho]; rfl, h2⟩
                · cases h
              · cases h
            · cases h
          · cases h
        · try dsimp only at h
          split at h
          · rename_i c ho
            obtain ⟨cl', as, ts⟩ := c
            simp only at h
            try dsimp only at h
            split at h
            · rename_i x
              obtain ⟨d, X1, h1, h2⟩ := clC_ok hcl ho hd ht ht4 h
              obtain ⟨_, h3⟩ := putR_e h1
              cases h3
              exact ⟨by rw [ho]; rfl, h2⟩
            · cases h
          · cases h
  · rename_i hd
    try dsimp only at h
    split at h
    · rename_i T x y u ho
      simp only [rdC_eq] at h
      obtain ⟨X1, h1, h2⟩ := mpuC_ok ho hd h
      cases h2
      exact ⟨by rw [ho]; rfl, h1⟩
    · rename_i T x y ho
      simp only [rdC_eq] at h
      obtain ⟨X1, h1, h2⟩ := stoC_ok ho hd h
      cases h2
      exact ⟨by rw [ho]; rfl, h1⟩
    · rename_i c ho
      obtain ⟨cl', as, ts⟩ := c
      try dsimp only at h
      split at h
      · split at h
        · rename_i x ha
          split at h
          · rename_i T hT
            simp only [rdC_eq] at h
            obtain ⟨X1, h1, h2⟩ := clrC_ok (o := o) (by rw [ho, arr_of' ha, arr_of' hT]) hd h
            cases h2
            exact ⟨by rw [ho]; rfl, h1⟩
          · cases h
        · cases h
      · cases h
    · cases h
/-- A step within a list of operations. -/
theorem ils_step {O : Origin} {S : St} {L : Nat} {ops : Array Oper} {l : List Oper} {Q : Exit → St → Prop} (hg : o.guard = none) (hnd : noDefer o.op = true) (h : StepOk P N o X X') (hs : SubX O X S L) (hoc : OC O X S) (hL : X'.nid ≤ L)
    (k : ∀ S', SubX O X' S' L → Pres X X' S S' → ILS P O N ops l S' Q) : ILS P O N ops (o :: l) S Q := by
  intro E β a hr
  refine wpListIn_plain hg fun K hK => wp_in _ hnd ?_
  exact h.go O S L hs hoc hL E β a hr _ _ fun S' E' β' a' ⟨h1, h2, _⟩ hr' => hK _ _ (k S' h1 h2 E' β' a' hr')
end
end Go.IL
set_option linter.unusedVariables false
namespace Go.IL
/-! Regions that may come in any order: what an operation looks at is told by a predicate; what comes behind another one by way of others counts, too. -/
def AgR (n : Node) (R : Nat → Bool) (S S0 : St) : Prop := (∀ t ∈ n.rs, S.get t = S0.get t) ∧ ∀ i, R i = true → S.ent i = S0.ent i
structure ApR (m n : Node) (Rm Rn : Nat → Bool) : Prop where
  s1 : ∀ t ∈ n.rs, t ∉ m.us.map (·.1)
  s2 : ∀ t ∈ m.rs, t ∉ n.us.map (·.1)
  s3 : ∀ t ∈ m.us.map (·.1), t ∉ n.us.map (·.1)
  i1 : ∀ i, Rn i = true → i ∉ m.ui.map (·.1)
  i2 : ∀ i, Rm i = true → i ∉ n.ui.map (·.1)
  i3 : ∀ i ∈ m.ui.map (·.1), i ∉ n.ui.map (·.1)
theorem upd_commR (S : St) {m n : Node} {Rm Rn : Nat → Bool} (h : ApR m n Rm Rn) : ((S.upd m).upd n).eqv ((S.upd n).upd m) :=
  St.upd_comm S (m := ⟨[], [], m.us, m.ui⟩) (n := ⟨[], [], n.us, n.ui⟩) ⟨fun _ h => (by cases h), fun _ h => (by cases h), h.s3, fun _ h => (by cases h), fun _ h => (by cases h), h.i3⟩
theorem getD_contra {l : Array Bool} {k : Nat} (h1 : l.getD k true = false) (h2 : l.getD k false = true) : False := by
  rcases Nat.lt_or_ge k l.size with h' | h'
  · simp [h'] at h1 h2; rw [h1] at h2; cases h2
  · simp [Array.getElem?_eq_none h'] at h1
section
variable {P : Program} {O : Origin} {N : Nat} {ops : Array Oper}
def IAnyR (ops : Array Oper) (nd : Nat → Node) (R : Nat → Nat → Bool) (Sq : Nat → St) (Sf : St) : Nat → Array Bool → St → Prop
  | 0, listed, S => Region.ready .any ops listed = [] ∧ S.eqv Sf
  | fuel + 1, listed, S => (Region.ready .any ops listed = [] → S.eqv Sf) ∧
      ∀ i ∈ Region.ready .any ops listed, AgR (nd i) (R i) S (Sq i) ∧ IAnyR ops nd R Sq Sf fuel (listed.setIfInBounds i true) (S.upd (nd i))
theorem IAnyR.eqv {nd : Nat → Node} {R : Nat → Nat → Bool} {Sq : Nat → St} {Sf : St} : ∀ {fuel : Nat} {listed : Array Bool} {S S' : St}, S.eqv S' → IAnyR ops nd R Sq Sf fuel listed S → IAnyR ops nd R Sq Sf fuel listed S'
  | 0, _, S, S', h, ⟨h1, h2⟩ => ⟨h1, fun t => (h.1 t) ▸ h2.1 t, fun t => (h.2 t) ▸ h2.2 t⟩
  | fuel + 1, _, S, S', h, ⟨h1, h2⟩ => ⟨fun hr => let k := h1 hr; ⟨fun t => (h.1 t) ▸ k.1 t, fun t => (h.2 t) ▸ k.2 t⟩,
      fun i hi => let ⟨h3, h4⟩ := h2 i hi
        ⟨⟨fun t ht => (h.1 t) ▸ h3.1 t ht, fun t ht => (h.2 t) ▸ h3.2 t ht⟩, IAnyR.eqv (h.upd _) h4⟩⟩
theorem IAnyR.sound {nd : Nat → Node} {R : Nat → Nat → Bool} {Sq : Nat → St} {Sf : St} {Q : Exit → St → Prop} (hlop : ∀ i, i < ops.size → ∀ S, AgR (nd i) (R i) S (Sq i) → GOp P O N ops i S (S.upd (nd i))) (hQ : Q .normal Sf) :
    ∀ (fuel : Nat) (listed : Array Bool) (S : St), IAnyR ops nd R Sq Sf fuel listed S → ∀ E β a, Rel O N S E β a →
      wpAnyIn (fen O.round) 0 P .any ops (fun e a' w' => ∃ S' E' β', E'.w = w' ∧ Rel O N S' E' β' a' ∧ Q e S') fuel listed a E.w := by
  intro fuel
  induction fuel with
  | zero => exact fun listed S h E β a hr => ⟨h.1, Sf, E, β, rfl, hr.eqv h.2, hQ⟩
  | succ fuel ih =>
    intro listed S h E β a hr
    refine ⟨fun h0 => ⟨Sf, E, β, rfl, hr.eqv (h.1 h0), hQ⟩, fun i hi => ?_⟩
    obtain ⟨h1, h2⟩ := h.2 i hi
    have hlt : i < ops.size := by
      obtain ⟨_, o, ho, _⟩ := mem_ready.1 hi
      exact (Array.getElem?_eq_some_iff.1 ho).1
    exact hlop i hlt S h1 E β a hr _ _ fun E' β' a' hr' => ih _ _ h2 E' β' a' hr'
theorem IAnyR.first {nd : Nat → Node} {R : Nat → Nat → Bool} {Sq : Nat → St} {Sf : St} {i : Nat} {T : Nat → Bool} (hT : ∀ j, T j = true → ∃ oj, ops[j]? = some oj ∧ ∃ e ∈ oj.after, Region.binds .any e = true ∧ (e.on = i ∨ T e.on = true)) :
    ∀ (fuel : Nat) (listed : Array Bool) (S : St), (∀ j, T j = true → listed.getD j true = false) →
    (∀ j, j < ops.size → j ≠ i → listed.getD j true = false → T j = false → ApR (nd i) (nd j) (R i) (R j)) →
    i ∈ Region.ready .any ops listed → AgR (nd i) (R i) S (Sq i) → IAnyR ops nd R Sq Sf fuel (listed.setIfInBounds i true) (S.upd (nd i)) → IAnyR ops nd R Sq Sf (fuel + 1) listed S := by
  intro fuel
  induction fuel with
  | zero =>
    intro listed S _ _ hr ha H
    refine ⟨fun h => (by rw [h] at hr; cases hr), fun j hj => ?_⟩
    by_cases hji : j = i
    · subst hji; exact ⟨ha, H⟩
    · have := ready_mono hj hji
      rw [H.1] at this
      cases this
  | succ fuel ih =>
    intro listed S hT1 hfree hr ha H
    refine ⟨fun h => (by rw [h] at hr; cases hr), fun j hj => ?_⟩
    by_cases hji : j = i
    · subst hji; exact ⟨ha, H⟩
    · obtain ⟨h1, h2⟩ := H.2 j (ready_mono hj hji)
      obtain ⟨hjun, oj, hoj, hall⟩ := mem_ready.1 hj
      have hTj : T j = false := by
        cases hc : T j with
        | false => rfl
        | true =>
          exfalso
          obtain ⟨oj', hoj', e, he, hb, hon⟩ := hT j hc
          rw [hoj] at hoj'; cases hoj'
          have h3 := hall e he hb
          rcases hon with hon | hon
          · rw [hon] at h3; exact getD_contra (mem_ready.1 hr).1 h3
          · exact getD_contra (hT1 _ hon) h3
      have hap := hfree j (Array.getElem?_eq_some_iff.1 hoj).1 hji hjun hTj
      have haj : AgR (nd j) (R j) S (Sq j) := ⟨fun t ht => by rw [← h1.1 t ht, St.get_upd, if_neg (hap.s1 t ht)], fun t ht => by rw [← h1.2 t ht, St.ent_upd, if_neg (hap.i1 t ht)]⟩
      have hai : AgR (nd i) (R i) (S.upd (nd j)) (Sq i) := ⟨fun t ht => by rw [← ha.1 t ht, St.get_upd, if_neg (hap.s2 t ht)], fun t ht => by rw [← ha.2 t ht, St.ent_upd, if_neg (hap.i2 t ht)]⟩
      refine ⟨haj, ih (listed.setIfInBounds j true) _ ?_ ?_ (ready_mono hr (Ne.symm hji)) hai ?_⟩
      · intro m hm
        have : j ≠ m := fun e => by rw [e, hm] at hTj; cases hTj
        rw [getD_set_ne true this]
        exact hT1 m hm
      · refine fun k hk hki hun hno => hfree k hk hki ?_ hno
        by_cases hjk : j = k
        · subst hjk; exact hjun
        · rw [getD_set_ne true hjk] at hun; exact hun
      · rw [Array.setIfInBounds_comm _ _ hji]
        exact IAnyR.eqv (upd_commR S hap) h2
theorem IAnyR.lex {nd : Nat → Node} {R : Nat → Nat → Bool} {Sq : Nat → St} {tr : Nat → Nat → Bool} (hS : ∀ k, k < ops.size → Sq (k + 1) = (Sq k).upd (nd k))
    (hE : ∀ k o, ops[k]? = some o → ∀ e ∈ o.after, Region.binds .any e = true → e.on < k)
    (hTr : ∀ j k, tr j k = true → k < j ∧ ∃ oj, ops[j]? = some oj ∧ ∃ e ∈ oj.after, Region.binds .any e = true ∧ (e.on = k ∨ tr e.on k = true))
    (hA : ∀ j k, k < j → j < ops.size → tr j k = false → ApR (nd k) (nd j) (R k) (R j)) :
    ∀ (n k : Nat) (listed : Array Bool), k + n = ops.size → listed.size = ops.size → (∀ j, j < ops.size → listed.getD j true = decide (j < k)) → IAnyR ops nd R Sq (Sq ops.size) n listed (Sq k)
  | 0, k, listed, hk, hs, hl => by
    have hk : k = ops.size := by omega
    subst hk
    refine ⟨?_, St.eqv.refl _⟩
    cases hr : Region.ready .any ops listed with
    | nil => rfl
    | cons i t =>
      exfalso
      have hi : i ∈ Region.ready .any ops listed := by rw [hr]; simp
      obtain ⟨h1, o, ho, _⟩ := mem_ready.1 hi
      have h2 := (Array.getElem?_eq_some_iff.1 ho).1
      rw [hl i h2] at h1
      simp at h1; omega
  | n + 1, k, listed, hk, hs, hl => by
    have hkl : k < ops.size := by omega
    have ih := IAnyR.lex hS hE hTr hA n (k + 1) (listed.setIfInBounds k true) (by omega) (by simpa using hs) fun j hj => by
      by_cases hjk : k = j
      · subst hjk
        simp [Array.getD_eq_getD_getElem?, hs, hkl]
      · rw [getD_set_ne true hjk, hl j hj]
        exact decide_eq_decide.2 (by omega)
    rw [hS k hkl] at ih
    refine IAnyR.first (T := fun j => tr j k) (fun j hj => (hTr j k hj).2) n listed _ ?_ ?_ ?_ ⟨fun _ _ => rfl, fun _ _ => rfl⟩ ih
    · intro j hj
      obtain ⟨h1, oj, ho, _⟩ := hTr j k hj
      rw [hl j (Array.getElem?_eq_some_iff.1 ho).1]
      exact decide_eq_false (by omega)
    · intro j hj hne hun hno
      rw [hl j hj] at hun
      have := of_decide_eq_false hun
      exact hA j k (by omega) hj hno
    · refine mem_ready.2 ⟨by rw [hl k hkl]; simp, ops[k], by simp [hkl], fun e he hb => ?_⟩
      have h1 := hE k ops[k] (by simp [hkl]) e he hb
      have h2 := hl e.on (by omega)
      simp only [h1, decide_true] at h2
      rw [Array.getD_eq_getD_getElem?, Array.getElem?_eq_getElem (by omega)] at h2 ⊢
      exact h2
theorem iwp_drawR {id : Nat} {Q : Exit → St → Prop} (hm : P.follows .mixedOrders = true) {nd : Nat → Node} {R : Nat → Nat → Bool} {Sq : Nat → St} {tr : Nat → Nat → Bool} (hS : ∀ k, k < ops.size → Sq (k + 1) = (Sq k).upd (nd k))
    (hlop : ∀ i, i < ops.size → ∀ S, AgR (nd i) (R i) S (Sq i) → GOp P O N ops i S (S.upd (nd i)))
    (hE : ∀ k o, ops[k]? = some o → ∀ e ∈ o.after, Region.binds .any e = true → e.on < k)
    (hTr : ∀ j k, tr j k = true → k < j ∧ ∃ oj, ops[j]? = some oj ∧ ∃ e ∈ oj.after, Region.binds .any e = true ∧ (e.on = k ∨ tr e.on k = true))
    (hA : ∀ j k, k < j → j < ops.size → tr j k = false → ApR (nd k) (nd j) (R k) (R j)) (hQ : Q .normal (Sq ops.size)) : IWP P O N (.region id ops true) (Sq 0) Q := by
  intro E β a hr
  refine wpIn_region_any hm ?_
  have hr' : Rel O N (Sq 0) ⟨{ E.w with drawn := E.w.drawn + 1 }, E.X⟩ β a := by
    have hb : RowKit.Below E.w.heap.size E.w { E.w with drawn := E.w.drawn + 1 } := (RowKit.Below.refl _ _).drew
    exact ⟨hr.n, hr.nd.below hb, hr.h.below hb, fun s => Rd.mono (below_le hb) (Names.le.refl _) (hr.sl s)⟩
  have hl := IAnyR.lex hS hE hTr hA ops.size 0 (Array.replicate ops.size false) (by omega) (by simp) fun j hj => by simp [Array.getD_eq_getD_getElem?, hj]
  exact IAnyR.sound (P := P) (O := O) (N := N) (Q := Q) hlop hQ _ _ _ hl _ β a hr'
end
end Go.IL
set_option linter.unusedVariables false
namespace Go.IL
/-! One operation of a region that may come in any order: it is evaluated where little is known; what it does is told as a node. -/
def entX (num : Option Nat) : XE → Ent
  | .no => .none
  | .blk e n c => .blk e (cellsT n c)
  | .loop N f st pend _ _ _ => .loop (num.getD 0) (cellsT N f) st pend
  | .mp l => .mp (l.map (·.1)) (l.map (·.2))
theorem entX_eq {O : Origin} {x : XE} {e : Ent} {num : Option Nat} (h : EnR O x e) (hn : e.num = none ∨ e.num = num) : entX num x = e ∨ entX num x = .none := by
  cases x with
  | no => exact .inr rfl
  | blk e' n c => exact .inl h.symm
  | loop N f st pend ps as bd =>
    obtain ⟨k, h1, h2⟩ := h
    subst h1
    rcases hn with hn | hn
    · cases hn
    · subst hn; exact .inl rfl
  | mp l => exact .inl h.symm
def kn : XE → Bool
  | .no => false
  | _ => true
theorem kn_no {x : XE} (h : kn x = false) : x = .no := by cases x <;> first | rfl | cases h
/-- What is written, of what is known, and what is new. -/
def wrt (Y Y1 : XS) (id : Nat) : Bool := (Y1.dm.testBit id || (Nat.ble Y.nid id && Nat.blt id Y1.nid)) && (kn (Y.ent id) || Nat.ble Y.nid id)
def uiL (S0 : St) (Y Y1 : XS) : List (Nat × Ent) := ((List.range (Y1.dm + Y1.nid + 1)).filter (wrt Y Y1)).map fun id => (id, entX (S0.ent id).num (Y1.ent id))
def usL (o : Oper) (Y1 : XS) : List (Nat × D) := match o.dst with
  | some t => [(t, Y1.sl.at .dead t)]
  | none => []
def nodeX (rs : List Nat) (o : Oper) (S0 : St) (Y Y1 : XS) : Node := ⟨rs, [], usL o Y1, uiL S0 Y Y1⟩
theorem bit_lt {m i : Nat} (h : m.testBit i = true) : i < m := by
  rcases Nat.lt_or_ge i m with h1 | h1
  · exact h1
  · have : m < 2 ^ i := Nat.lt_of_le_of_lt h1 Nat.lt_two_pow_self
    rw [Nat.testBit_lt_two_pow this] at h; cases h
theorem wrt_lt {Y Y1 : XS} {id : Nat} (h : wrt Y Y1 id = true) : id < Y1.dm + Y1.nid + 1 := by
  unfold wrt at h
  rw [Bool.and_eq_true, Bool.or_eq_true, Bool.and_eq_true, Nat.blt_eq] at h
  rcases h.1 with h1 | h1
  · have := bit_lt h1; omega
  · have := h1.2; omega
theorem mem_uiL {S0 : St} {Y Y1 : XS} {id : Nat} : id ∈ (uiL S0 Y Y1).map (·.1) ↔ wrt Y Y1 id = true := by
  unfold uiL
  rw [List.map_map]
  constructor
  · intro h
    obtain ⟨i, h1, rfl⟩ := List.mem_map.1 h
    exact (List.mem_filter.1 h1).2
  · intro h
    exact List.mem_map.2 ⟨id, List.mem_filter.2 ⟨List.mem_range.2 (wrt_lt h), h⟩, rfl⟩
theorem look_fn {α : Type} {z : α} {f : Nat → α} {t : Nat} : ∀ {l : List Nat}, t ∈ l → look z t (l.map fun i => (i, f i)) = f t
  | i :: l, h => by
    rw [List.map_cons, look_cons]
    by_cases hi : i = t
    · rw [if_pos hi, hi]
    · rw [if_neg hi]
      exact look_fn (by rcases List.mem_cons.1 h with h1 | h1; exact absurd h1.symm hi; exact h1)
theorem node_ent {rs : List Nat} {o : Oper} {S0 S : St} {Y Y1 : XS} (id : Nat) : (S.upd (nodeX rs o S0 Y Y1)).ent id = if wrt Y Y1 id = true then entX (S0.ent id).num (Y1.ent id) else S.ent id := by
  rw [St.ent_upd]
  show (if id ∈ (uiL S0 Y Y1).map (·.1) then look _ id (uiL S0 Y Y1) else _) = _
  by_cases h : wrt Y Y1 id = true
  · rw [if_pos (mem_uiL.2 h), if_pos h]
    unfold uiL
    exact look_fn (List.mem_filter.2 ⟨List.mem_range.2 (wrt_lt h), h⟩)
  · rw [if_neg (fun h1 => h (mem_uiL.1 h1)), if_neg h]
theorem node_get {rs : List Nat} {o : Oper} {S0 S : St} {Y Y1 : XS} (s : Nat) : (S.upd (nodeX rs o S0 Y Y1)).get s = if o.dst = some s then Y1.sl.at .dead s else S.get s := by
  rw [St.get_upd]
  show (if s ∈ (usL o Y1).map (·.1) then look _ s (usL o Y1) else _) = _
  unfold usL
  cases hd : o.dst with
  | none => simp
  | some t =>
    by_cases hs : t = s
    · subst hs; simp [look_cons]
    · have : s ≠ t := fun e => hs e.symm
      simp [hs, this]
section
variable {P : Program} {O : Origin} {N : Nat} {ops : Array Oper}
/-- What an operation, guard and all, is to be. -/
structure GX (P : Program) (N : Nat) (ops : Array Oper) (i : Nat) (o : Oper) (Y Y1 : XS) : Prop where
  fwd : Fwd Y Y1
  go : ∀ (O : Origin) (S : St) (L : Nat), SubX O Y S L → OC O Y S → Y1.nid ≤ L → ∀ E β a, Rel O N S E β a → ∀ (K : Act → World → Prop) Q, (∀ S' E' β' a', (SubX O Y1 S' L ∧ Pres Y Y1 S S' ∧ Kp o S S') → Rel O N S' E' β' a' → K a' E'.w) → wpOpIn (fen O.round) 0 P ops Q i K a E.w
theorem gx_plain {i : Nat} {o : Oper} {Y Y1 : XS} (ho : ops[i]? = some o) (hg : o.guard = none) (hnd : noDefer o.op = true) (h : StepOk P N o Y Y1) : GX P N ops i o Y Y1 :=
  ⟨h.fwd, fun O S L hs hoc hL E β a hr K Q hK => by
    unfold wpOpIn
    simp only [ho, Region.wanted, hg, if_true]
    exact wp_in _ hnd (h.go O S L hs hoc hL E β a hr _ _ fun S' E' β' a' h1 hr' => hK S' E' β' a' h1 hr')⟩
theorem gx_yes {i : Nat} {o : Oper} {Y Y1 : XS} {j tj : Nat} {want : Bool} (ho : ops[i]? = some o) (hg : o.guard = some (j, want)) (hj : (ops[j]?).bind (·.dst) = some tj) (hnd : noDefer o.op = true)
    (hb : ∀ O S L, SubX O Y S L → Grd S tj want true) (h : StepOk P N { o with guard := none } Y Y1) : GX P N ops i o Y Y1 :=
  ⟨h.fwd, fun O S L hs hoc hL E β a hr K Q hK => by
    have hwant := (hb O S L hs).yields hr hj hg
    unfold wpOpIn
    simp only [ho, hwant, if_true]
    exact wp_in _ hnd (h.go O S L hs hoc hL E β a hr _ _ fun S' E' β' a' h1 hr' => hK S' E' β' a' h1 hr')⟩
theorem gx_no {i : Nat} {o : Oper} {Y : XS} {j tj t : Nat} {want : Bool} (ho : ops[i]? = some o) (hg : o.guard = some (j, want)) (hj : (ops[j]?).bind (·.dst) = some tj) (hd : o.dst = some t) (ht : t < N) (ht4 : t < 4000)
    (hb : ∀ O S L, SubX O Y S L → Grd S tj want false) : GX P N ops i o Y ⟨(stC .dead 12 t).run Y.sl (.cnd false (.bool false)), Y.H, Y.nid, Y.dm⟩ :=
  ⟨Fwd.put, fun O S L hs hoc hL E β a hr K Q hK => by
    have hwant := (hb O S L hs).yields hr hj hg
    unfold wpOpIn
    simp only [ho, hwant, Bool.false_eq_true, if_false, hd]
    exact ⟨fun _ _ => trivial, hK (S.set t (.cnd false (.bool false))) E β _ ⟨hs.put ht4 _, Pres.put t _, Kp.set hd _ rfl⟩ (hr.set ht (.cnd _ _ _ _ (fun h => by cases h) fun _ => rfl))⟩⟩
theorem compat_same {O : Origin} (e : Ent) : compat O O e := by cases e <;> first | trivial | exact ⟨rfl, rfl⟩
/-- Less is known. -/
theorem Rel.less {S S' : St} {E : Env} {β : Names} {a : Act} (h : Rel O N S E β a) (h1 : ∀ s, S'.get s = S.get s ∨ S'.get s = .dead) (h2 : ∀ i, S'.ent i = S.ent i ∨ S'.ent i = .none) : Rel O N S' E β a := by
  refine ⟨h.n, h.nd, HOk.swap (H := S.ent) h.h ⟨rfl, rfl, rfl, rfl, rfl⟩ fun id => ?_, fun s => ?_⟩
  · rcases h2 id with g | g
    · exact .inl ⟨g, compat_same _⟩
    · exact .inr g
  · rcases h1 s with g | g
    · rw [g]; exact h.sl s
    · rw [g]; exact .dead _ _
theorem node_gop {i : Nat} {o : Oper} {rs : List Nat} {R : Nat → Bool} {S0 : St} {Y Y1 : XS} (hx : GX P N ops i o Y Y1)
    (h1 : ∀ S, AgR (nodeX rs o S0 Y Y1) R S S0 → SubX O Y S Y1.nid ∧ OC O Y S) (h2 : ∀ id, wrt Y Y1 id = true → R id = true) :
    ∀ S, AgR (nodeX rs o S0 Y Y1) R S S0 → GOp P O N ops i S (S.upd (nodeX rs o S0 Y Y1)) := by
  intro S hag E β a hr K Q hK
  obtain ⟨hs, hoc⟩ := h1 S hag
  refine hx.go O S Y1.nid hs hoc (Nat.le_refl _) E β a hr K Q fun S' E' β' a' ⟨hs', hp, hk⟩ hr' => hK E' β' a' (hr'.less (fun s => ?_) fun id => ?_)
  · rw [node_get]
    by_cases hd : o.dst = some s
    · rw [if_pos hd]; exact hs'.sl s
    · rw [if_neg hd]; exact .inl (hk s hd).symm
  · rw [node_ent]
    by_cases hw : wrt Y Y1 id = true
    · rw [if_pos hw]
      refine entX_eq (hs'.en id) ?_
      rcases hp.p3 id with g | g
      · exact .inl g
      · right; rw [g, hag.2 id (h2 id hw)]
    · rw [if_neg hw]
      left
      have hw : wrt Y Y1 id = false := by simpa using hw
      unfold wrt at hw
      rw [Bool.and_eq_false_iff, Bool.or_eq_false_iff, Bool.or_eq_false_iff, Bool.and_eq_false_iff] at hw
      rcases hw with ⟨g1, g2⟩ | ⟨g1, g2⟩
      · refine (hp.p2 id g1 ?_).symm
        rcases g2 with g2 | g2
        · left
          rcases Nat.lt_or_ge id Y.nid with g3 | g3
          · exact g3
          · rw [Nat.ble_eq_true_of_le g3] at g2; cases g2
        · right
          rcases Nat.lt_or_ge id Y1.nid with g3 | g3
          · have : Nat.blt id Y1.nid = true := by rw [Nat.blt_eq]; exact g3
            rw [this] at g2; cases g2
          · exact g3
      · refine (hp.p1 id (kn_no g1) (.inl ?_)).symm
        rcases Nat.lt_or_ge id Y.nid with g3 | g3
        · exact g3
        · rw [Nat.ble_eq_true_of_le g3] at g2; cases g2
/-- The text's order: what is known behind it. -/
theorem wrt_f {Y Y1 : XS} {id : Nat} (h : wrt Y Y1 id = false) : (Y1.dm.testBit id = false ∧ (id < Y.nid ∨ Y1.nid ≤ id)) ∨ (Y.ent id = .no ∧ id < Y.nid) := by
  unfold wrt at h
  rw [Bool.and_eq_false_iff, Bool.or_eq_false_iff, Bool.or_eq_false_iff, Bool.and_eq_false_iff] at h
  have lt : Nat.ble Y.nid id = false → id < Y.nid := fun g2 => by
    rcases Nat.lt_or_ge id Y.nid with g3 | g3
    · exact g3
    · rw [Nat.ble_eq_true_of_le g3] at g2; cases g2
  rcases h with ⟨g1, g2⟩ | ⟨g1, g2⟩
  · left
    refine ⟨g1, ?_⟩
    rcases g2 with g2 | g2
    · exact .inl (lt g2)
    · right
      rcases Nat.lt_or_ge id Y1.nid with g3 | g3
      · have : Nat.blt id Y1.nid = true := by rw [Nat.blt_eq]; exact g3
        rw [this] at g2; cases g2
      · exact g3
  · exact .inr ⟨kn_no g1, lt g2⟩
theorem wrt_at {Y Y1 : XS} {id : Nat} (h : wrt Y Y1 id = true) : Y.ent id ≠ .no ∨ Y.nid ≤ id := by
  unfold wrt at h
  rw [Bool.and_eq_true] at h
  have h2 := h.2
  rw [Bool.or_eq_true] at h2
  rcases h2 with h1 | h1
  · left; intro e; rw [e] at h1; cases h1
  · exact .inr (Nat.le_of_ble_eq_true h1)
structure NX (o : Oper) (X Y Y1 X' : XS) : Prop where
  yh : ∀ id, Y.ent id = X.ent id ∨ Y.ent id = .no
  yn : Y.nid = X.nid
  fwd : Fwd Y Y1
  sl : ∀ s, X'.sl.at .dead s = if o.dst = some s then Y1.sl.at .dead s else X.sl.at .dead s
  H : ∀ id, X'.ent id = if wrt Y Y1 id = true then Y1.ent id else X.ent id
  nid : X'.nid = Y1.nid
  dm : X'.dm = X.dm ||| Y1.dm
  dlt : ∀ id, Y1.dm.testBit id = true → id < Y1.nid
theorem NX.fw {o : Oper} {X Y Y1 X' : XS} (h : NX o X Y Y1 X') : Fwd X X' := by
  have hn : X.nid ≤ Y1.nid := h.yn ▸ h.fwd.nid
  refine ⟨fun i h1 h2 => ?_, fun i h1 => ?_, by rw [h.nid]; exact hn, fun i h1 h2 => ?_, fun i => ?_⟩
  · rw [h.H]
    split
    · refine h.fwd.p0 i ?_ (by rw [h.yn, ← h.nid]; exact h2)
      rcases h.yh i with g | g
      · rw [g, h1]
      · exact g
    · exact h1
  · rw [h.dm, Nat.testBit_or, h1]; rfl
  · rw [h.H]
    have h3 : Y1.dm.testBit i = false := by
      rw [h.dm, Nat.testBit_or, Bool.or_eq_false_iff] at h1; exact h1.2
    split
    · rename_i hw
      have : wrt Y Y1 i = false := by
        unfold wrt
        rw [h3, h.yn]
        rw [h.nid] at h2
        have : (Nat.ble X.nid i && Nat.blt i Y1.nid) = false := by
          rw [Bool.and_eq_false_iff]
          rcases h2 with h2 | h2
          · left
            cases hc : Nat.ble X.nid i with
            | false => rfl
            | true => have := Nat.le_of_ble_eq_true hc; omega
          · right
            cases hc : Nat.blt i Y1.nid with
            | false => rfl
            | true => rw [Nat.blt_eq] at hc; omega
        rw [this]; rfl
      rw [this] at hw; cases hw
    · rfl
  · rw [h.H]
    split
    · rcases h.fwd.p5 i with g | g
      · exact .inl g
      · rcases h.yh i with g2 | g2
        · right; rw [g, g2]
        · left; rw [g, g2]; rfl
    · exact .inr rfl
theorem NX.sub {o : Oper} {rs : List Nat} {X Y Y1 X' : XS} {S0 : St} {L : Nat} (h : NX o X Y Y1 X') (hs : SubX O X S0 L) (hL : X'.nid ≤ L) : SubX O X' (S0.upd (nodeX rs o S0 Y Y1)) L ∧ Pres X X' S0 (S0.upd (nodeX rs o S0 Y Y1)) := by
  have hn : X.nid ≤ Y1.nid := h.yn ▸ h.fwd.nid
  have hloop : ∀ id c, lpC (Y1.ent id) = some c → ∃ k, (S0.ent id).num = some k ∧ O.lc k = c.2.2 ∧ ∀ t, c.1 ≤ t → c.2.1.at .dead t = .dead := fun id c hc => by
    have h1 : lpC (X.ent id) = some c := by
      rcases h.fwd.p5 id with g | g
      · rw [g] at hc; cases hc
      · rcases h.yh id with g2 | g2
        · rw [← g2, ← g]; exact hc
        · rw [g, g2] at hc; cases hc
    have h2 := hs.en id
    cases hx : X.H.at .no id with
    | loop N f st pend ps as bd =>
      rw [show X.ent id = X.H.at .no id from rfl, hx] at h1
      rw [hx] at h2
      obtain ⟨k, g1, g2⟩ := h2
      cases h1
      exact ⟨k, by rw [g1]; rfl, g2⟩
    | _ => rw [show X.ent id = X.H.at .no id from rfl, hx] at h1; cases h1
  have outside : ∀ id, Y1.dm.testBit id = false → (id < X.nid ∨ Y1.nid ≤ id) → wrt Y Y1 id = false := fun id h3 h2 => by
    unfold wrt
    rw [h3, h.yn]
    have : (Nat.ble X.nid id && Nat.blt id Y1.nid) = false := by
      rw [Bool.and_eq_false_iff]
      rcases h2 with h2 | h2
      · left
        cases hc : Nat.ble X.nid id with
        | false => rfl
        | true => have := Nat.le_of_ble_eq_true hc; omega
      · right
        cases hc : Nat.blt id Y1.nid with
        | false => rfl
        | true => rw [Nat.blt_eq] at hc; omega
    rw [this]; rfl
  have beyond : ∀ id, Y1.nid ≤ id → Y1.dm.testBit id = false := fun id h1 => by
    cases hb : Y1.dm.testBit id with
    | false => rfl
    | true => have := h.dlt id hb; omega
  constructor
  · refine ⟨fun s => ?_, fun id => ?_, fun id h1 h2 => ?_, hs.lim⟩
    · rw [h.sl, node_get]
      split
      · exact .inl rfl
      · exact hs.sl s
    · show EnR O (X'.ent id) _
      rw [h.H, node_ent]
      split
      · cases hy : Y1.ent id with
        | no => trivial
        | blk e n c => rfl
        | loop N f st pend ps as bd =>
          obtain ⟨k, g1, g2⟩ := hloop id (N, f, ps, as, bd) (by rw [hy]; rfl)
          exact ⟨k, by rw [g1]; rfl, g2⟩
        | mp l => rfl
      · exact hs.en id
    · rw [h.nid] at h1
      rw [node_ent, if_neg (by rw [outside id (beyond id h1) (.inr h1)]; simp)]
      exact hs.fr id (by omega) h2
  · refine ⟨fun i h1 h2 => ?_, fun i h1 h2 => ?_, fun i => ?_⟩
    · rw [node_ent, if_neg]
      intro hw
      rw [h.nid] at h2
      rcases h2 with h2 | h2
      · rcases wrt_at hw with g | g
        · rcases h.yh i with g2 | g2
          · rw [g2, h1] at g; exact g rfl
          · exact g g2
        · rw [h.yn] at g; omega
      · rw [outside i (beyond i h2) (.inr h2)] at hw; cases hw
    · rw [h.dm, Nat.testBit_or, Bool.or_eq_false_iff] at h1
      rw [h.nid] at h2
      rw [node_ent, if_neg (by rw [outside i h1.2 h2]; simp)]
    · rw [node_ent]
      split
      · cases hy : Y1.ent i with
        | no => exact .inl rfl
        | blk e n c => exact .inl rfl
        | loop N f st pend ps as bd =>
          obtain ⟨k, g1, g2⟩ := hloop i (N, f, ps, as, bd) (by rw [hy]; rfl)
          right; rw [g1]; rfl
        | mp l => exact .inl rfl
      · exact .inr rfl
end
end Go.IL
set_option linter.unusedVariables false
namespace Go.IL
/-! Regions that may come in any order, evaluated in the text's. -/
/-- What a guard tells. -/
def gdK {β : Type} (d : D) (want : Bool) (a b : Option β) : Option β := match d with
  | .bool x => match x with
    | true => match want with
      | true => a
      | false => b
    | false => match want with
      | true => b
      | false => a
  | .cnd c d => match c with
    | true => none
    | false => match d with
      | .bool _ => b
      | _ => none
  | _ => none
theorem gdK_e {β : Type} {r : β} {d : D} {want : Bool} {a b : Option β} (h : gdK d want a b = some r) : ∃ g, (∀ {S : St} {tj : Nat}, S.get tj = d → Grd S tj want g) ∧ ((g = true ∧ a = some r) ∨ (g = false ∧ b = some r)) ∧ d ≠ .dead := by
  unfold gdK at h
  try dsimp only at h
  split at h
  · rename_i x
    refine ⟨x == want, fun hS => .one hS, ?_, fun h => by cases h⟩
    cases x <;> cases want <;> simp at h ⊢ <;> exact h
  · rename_i c d
    try dsimp only at h
    split at h
    · cases h
    · try dsimp only at h
      split at h
      · rename_i x
        exact ⟨false, fun hS => .two hS, .inr ⟨rfl, h⟩, fun h => by cases h⟩
      · cases h
  · cases h

def gO (P : Program) (N : Nat) (ops : Array Oper) (o : Oper) : Or := match o.guard with
  | none => opR P N o
  | some (j, want) => match (ops[j]?).bind (·.dst) with
    | some tj => match o.dst with
      | some t => match Nat.blt t N with
        | true => match noDefer o.op with
          | true => let f := opR P N { o with guard := none }; let g := rdC (.tmp tj); let w := putR t
            ⟨fun cl X => g.run X.sl fun d => gdK d want (f.run cl X) (w.run X (.cnd false (.bool false)) some)⟩
          | false => noO
        | false => noO
      | none => noO
    | none => noO
theorem gO_ok {P : Program} {N : Nat} {ops : Array Oper} {o : Oper} {i : Nat} {cl : CL} (hcl : FOk P cl) {Y Y1 : XS} (ho : ops[i]? = some o) (h : (gO P N ops o).run cl Y = some Y1) : GX P N ops i o Y Y1 := by
  unfold gO at h
  split at h
  · rename_i hg
    obtain ⟨hnd, hst⟩ := opR_ok hcl h
    exact gx_plain ho hg hnd hst
  · rename_i j want hg
    split at h
    · rename_i tj hj
      split at h
      · rename_i t hd
        split at h
        · rename_i ht
          rw [Nat.blt_eq] at ht
          split at h
          · rename_i hnd
            simp only [rdC_eq] at h
            obtain ⟨g, hgr, hcase, hne⟩ := gdK_e h
            have hb : ∀ O S L, SubX O Y S L → Grd S tj want g := fun O S L hs => hgr (hs.eq (x := .tmp tj) rfl hne)
            rcases hcase with ⟨hgt, h⟩ | ⟨hgf, h⟩
            · subst hgt
              obtain ⟨_, hst⟩ := opR_ok hcl h
              exact gx_yes ho hg hj hnd hb hst
            · subst hgf
              obtain ⟨ht4, h⟩ := putR_e h
              cases h
              exact gx_no ho hg hj hd ht ht4 hb
          · cases h
        · cases h
      · cases h
    · cases h
/-- Slots that are looked at. -/
def rsO (ops : Array Oper) (o : Oper) : List Nat := (o.op.operands.toList.filterMap fun x => match x with
  | .tmp t => some t
  | _ => none) ++ (match o.guard with
  | some (j, _) => match (ops[j]?).bind (·.dst) with
    | some tj => [tj]
    | none => []
  | none => [])
def slB {β : Type} (sl : Tt D) : List Nat → Tt D → (Tt D → Option β) → Option β
  | [], s, q => q s
  | t :: ts, s, q => tstb (Nat.blt t 4000) ((gkC .dead 12 t).run sl fun d => fcT ((stC .dead 12 t).run s d) fun s => slB sl ts s q)
theorem slB_e {β : Type} {r : β} {sl : Tt D} : ∀ {ts : List Nat} {s : Tt D} {q : Tt D → Option β}, slB sl ts s q = some r → ∃ s', (∀ k, s'.at .dead k = if k ∈ ts then sl.at .dead k else s.at .dead k) ∧ q s' = some r
  | [], s, q, h => ⟨s, fun k => by simp, h⟩
  | t :: ts, s, q, h => by
    simp only [slB, gkC_at, fcT_eq] at h
    obtain ⟨h1, h⟩ := tstb_e h
    rw [Nat.blt_eq] at h1
    obtain ⟨s', hs, hq⟩ := slB_e h
    refine ⟨s', fun k => ?_, hq⟩
    rw [hs k, stC_at _ _ _ _ _ _ (by omega)]
    by_cases hk : k ∈ ts
    · simp [hk]
    · by_cases hkt : t = k
      · subst hkt; simp
      · have : k ≠ t := fun e => hkt e.symm
        simp [hk, hkt, this]
def idK {β : Type} (d : D) (a : β) (b : Nat → β) : β := match d with
  | .ref id _ => b id
  | .vsl id _ _ _ _ => b id
  | .mref id => b id
  | _ => a
def idD (d : D) : Option Nat := match d with
  | .ref id _ => some id
  | .vsl id _ _ _ _ => some id
  | .mref id => some id
  | _ => none
theorem idK_eq {β : Type} (d : D) (a : β) (b : Nat → β) : idK d a b = match idD d with
    | some id => b id
    | none => a := by cases d <;> rfl
def mentL (sl : Tt D) (ts : List Nat) : List Nat := ts.filterMap fun t => idD (sl.at .dead t)
/-- Entries out of 'H0', where slots tell of them. -/
def hbB {β : Type} (sl : Tt D) (H0 : Tt XE) : List Nat → Tt XE → (Tt XE → Option β) → Option β
  | [], H, q => q H
  | t :: ts, H, q => (gkC .dead 12 t).run sl fun d => idK d (hbB sl H0 ts H q) fun id => (gkC .no 20 id).run H0 fun x => putH id x H fun H => hbB sl H0 ts H q
theorem hbB_e {β : Type} {r : β} {sl : Tt D} {H0 : Tt XE} : ∀ {ts : List Nat} {H : Tt XE} {q : Tt XE → Option β}, hbB sl H0 ts H q = some r → ∃ H', (∀ k, H'.at .no k = if k ∈ mentL sl ts then H0.at .no k else H.at .no k) ∧ q H' = some r
  | [], H, q, h => ⟨H, fun k => by simp [mentL], h⟩
  | t :: ts, H, q, h => by
    simp only [hbB, gkC_at] at h
    rw [idK_eq] at h
    cases hd : idD (sl.at .dead t) with
    | none =>
      rw [hd] at h
      obtain ⟨H', hH, hq⟩ := hbB_e h
      refine ⟨H', fun k => ?_, hq⟩
      rw [hH k]
      simp [mentL, hd]
    | some id =>
      rw [hd] at h
      simp only [] at h
      obtain ⟨H1, hH1, _, h⟩ := putH_e h
      obtain ⟨H', hH, hq⟩ := hbB_e h
      refine ⟨H', fun k => ?_, hq⟩
      rw [hH k, hH1 k]
      have hm : mentL sl (t :: ts) = id :: mentL sl ts := by simp [mentL, hd]
      rw [hm]
      by_cases hk : k ∈ mentL sl ts
      · simp [hk]
      · by_cases hki : id = k
        · subst hki; simp
        · have : k ≠ id := fun e => hki e.symm
          simp [hk, hki, this]
def mkM {β : Type} (sl : Tt D) : List Nat → Nat → (Nat → Option β) → Option β
  | [], m, q => q m
  | t :: ts, m, q => (gkC .dead 12 t).run sl fun d => idK d (mkM sl ts m q) fun id => fcN (Nat.lor m (Nat.shiftLeft 1 id)) fun m => mkM sl ts m q
theorem bit_or {m id k : Nat} : (m ||| 1 <<< id).testBit k = (m.testBit k || decide (id = k)) := by
  rw [Nat.testBit_or, Nat.one_shiftLeft, Nat.testBit_two_pow]
theorem mkM_e {β : Type} {r : β} {sl : Tt D} : ∀ {ts : List Nat} {m : Nat} {q : Nat → Option β}, mkM sl ts m q = some r → ∃ m', (∀ k, k ∈ mentL sl ts → m'.testBit k = true) ∧ (∀ k, m.testBit k = true → m'.testBit k = true) ∧ q m' = some r
  | [], m, q, h => ⟨m, fun k hk => by simp [mentL] at hk, fun _ h => h, h⟩
  | t :: ts, m, q, h => by
    simp only [mkM, gkC_at, fcN_eq] at h
    rw [idK_eq] at h
    cases hd : idD (sl.at .dead t) with
    | none =>
      rw [hd] at h
      obtain ⟨m', h1, h2, hq⟩ := mkM_e h
      refine ⟨m', fun k hk => h1 k ?_, h2, hq⟩
      simpa [mentL, hd] using hk
    | some id =>
      rw [hd] at h
      simp only [] at h
      obtain ⟨m', h1, h2, hq⟩ := mkM_e h
      have hm : mentL sl (t :: ts) = id :: mentL sl ts := by simp [mentL, hd]
      refine ⟨m', fun k hk => ?_, fun k hk => h2 k ?_, hq⟩
      · rw [hm] at hk
        rcases List.mem_cons.1 hk with rfl | hk
        · exact h2 k (by show (m ||| 1 <<< k).testBit k = true; rw [bit_or]; simp)
        · exact h1 k hk
      · show (m ||| 1 <<< id).testBit k = true
        rw [bit_or, hk]; rfl
/-- What is written: new names, too. -/
def wmK (a b dm : Nat) : Nat := Nat.lor dm (Nat.xor (Nat.sub (Nat.shiftLeft 1 b) 1) (Nat.sub (Nat.shiftLeft 1 a) 1))
theorem wmK_bit {a b dm id : Nat} : (wmK a b dm).testBit id = (dm.testBit id || (decide (id < b) ^^ decide (id < a))) := by
  show (dm ||| ((1 <<< b - 1) ^^^ (1 <<< a - 1))).testBit id = _
  rw [Nat.testBit_or, Nat.testBit_xor, Nat.one_shiftLeft, Nat.one_shiftLeft, Nat.testBit_two_pow_sub_one, Nat.testBit_two_pow_sub_one]
theorem wmK_wrt {Y Y1 : XS} {id : Nat} (h : wrt Y Y1 id = true) : (wmK Y.nid Y1.nid Y1.dm).testBit id = true := by
  rw [wmK_bit]
  unfold wrt at h
  rw [Bool.and_eq_true] at h
  have h1 := h.1
  rw [Bool.or_eq_true, Bool.and_eq_true, Nat.blt_eq] at h1
  rcases h1 with h1 | ⟨h1, h2⟩
  · rw [h1]; rfl
  · have h1 := Nat.le_of_ble_eq_true h1
    have : ¬ id < Y.nid := by omega
    simp [h2, this]
def wbS {β : Type} (dst : Option Nat) (s1 sl : Tt D) (q : Tt D → Option β) : Option β := match dst with
  | some t => tstb (Nat.blt t 4000) ((gkC .dead 12 t).run s1 fun d => fcT ((stC .dead 12 t).run sl d) q)
  | none => q sl
theorem wbS_e {β : Type} {r : β} {dst : Option Nat} {s1 sl : Tt D} {q : Tt D → Option β} (h : wbS dst s1 sl q = some r) : ∃ s', (∀ s, s'.at .dead s = if dst = some s then s1.at .dead s else sl.at .dead s) ∧ q s' = some r := by
  unfold wbS at h
  split at h
  · rename_i t
    simp only [gkC_at, fcT_eq] at h
    obtain ⟨h1, h⟩ := tstb_e h
    rw [Nat.blt_eq] at h1
    refine ⟨_, fun s => ?_, h⟩
    rw [stC_at _ _ _ _ _ _ (by omega)]
    by_cases hs : t = s
    · subst hs; simp
    · simp [hs]
  · exact ⟨sl, fun s => by simp, h⟩
def nwB {β : Type} (nid nid1 : Nat) (H1 H : Tt XE) (q : Tt XE → Option β) : Option β := match Nat.beq nid1 nid with
  | true => q H
  | false => (gkC .no 20 nid).run H1 fun x => putH nid x H q
theorem nwB_e {β : Type} {r : β} {nid nid1 : Nat} {H1 H : Tt XE} {q : Tt XE → Option β} (h : nwB nid nid1 H1 H q = some r) : ∃ H', (∀ k, H'.at .no k = if nid1 ≠ nid ∧ k = nid then H1.at .no k else H.at .no k) ∧ q H' = some r := by
  unfold nwB at h
  split at h
  · rename_i hb
    have := Nat.eq_of_beq_eq_true hb
    exact ⟨H, fun k => by simp [this], h⟩
  · rename_i hb
    have hne : nid1 ≠ nid := fun e => by subst e; simp at hb
    simp only [gkC_at] at h
    obtain ⟨H', hH, _, h⟩ := putH_e h
    refine ⟨H', fun k => ?_, h⟩
    rw [hH k]
    by_cases hk : nid = k
    · subst hk; simp [hne]
    · have : k ≠ nid := fun e => hk e.symm
      simp [hk, this]
def mkD : Op → Nat
  | .move _ => 0
  | .assign _ => 0
  | .pick _ _ _ => 0
  | .binOp _ _ _ _ _ => 0
  | .unOp _ _ _ => 0
  | .field _ _ _ => 0
  | .extract _ _ => 0
  | .fieldAddr _ _ _ => 0
  | .indexAddr _ _ _ => 0
  | .index _ _ _ => 0
  | .nilCheck _ => 0
  | .build _ _ => 0
  | .makeFunc _ _ _ => 0
  | .call c => match c.callee with
    | .value _ => 2
    | _ => 1
  | _ => 1
structure Dop where
  run : ∀ {β : Type}, CL → XS → (XS → Nat → Nat → Option β) → Option β
def ones (b : Nat) : Nat := Nat.sub (Nat.shiftLeft 1 b) 1
theorem ones_bit {b id : Nat} : (ones b).testBit id = decide (id < b) := by
  show (1 <<< b - 1).testBit id = _
  rw [Nat.one_shiftLeft, Nat.testBit_two_pow_sub_one]
def dop0 (st : Or) (rs : List Nat) (dst : Option Nat) : Dop := ⟨fun cl X q => match X with
  | ⟨sl, H, nid, dm⟩ => slB sl rs .e fun s => match st.run cl ⟨s, .e, nid, 0⟩ with
    | some Y1 => match Y1 with
      | ⟨s1, _, nid1, dm1⟩ => tstb (Nat.beq nid1 nid) (tstb (Nat.beq dm1 0) (wbS dst s1 sl fun sl => q ⟨sl, H, nid, dm⟩ 0 0))
    | none => none⟩
def dop1 (st : Or) (rs : List Nat) (dst : Option Nat) : Dop := ⟨fun cl X q => match X with
  | ⟨sl, H, nid, dm⟩ => slB sl rs .e fun s => hbB sl H rs .e fun Hy => mkM sl rs 0 fun m => match st.run cl ⟨s, Hy, nid, 0⟩ with
    | some Y1 => match Y1 with
      | ⟨s1, H1, nid1, dm1⟩ => tstb (Nat.ble nid1 (Nat.succ nid)) (tstb (Nat.blt dm1 (Nat.shiftLeft 1 nid1)) (fcN (wmK nid nid1 dm1) fun wm => wbS dst s1 sl fun sl' => match Nat.beq wm 0 with
        | true => q ⟨sl', H, nid, dm⟩ m 0
        | false => hbB sl H1 rs H fun H' => nwB nid nid1 H1 H' fun H' => fcN (Nat.lor m wm) fun rm => fcN (Nat.lor dm dm1) fun dm => q ⟨sl', H', nid1, dm⟩ rm wm))
    | none => none⟩
def dop2 (st : Or) (rs : List Nat) (dst : Option Nat) : Dop := ⟨fun cl X q => match X with
  | ⟨sl, H, nid, dm⟩ => slB sl rs .e fun s => match st.run cl ⟨s, H, nid, 0⟩ with
    | some Y1 => match Y1 with
      | ⟨s1, H1, nid1, dm1⟩ => tstb (Nat.blt dm1 (Nat.shiftLeft 1 nid1)) (fcN (wmK nid nid1 dm1) fun wm => wbS dst s1 sl fun sl' => fcN (ones nid1) fun rm => fcN (Nat.lor dm dm1) fun dm => q ⟨sl', H1, nid1, dm⟩ rm wm)
    | none => none⟩
/-- What is known of one operation. -/
structure OpF (P : Program) (N : Nat) (ops : Array Oper) (i : Nat) (o : Oper) (X X' Y Y1 : XS) (rm wm : Nat) : Prop where
  op : ops[i]? = some o
  gx : GX P N ops i o Y Y1
  nx : NX o X Y Y1 X'
  ysl : ∀ s, Y.sl.at .dead s = if s ∈ rsO ops o then X.sl.at .dead s else .dead
  w : ∀ id, wrt Y Y1 id = true → wm.testBit id = true
  r1 : ∀ id, Y.ent id ≠ .no → rm.testBit id = true ∨ X.nid ≤ id
  r2 : ∀ id, X.nid ≤ id → id < Y1.nid → rm.testBit id = true
  r3 : ∀ id, wrt Y Y1 id = true → rm.testBit id = true
theorem wrt_lt' {Y Y1 : XS} (hd : ∀ id, Y1.dm.testBit id = true → id < Y1.nid) {id : Nat} (h : wrt Y Y1 id = true) : id < Y1.nid := by
  unfold wrt at h
  rw [Bool.and_eq_true] at h
  have h1 := h.1
  rw [Bool.or_eq_true, Bool.and_eq_true, Nat.blt_eq] at h1
  rcases h1 with h1 | h1
  · exact hd id h1
  · exact h1.2
theorem dm_lt {dm b : Nat} (h : Nat.blt dm (Nat.shiftLeft 1 b) = true) : ∀ id, dm.testBit id = true → id < b := by
  intro id hi
  rw [Nat.blt_eq] at h
  have h : dm < 2 ^ b := by rw [← Nat.one_shiftLeft]; exact h
  rcases Nat.lt_or_ge id b with h1 | h1
  · exact h1
  · have : dm < 2 ^ id := Nat.lt_of_lt_of_le h (Nat.pow_le_pow_right (by omega) h1)
    rw [Nat.testBit_lt_two_pow this] at hi; cases hi
section
variable {P : Program} {N : Nat} {ops : Array Oper} {o : Oper} {i : Nat} {X : XS} {β : Type} {r : β} {cl : CL}
theorem dop0_ok (hcl : FOk P cl) (ho : ops[i]? = some o) {q : XS → Nat → Nat → Option β} (h : (dop0 (gO P N ops o) (rsO ops o) o.dst).run cl X q = some r) : ∃ X' Y Y1 rm wm, OpF P N ops i o X X' Y Y1 rm wm ∧ q X' rm wm = some r := by
  obtain ⟨sl, H, nid, dm⟩ := X
  simp only [dop0] at h
  obtain ⟨s, hs, h⟩ := slB_e h
  split at h
  · rename_i Y1 hst
    obtain ⟨s1, H1, nid1, dm1⟩ := Y1
    dsimp only at h
    obtain ⟨h1, h⟩ := tstb_e h
    obtain ⟨h2, h⟩ := tstb_e h
    have h1 := Nat.eq_of_beq_eq_true h1
    have h2 := Nat.eq_of_beq_eq_true h2
    subst h1; subst h2
    obtain ⟨sl', hsl, h⟩ := wbS_e h
    have hgx := gO_ok hcl ho hst
    have nowrt : ∀ id, wrt ⟨s, .e, nid1, 0⟩ ⟨s1, H1, nid1, 0⟩ id = false := fun id => by
      unfold wrt
      have : (Nat.ble nid1 id && Nat.blt id nid1) = false := by
        rw [Bool.and_eq_false_iff]
        by_cases h : nid1 ≤ id
        · right
          cases hc : Nat.blt id nid1 with
          | false => rfl
          | true => rw [Nat.blt_eq] at hc; omega
        · left
          cases hc : Nat.ble nid1 id with
          | false => rfl
          | true => exact absurd (Nat.le_of_ble_eq_true hc) h
      show ((Nat.testBit 0 id || (Nat.ble nid1 id && Nat.blt id nid1)) && _) = false
      rw [this, Nat.zero_testBit]; rfl
    have hno : ∀ id, (XS.mk s .e nid1 0).ent id = .no := fun id => at_e _ _
    refine ⟨⟨sl', H, nid1, dm⟩, _, _, 0, 0, ⟨ho, hgx, ⟨fun id => .inr (hno id), rfl, hgx.fwd, hsl, fun id => ?_, rfl, ?_, fun id h => ?_⟩, fun k => ?_, fun id h => ?_, fun id h => absurd (hno id) h, fun id h3 h4 => ?_, fun id h => ?_⟩, h⟩
    · rw [nowrt id]; rfl
    · show dm = dm ||| 0; simp
    · have h : Nat.testBit 0 id = true := h
      rw [Nat.zero_testBit] at h; cases h
    · show s.at .dead k = _
      rw [hs k, at_e]
    · rw [nowrt id] at h; cases h
    · have h3 : nid1 ≤ id := h3
      have h4 : id < nid1 := h4
      omega
    · rw [nowrt id] at h; cases h
  · cases h
theorem dop2_ok (hcl : FOk P cl) (ho : ops[i]? = some o) {q : XS → Nat → Nat → Option β} (h : (dop2 (gO P N ops o) (rsO ops o) o.dst).run cl X q = some r) : ∃ X' Y Y1 rm wm, OpF P N ops i o X X' Y Y1 rm wm ∧ q X' rm wm = some r := by
  obtain ⟨sl, H, nid, dm⟩ := X
  simp only [dop2] at h
  obtain ⟨s, hs, h⟩ := slB_e h
  split at h
  · rename_i Y1 hst
    obtain ⟨s1, H1, nid1, dm1⟩ := Y1
    dsimp only at h
    obtain ⟨h1, h⟩ := tstb_e h
    rw [fcN_eq] at h
    obtain ⟨sl', hsl, h⟩ := wbS_e h
    rw [fcN_eq, fcN_eq] at h
    have hgx := gO_ok hcl ho hst
    have hdl := dm_lt h1
    have hn : nid ≤ nid1 := hgx.fwd.nid
    refine ⟨⟨sl', H1, nid1, dm ||| dm1⟩, _, _, _, _, ⟨ho, hgx, ⟨fun id => .inl rfl, rfl, hgx.fwd, hsl, fun id => ?_, rfl, rfl, hdl⟩, fun k => ?_, fun id h => wmK_wrt h, fun id h => ?_, fun id h3 h4 => ?_, fun id h => ?_⟩, h⟩
    · by_cases hw : wrt ⟨s, H, nid, 0⟩ ⟨s1, H1, nid1, dm1⟩ id = true
      · rw [if_pos hw]; rfl
      · rw [if_neg hw]
        rcases wrt_f (by simpa using hw) with ⟨g1, g2⟩ | ⟨g1, g2⟩
        · exact hgx.fwd.p4 id g1 g2
        · show H1.at .no id = H.at .no id
          rw [show H.at .no id = .no from g1]
          exact hgx.fwd.p0 id g1 (.inl g2)
    · show s.at .dead k = _
      rw [hs k, at_e]
    · rcases Nat.lt_or_ge id nid with g | g
      · left; rw [ones_bit]; simp; omega
      · exact .inr g
    · have h4 : id < nid1 := h4
      rw [ones_bit]; simpa using h4
    · have : id < nid1 := wrt_lt' (Y1 := ⟨s1, H1, nid1, dm1⟩) hdl h
      rw [ones_bit]; simpa using this
  · cases h
theorem dop1_ok (hcl : FOk P cl) (ho : ops[i]? = some o) {q : XS → Nat → Nat → Option β} (h : (dop1 (gO P N ops o) (rsO ops o) o.dst).run cl X q = some r) : ∃ X' Y Y1 rm wm, OpF P N ops i o X X' Y Y1 rm wm ∧ q X' rm wm = some r := by
  obtain ⟨sl, H, nid, dm⟩ := X
  simp only [dop1] at h
  obtain ⟨s, hs, h⟩ := slB_e h
  obtain ⟨Hy, hHy, h⟩ := hbB_e h
  obtain ⟨m, hm, _, h⟩ := mkM_e h
  split at h
  · rename_i Y1 hst
    obtain ⟨s1, H1, nid1, dm1⟩ := Y1
    dsimp only at h
    obtain ⟨h0, h⟩ := tstb_e h
    have h0 : nid1 ≤ nid + 1 := Nat.le_of_ble_eq_true h0
    obtain ⟨h1, h⟩ := tstb_e h
    rw [fcN_eq] at h
    obtain ⟨sl', hsl, h9⟩ := wbS_e h
    have hgx := gO_ok hcl ho hst
    have hdl := dm_lt h1
    have hn : nid ≤ nid1 := hgx.fwd.nid
    have hye : ∀ id, Hy.at .no id = if id ∈ mentL sl (rsO ops o) then H.at .no id else .no := fun id => by rw [hHy id, at_e]
    have hyh : ∀ id, (XS.mk s Hy nid 0).ent id = (XS.mk sl H nid dm).ent id ∨ (XS.mk s Hy nid 0).ent id = .no := fun id => by
      show Hy.at .no id = H.at .no id ∨ Hy.at .no id = .no
      rw [hye id]; split
      · exact .inl rfl
      · exact .inr rfl
    have hkn : ∀ id, (XS.mk s Hy nid 0).ent id ≠ .no → id ∈ mentL sl (rsO ops o) := fun id h => by
      by_cases hc : id ∈ mentL sl (rsO ops o)
      · exact hc
      · exact absurd (show Hy.at .no id = .no by rw [hye id, if_neg hc]) h
    have hysl : ∀ k, (XS.mk s Hy nid 0).sl.at .dead k = if k ∈ rsO ops o then sl.at .dead k else .dead := fun k => by
      show s.at .dead k = _
      rw [hs k, at_e]
    split at h9
    · rename_i hw0
      have hw0 := Nat.eq_of_beq_eq_true hw0
      have nowrt : ∀ id, wrt ⟨s, Hy, nid, 0⟩ ⟨s1, H1, nid1, dm1⟩ id = false := fun id => by
        cases hc : wrt ⟨s, Hy, nid, 0⟩ ⟨s1, H1, nid1, dm1⟩ id with
        | false => rfl
        | true =>
          have := wmK_wrt hc
          rw [show wmK _ _ _ = wmK nid nid1 dm1 from rfl, hw0, Nat.zero_testBit] at this; cases this
      have hdm : dm1 = 0 := by
        have : dm1 ||| ((1 <<< nid1 - 1) ^^^ (1 <<< nid - 1)) = 0 := hw0
        exact (Nat.or_eq_zero_iff.1 this).1
      have hnn : nid1 = nid := by
        rcases Nat.lt_or_ge nid nid1 with g | g
        · have := wmK_bit (a := nid) (b := nid1) (dm := dm1) (id := nid)
          rw [hw0, Nat.zero_testBit] at this
          simp [g] at this
        · omega
      subst hnn; subst hdm
      refine ⟨⟨sl', H, nid1, dm⟩, _, _, _, _, ⟨ho, hgx, ⟨hyh, rfl, hgx.fwd, hsl, fun id => ?_, rfl, ?_, hdl⟩, hysl, fun id h => ?_, fun id h => .inl (hm id (hkn id h)), fun id h3 h4 => ?_, fun id h => ?_⟩, h9⟩
      · rw [nowrt id]; rfl
      · show dm = dm ||| 0; simp
      · rw [nowrt id] at h; cases h
      · have h3 : nid1 ≤ id := h3
        have h4 : id < nid1 := h4
        omega
      · rw [nowrt id] at h; cases h
    · obtain ⟨H2, hH2, h8⟩ := hbB_e h9
      obtain ⟨H3, hH3, h7⟩ := nwB_e h8
      rw [fcN_eq, fcN_eq] at h7
      have hrm : ∀ id, (wmK nid nid1 dm1).testBit id = true → (m ||| wmK nid nid1 dm1).testBit id = true := fun id h => by rw [Nat.testBit_or, h, Bool.or_true]
      refine ⟨⟨sl', H3, nid1, dm ||| dm1⟩, _, _, _, _, ⟨ho, hgx, ⟨hyh, rfl, hgx.fwd, hsl, fun id => ?_, rfl, rfl, hdl⟩, hysl, fun id h => wmK_wrt h, fun id h => .inl ?_, fun id h3 h4 => hrm id ?_, fun id h => hrm id (wmK_wrt h)⟩, h7⟩
      · show H3.at .no id = if _ then H1.at .no id else H.at .no id
        rw [hH3 id, hH2 id]
        by_cases hw : wrt ⟨s, Hy, nid, 0⟩ ⟨s1, H1, nid1, dm1⟩ id = true
        · rw [if_pos hw]
          by_cases hc : nid1 ≠ nid ∧ id = nid
          · rw [if_pos hc]
          · rw [if_neg hc, if_pos]
            rcases wrt_at hw with g | g
            · exact hkn id g
            · exfalso
              have g : nid ≤ id := g
              have : id < nid1 := wrt_lt' (Y1 := ⟨s1, H1, nid1, dm1⟩) hdl hw
              exact hc ⟨by omega, by omega⟩
        · rw [if_neg hw]
          by_cases hc : nid1 ≠ nid ∧ id = nid
          · exfalso
            obtain ⟨c1, c2⟩ := hc
            subst c2
            refine hw ?_
            unfold wrt
            show ((_ || (Nat.ble id id && Nat.blt id nid1)) && (_ || Nat.ble id id)) = true
            have e1 : Nat.ble id id = true := Nat.ble_eq_true_of_le (Nat.le_refl _)
            have e2 : Nat.blt id nid1 = true := by rw [Nat.blt_eq]; omega
            rw [e1, e2]; simp
          · rw [if_neg hc]
            split
            · rename_i hment
              have hy : Hy.at .no id = H.at .no id := by rw [hye id, if_pos hment]
              rcases wrt_f (by simpa using hw) with ⟨g1, g2⟩ | ⟨g1, g2⟩
              · rw [← hy]; exact hgx.fwd.p4 id g1 g2
              · rw [← hy, show Hy.at .no id = .no from g1]
                exact hgx.fwd.p0 id g1 (.inl g2)
            · rfl
      · show (m ||| wmK nid nid1 dm1).testBit id = true
        rw [Nat.testBit_or, hm id (hkn id h)]; rfl
      · have h3 : nid ≤ id := h3
        have h4 : id < nid1 := h4
        rw [wmK_bit]
        have : ¬ id < nid := by omega
        simp [h4, this]
  · cases h
end
end Go.IL
set_option linter.unusedVariables false
namespace Go.IL
/-- What an operation comes behind, by way of others, too. -/
def trOf (prev : List Nat) : List Edge → Nat
  | [] => 0
  | e :: l => match Region.binds .any e with
    | true => Nat.lor (Nat.lor (Nat.shiftLeft 1 e.on) (prev.getD e.on 0)) (trOf prev l)
    | false => trOf prev l
def trs : List Oper → List Nat → List Nat
  | [], prev => prev
  | o :: l, prev => trs l (prev ++ [trOf prev o.after.toList])
theorem trOf_bit {prev : List Nat} {j : Nat} : ∀ {es : List Edge}, (trOf prev es).testBit j = true → ∃ e ∈ es, Region.binds .any e = true ∧ (e.on = j ∨ (prev.getD e.on 0).testBit j = true)
  | [], h => by rw [trOf, Nat.zero_testBit] at h; cases h
  | e :: l, h => by
    rw [trOf] at h
    split at h
    · rename_i hb
      have h : ((1 <<< e.on ||| prev.getD e.on 0) ||| trOf prev l).testBit j = true := h
      rw [Nat.testBit_or, Nat.testBit_or, Nat.one_shiftLeft, Nat.testBit_two_pow, Bool.or_eq_true, Bool.or_eq_true, decide_eq_true_eq] at h
      rcases h with (h | h) | h
      · exact ⟨e, by simp, hb, .inl h⟩
      · exact ⟨e, by simp, hb, .inr h⟩
      · obtain ⟨e', h1, h2⟩ := trOf_bit h
        exact ⟨e', by simp [h1], h2⟩
    · obtain ⟨e', h1, h2⟩ := trOf_bit h
      exact ⟨e', by simp [h1], h2⟩
theorem trs_spec : ∀ (l : List Oper) (prev : List Nat), ∃ r, trs l prev = prev ++ r ∧ r.length = l.length ∧ ∀ k o, l[k]? = some o → (trs l prev).getD (prev.length + k) 0 = trOf ((trs l prev).take (prev.length + k)) o.after.toList
  | [], prev => ⟨[], by simp [trs], rfl, fun k o h => by simp at h⟩
  | o :: l, prev => by
    obtain ⟨r, h1, h2, h3⟩ := trs_spec l (prev ++ [trOf prev o.after.toList])
    have ht : trs (o :: l) prev = trs l (prev ++ [trOf prev o.after.toList]) := rfl
    refine ⟨trOf prev o.after.toList :: r, by rw [ht, h1]; simp, by simp [h2], fun k o' hk => ?_⟩
    cases k with
    | zero =>
      cases hk
      rw [ht, h1]
      simp [List.getD_eq_getElem?_getD]
    | succ k =>
      have := h3 k o' (by simpa using hk)
      rw [ht]
      simp only [List.length_append, List.length_singleton] at this
      rw [show prev.length + (k + 1) = prev.length + 1 + k by omega]
      exact this
/-- Each stands behind what it is told to, and its bits are below it. -/
def ordL (ts : List Nat) : Nat → List Oper → Bool
  | _, [] => true
  | i, o :: l => o.after.toList.all (fun e => !Region.binds .any e || Nat.blt e.on i) && Nat.blt (ts.getD i 0) (Nat.shiftLeft 1 i) && ordL ts (i + 1) l
theorem ordL_at {ts : List Nat} : ∀ {l : List Oper} {i : Nat}, ordL ts i l = true → ∀ k o, l[k]? = some o → (∀ e ∈ o.after, Region.binds .any e = true → e.on < i + k) ∧ ∀ j, (ts.getD (i + k) 0).testBit j = true → j < i + k
  | [], i, _, k, o, h => by simp at h
  | o :: l, i, h, k, o', hk => by
    rw [ordL, Bool.and_eq_true, Bool.and_eq_true] at h
    obtain ⟨⟨h1, h2⟩, h3⟩ := h
    cases k with
    | zero =>
      cases hk
      refine ⟨fun e he hb => ?_, fun j hj => dm_lt h2 j hj⟩
      have := List.all_eq_true.1 h1 e (by simpa using he)
      rw [hb] at this
      simpa [Nat.blt_eq] using this
    | succ k =>
      have := ordL_at h3 k o' (by simpa using hk)
      rw [show i + (k + 1) = i + 1 + k by omega]
      exact this
/-- Slots of two that may change places are apart. -/
def slA (ops : Array Oper) (o p : Oper) : Bool := match o.dst with
  | some t => !(rsO ops p).elem t && (match p.dst with
    | some u => !(rsO ops o).elem u && !Nat.beq t u
    | none => true)
  | none => match p.dst with
    | some u => !(rsO ops o).elem u
    | none => true
def slL (ops : Array Oper) (ts : List Nat) : Nat → List Oper → List Oper → Bool
  | _, _, [] => true
  | i, prev, o :: l => (prev.zipIdx).all (fun p => Nat.testBit (ts.getD i 0) p.2 || slA ops p.1 o) && slL ops ts (i + 1) (prev ++ [o]) l
theorem slL_at {ops : Array Oper} {ts : List Nat} : ∀ {l prev : List Oper} {i : Nat}, slL ops ts i prev l = true → prev.length = i → ∀ k o, l[k]? = some o → ∀ j p, j < i + k → (prev ++ l)[j]? = some p → (ts.getD (i + k) 0).testBit j = true ∨ slA ops p o = true
  | [], prev, i, _, _, k, o, h, _, _, _, _ => by simp at h
  | o :: l, prev, i, h, hl, k, o', hk, j, p, hj, hp => by
    rw [slL, Bool.and_eq_true] at h
    obtain ⟨h1, h2⟩ := h
    cases k with
    | zero =>
      cases hk
      rw [List.getElem?_append_left (by omega)] at hp
      have := List.all_eq_true.1 h1 (p, j) (List.mem_zipIdx_iff_getElem?.2 hp)
      rw [Bool.or_eq_true] at this
      exact this
    | succ k =>
      have := slL_at h2 (by simp [hl]) k o' (by simpa using hk) j p (by omega) (by rw [List.append_assoc]; exact hp)
      rw [show i + (k + 1) = i + 1 + k by omega]
      exact this
theorem slA_e {ops : Array Oper} {o p : Oper} (h : slA ops o p = true) : (∀ t, o.dst = some t → t ∉ rsO ops p) ∧ (∀ u, p.dst = some u → u ∉ rsO ops o) ∧ ∀ t, o.dst = some t → p.dst ≠ some t := by
  unfold slA at h
  cases ho : o.dst with
  | none =>
    rw [ho] at h
    refine ⟨fun t e => (by cases e), fun u hu => ?_, fun t e => (by cases e)⟩
    rw [hu] at h
    simpa using h
  | some t =>
    rw [ho] at h
    simp only [Bool.and_eq_true] at h
    cases hp : p.dst with
    | none =>
      refine ⟨fun t' e => ?_, fun u e => (by cases e), fun t' _ e => (by cases e)⟩
      cases e
      simpa using h.1
    | some u =>
      rw [hp] at h
      simp only [Bool.and_eq_true] at h
      refine ⟨fun t' e => ?_, fun u' e => ?_, fun t' e e' => ?_⟩
      · cases e; simpa using h.1
      · cases e; simpa using h.2.1
      · cases e; cases e'
        have := h.2.2
        simp at this
/-! Memory: what is met is apart. -/
def Dj (rm wm r w : Nat) : Prop := Nat.land rm w = 0 ∧ Nat.land wm r = 0
theorem land_bit {a b id : Nat} (h : Nat.land a b = 0) (h1 : a.testBit id = true) (h2 : b.testBit id = true) : False := by
  have : (a &&& b).testBit id = true := by rw [Nat.testBit_and, h1, h2]; rfl
  rw [show a &&& b = 0 from h, Nat.zero_testBit] at this; cases this
def chkK {β : Type} (tr rm wm : Nat) : List (Nat × Nat × Nat) → Option β → Option β
  | [], q => q
  | x :: l, q => match x with
    | (j, r, w) => match Nat.testBit tr j with
      | true => chkK tr rm wm l q
      | false => tstb (Nat.beq (Nat.land rm w) 0) (tstb (Nat.beq (Nat.land wm r) 0) (chkK tr rm wm l q))
theorem chkK_e {β : Type} {r : β} {tr rm wm : Nat} : ∀ {l : List (Nat × Nat × Nat)} {q : Option β}, chkK tr rm wm l q = some r → q = some r ∧ ∀ x ∈ l, tr.testBit x.1 = true ∨ Dj rm wm x.2.1 x.2.2
  | [], q, h => ⟨h, fun x hx => by cases hx⟩
  | (j, r', w) :: l, q, h => by
    rw [chkK] at h
    split at h
    · rename_i ht
      obtain ⟨h1, h2⟩ := chkK_e h
      refine ⟨h1, fun x hx => ?_⟩
      rcases List.mem_cons.1 hx with rfl | hx
      · exact .inl ht
      · exact h2 x hx
    · obtain ⟨g1, h⟩ := tstb_e h
      obtain ⟨g2, h⟩ := tstb_e h
      obtain ⟨h1, h2⟩ := chkK_e h
      refine ⟨h1, fun x hx => ?_⟩
      rcases List.mem_cons.1 hx with rfl | hx
      · exact .inr ⟨Nat.eq_of_beq_eq_true g1, Nat.eq_of_beq_eq_true g2⟩
      · exact h2 x hx
structure Dr where
  run : CL → List (Nat × Nat × Nat) → XS → Option XS
def dop (P : Program) (N : Nat) (ops : Array Oper) (o : Oper) : Dop := match mkD o.op with
  | 0 => dop0 (gO P N ops o) (rsO ops o) o.dst
  | 1 => dop1 (gO P N ops o) (rsO ops o) o.dst
  | _ => dop2 (gO P N ops o) (rsO ops o) o.dst
def drL (P : Program) (N : Nat) (ops : Array Oper) (ts : List Nat) : Nat → List Oper → Dr
  | _, [] => ⟨fun _ _ X => some X⟩
  | i, o :: l => let r := drL P N ops ts (i + 1) l; let f := dop P N ops o; let t := ts.getD i 0
    ⟨fun cl h X => f.run cl X fun X rm wm => match Nat.beq (Nat.lor rm wm) 0 with
      | true => r.run cl h X
      | false => chkK t rm wm h (r.run cl ((i, rm, wm) :: h) X)⟩
section
variable {P : Program} {N : Nat} {ops : Array Oper} {cl : CL}
theorem dop_ok (hcl : FOk P cl) {o : Oper} {i : Nat} (ho : ops[i]? = some o) {X : XS} {β : Type} {r : β} {q : XS → Nat → Nat → Option β} (h : (dop P N ops o).run cl X q = some r) : ∃ X' Y Y1 rm wm, OpF P N ops i o X X' Y Y1 rm wm ∧ q X' rm wm = some r := by
  unfold dop at h
  split at h
  · exact dop0_ok hcl ho h
  · exact dop1_ok hcl ho h
  · exact dop2_ok hcl ho h
structure WkF (P : Program) (N : Nat) (ops : Array Oper) (ts : List Nat) (i : Nat) (l : List Oper) (h : List (Nat × Nat × Nat)) (X X' : XS) (Xs Y Y1 : Nat → XS) (rm wm : Nat → Nat) : Prop where
  x0 : Xs 0 = X
  xn : Xs l.length = X'
  op : ∀ k o, l[k]? = some o → OpF P N ops (i + k) o (Xs k) (Xs (k + 1)) (Y k) (Y1 k) (rm k) (wm k)
  ch : ∀ k, k < l.length → ∀ x ∈ h, (ts.getD (i + k) 0).testBit x.1 = true ∨ Dj (rm k) (wm k) x.2.1 x.2.2
  cc : ∀ k j, j < k → k < l.length → (ts.getD (i + k) 0).testBit (i + j) = true ∨ Dj (rm k) (wm k) (rm j) (wm j)
theorem drL_e (hcl : FOk P cl) {ts : List Nat} : ∀ {l : List Oper} {i : Nat} {h : List (Nat × Nat × Nat)} {X X' : XS}, ops.toList.drop i = l → (drL P N ops ts i l).run cl h X = some X' → ∃ Xs Y Y1 rm wm, WkF P N ops ts i l h X X' Xs Y Y1 rm wm
  | [], i, h, X, X', _, hr => by
    cases hr
    exact ⟨fun _ => X, fun _ => X, fun _ => X, fun _ => 0, fun _ => 0, rfl, rfl, fun k o h => by simp at h, fun k h => by simp at h, fun k j h1 h2 => by simp at h2⟩
  | o :: l, i, h, X, X', hd, hr => by
    have ho : ops[i]? = some o := by
      have : (ops.toList.drop i)[0]? = some o := by rw [hd]; rfl
      rw [List.getElem?_drop] at this
      simpa using this
    have hd' : ops.toList.drop (i + 1) = l := by
      rw [← List.drop_drop, hd]; rfl
    simp only [drL] at hr
    obtain ⟨X1, Y, Y1, rm, wm, hop, hr⟩ := dop_ok hcl ho hr
    have done : ∀ h', (drL P N ops ts (i + 1) l).run cl h' X1 = some X' → (∀ x ∈ h, (ts.getD i 0).testBit x.1 = true ∨ Dj rm wm x.2.1 x.2.2) → (∀ x ∈ h, x ∈ h') → ((i, rm, wm) ∈ h' ∨ (rm = 0 ∧ wm = 0)) →
        ∃ Xs Y Y1 rm wm, WkF P N ops ts i (o :: l) h X X' Xs Y Y1 rm wm := fun h' hr hc hsub hin => by
      obtain ⟨Xs, Ys, Y1s, rms, wms, w⟩ := drL_e hcl hd' hr
      refine ⟨fun k => match k with | 0 => X | k + 1 => Xs k, fun k => match k with | 0 => Y | k + 1 => Ys k, fun k => match k with | 0 => Y1 | k + 1 => Y1s k, fun k => match k with | 0 => rm | k + 1 => rms k, fun k => match k with | 0 => wm | k + 1 => wms k, rfl, w.xn, fun k o' hk => ?_, fun k hk x hx => ?_, fun k j hj hk => ?_⟩
      · cases k with
        | zero =>
          cases hk
          show OpF P N ops (i + 0) o X (Xs 0) Y Y1 rm wm
          rw [w.x0]; exact hop
        | succ k =>
          have := w.op k o' (by simpa using hk)
          rw [show i + (k + 1) = i + 1 + k by omega]
          exact this
      · cases k with
        | zero => exact hc x hx
        | succ k =>
          have := w.ch k (by simpa using hk) x (hsub x hx)
          rw [show i + (k + 1) = i + 1 + k by omega]
          exact this
      · cases k with
        | zero => omega
        | succ k =>
          rw [show i + (k + 1) = i + 1 + k by omega]
          cases j with
          | zero =>
            rcases hin with hin | ⟨g1, g2⟩
            · exact w.ch k (by simpa using hk) _ hin
            · right
              subst g1; subst g2
              exact ⟨by show rms k &&& 0 = 0; simp, by show wms k &&& 0 = 0; simp⟩
          | succ j =>
            have := w.cc k j (by omega) (by simpa using hk)
            rw [show i + (j + 1) = i + 1 + j by omega]
            exact this
    split at hr
    · rename_i hb
      have hb : rm ||| wm = 0 := Nat.eq_of_beq_eq_true hb
      obtain ⟨g1, g2⟩ := Nat.or_eq_zero_iff.1 hb
      refine done h hr (fun x _ => .inr ?_) (fun x hx => hx) (.inr ⟨g1, g2⟩)
      subst g1; subst g2
      exact ⟨by show 0 &&& _ = 0; simp, by show 0 &&& _ = 0; simp⟩
    · obtain ⟨hr, hc⟩ := chkK_e hr
      exact done _ hr hc (fun x hx => by simp [hx]) (.inl (by simp))
end
structure Drc where
  run : CL → XS → Option XS
/-- A region that may come in any order. -/
def drC (P : Program) (N : Nat) (ops : Array Oper) : Drc := match P.follows .mixedOrders with
  | true => match ordL (trs ops.toList []) 0 ops.toList && slL ops (trs ops.toList []) 0 [] ops.toList with
    | true => let r := drL P N ops (trs ops.toList []) 0 ops.toList; ⟨fun cl X => r.run cl [] X⟩
    | false => ⟨fun _ _ => none⟩
  | false => ⟨fun _ _ => none⟩
def SqF (nd : Nat → St → Node) (S0 : St) : Nat → St
  | 0 => S0
  | k + 1 => (SqF nd S0 k).upd (nd k (SqF nd S0 k))
section
variable {P : Program} {N : Nat} {ops : Array Oper} {cl : CL} {X X' : XS}
theorem WkF.fwd {ts : List Nat} {Xs Y Y1 : Nat → XS} {rm wm : Nat → Nat} (w : WkF P N ops ts 0 ops.toList [] X X' Xs Y Y1 rm wm) : ∀ k, k ≤ ops.size → Fwd X (Xs k)
  | 0, _ => by rw [w.x0]; exact Fwd.refl _
  | k + 1, hk => by
    have h1 : k < ops.toList.length := by simp; omega
    exact (w.fwd k (by omega)).trans (w.op k ops.toList[k] (by simp)).nx.fw
theorem drC_ok (hcl : FOk P cl) (h : (drC P N ops).run cl X = some X') : Fwd X X' ∧ ∀ (O : Origin) (S : St) (L : Nat) (Q : Exit → St → Prop) (id : Nat), SubX O X S L → OC O X S → X'.nid ≤ L → (∀ S', SubX O X' S' L → Pres X X' S S' → Q .normal S') → IWP P O N (.region id ops true) S Q := by
  unfold drC at h
  split at h
  · rename_i hm
    split at h
    · rename_i hst
      rw [Bool.and_eq_true] at hst
      obtain ⟨hord, hsl⟩ := hst
      obtain ⟨Xs, Y, Y1, rm, wm, w⟩ := drL_e hcl (by simp) h
      have hlen : ops.toList.length = ops.size := by simp
      refine ⟨by have := w.fwd ops.size (Nat.le_refl _); rw [← w.xn, hlen]; exact this, fun O S L Q id hs hoc hL k => ?_⟩
      generalize hts : trs ops.toList [] = ts at *
      have hopf : ∀ k, (hk : k < ops.size) → OpF P N ops k ops[k] (Xs k) (Xs (k + 1)) (Y k) (Y1 k) (rm k) (wm k) := fun k hk => by
        have := w.op k ops[k] (by simp [hk])
        rwa [Nat.zero_add] at this
      let o' : Nat → Oper := fun k => if hk : k < ops.size then ops[k] else ⟨none, .move (.tmp 0), 0, "", #[], none⟩
      have ho' : ∀ k, (hk : k < ops.size) → o' k = ops[k] := fun k hk => by simp only [o', dif_pos hk]
      let nd : Nat → St → Node := fun k S => nodeX (rsO ops (o' k)) (o' k) S (Y k) (Y1 k)
      let Sq := SqF nd S
      have hnid : ∀ k j, k ≤ j → j ≤ ops.size → (Xs k).nid ≤ (Xs j).nid := fun k j h1 h2 => by
        induction j with
        | zero => rw [show k = 0 by omega]; exact Nat.le_refl _
        | succ j ih =>
          rcases Nat.lt_or_ge k (j + 1) with g | g
          · exact Nat.le_trans (ih (by omega) (by omega)) (hopf j (by omega)).nx.fw.nid
          · rw [show k = j + 1 by omega]; exact Nat.le_refl _
      have hLk : ∀ k, k ≤ ops.size → (Xs k).nid ≤ L := fun k hk => by
        refine Nat.le_trans (hnid k ops.size hk (Nat.le_refl _)) ?_
        have := w.xn; rw [hlen] at this; rw [this]; exact hL
      have hst : ∀ k, k ≤ ops.size → SubX O (Xs k) (Sq k) L ∧ Pres X (Xs k) S (Sq k) := fun k => by
        induction k with
        | zero => intro _; show SubX O (Xs 0) S L ∧ Pres X (Xs 0) S S; rw [w.x0]; exact ⟨hs, Pres.refl _ _⟩
        | succ k ih =>
          intro hk
          obtain ⟨h1, h2⟩ := ih (by omega)
          have hf := hopf k (by omega)
          rw [← ho' k (by omega)] at hf
          have := hf.nx.sub (rs := rsO ops (o' k)) h1 (hLk (k + 1) hk)
          exact ⟨this.1, h2.trans (w.fwd k (by omega)) hf.nx.fw this.2⟩
      have hQ : Q .normal (Sq ops.size) := by
        have := hst ops.size (Nat.le_refl _)
        have hx := w.xn; rw [hlen] at hx; rw [hx] at this
        exact k _ this.1 this.2
      let W : Nat → Prop := fun id => ∃ k, k < ops.size ∧ wrt (Y k) (Y1 k) id = true
      have hWL : ∀ id, W id → id < L := fun id ⟨k, hk, hw⟩ => by
        have hf := hopf k hk
        have h1 := wrt_lt' hf.nx.dlt hw
        have h2 := hLk (k + 1) (by omega)
        rw [hf.nx.nid] at h2
        omega
      have hWk : ∀ id, W id → X.ent id ≠ .no ∨ X.nid ≤ id := fun id ⟨k, hk, hw⟩ => by
        have hf := hopf k hk
        have hfw := w.fwd k (by omega)
        have hn : X.nid ≤ (Xs k).nid := hfw.nid
        rcases wrt_at hw with g | g
        · rcases Nat.lt_or_ge id X.nid with g2 | g2
          · left
            intro e
            have := hfw.p0 id e (.inl g2)
            rcases hf.nx.yh id with g3 | g3
            · rw [g3] at g; exact g this
            · exact g g3
          · exact .inr g2
        · rw [hf.nx.yn] at g; exact .inr (by omega)
      open Classical in
      let R : Nat → Nat → Bool := fun k id => decide (¬ W id) || (rm k).testBit id
      have hR : ∀ k id, R k id = true ↔ (¬ W id ∨ (rm k).testBit id = true) := fun k id => by simp [R]
      show IWP P O N (.region id ops true) (Sq 0) Q
      refine iwp_drawR hm (nd := fun k => nd k (Sq k)) (R := R) (Sq := Sq) (tr := fun j k => (ts.getD j 0).testBit k) (fun k _ => rfl) (fun k hk => ?_) (fun k o ho e he hb => ?_) (fun j k hjk => ?_) (fun j k hkj hj hno => ?_) hQ
      · have hf := hopf k hk
        rw [← ho' k hk] at hf
        obtain ⟨hsk, hpk⟩ := hst k (by omega)
        have hfw := w.fwd k (by omega)
        refine node_gop hf.gx (fun S1 hag => ?_) fun id hw => (hR k id).2 (.inr (hf.r3 id hw))
        have hn1 : (Xs (k + 1)).nid ≤ L := hLk (k + 1) (by omega)
        rw [hf.nx.nid] at hn1
        refine ⟨⟨fun s => ?_, fun id => ?_, fun id h1 h2 => ?_, Nat.le_trans hn1 hs.lim⟩, ⟨hoc.foot, fun j => ?_⟩⟩
        · rw [hf.ysl s]
          by_cases hs1 : s ∈ rsO ops (o' k)
          · rw [if_pos hs1, hag.1 s hs1]; exact hsk.sl s
          · rw [if_neg hs1]; exact .inr rfl
        · show EnR O ((Y k).ent id) _
          by_cases hy : (Y k).ent id = .no
          · rw [hy]; trivial
          · have hxk : (Y k).ent id = (Xs k).ent id := by
              rcases hf.nx.yh id with g | g
              · exact g
              · exact absurd g hy
            have hrr : R k id = true := by
              rw [hR]
              rcases hf.r1 id hy with g | g
              · exact .inr g
              · left
                intro hw
                have h3 := hWL id hw
                rw [hxk] at hy
                exact hy (hsk.at_nid g h3)
            rw [hag.2 id hrr, hxk]
            exact hsk.en id
        · rw [hf.nx.yn] at h1
          rw [hag.2 id ((hR k id).2 (.inr (hf.r2 id h1 h2)))]
          exact hsk.fr id h1 (by omega)
        · rcases hoc.dv j with g | ⟨i0, ds, g1, g2, g3⟩
          · exact .inl g
          · right
            have hnw : ¬ W i0 := fun hw => by
              rcases hWk i0 hw with g | g
              · exact g g2
              · omega
            have hn : X.nid ≤ (Xs k).nid := hfw.nid
            refine ⟨i0, ds, by rw [hf.nx.yn]; omega, ?_, ?_⟩
            · have := hfw.p0 i0 g2 (.inl g1)
              rcases hf.nx.yh i0 with g | g
              · rw [g]; exact this
              · exact g
            · rw [hag.2 i0 ((hR k i0).2 (.inl hnw)), hpk.p1 i0 g2 (.inl g1)]
              exact g3
      · have hk : k < ops.size := (Array.getElem?_eq_some_iff.1 ho).1
        have := (ordL_at hord k o (by simpa using ho)).1 e he hb
        rwa [Nat.zero_add] at this
      · obtain ⟨r, h1, h2, h3⟩ := trs_spec ops.toList []
        rw [hts] at h1 h3
        have hj : j < ops.size := by
          rcases Nat.lt_or_ge j ops.size with g | g
          · exact g
          · exfalso
            have hl : ts.length = ops.size := by rw [h1]; simp [h2]
            have : ts.getD j 0 = 0 := by rw [List.getD_eq_getElem?_getD, List.getElem?_eq_none (by omega)]; rfl
            rw [this, Nat.zero_testBit] at hjk; cases hjk
        have hoj : ops.toList[j]? = some ops[j] := by simp [hj]
        have hlt := (ordL_at hord j ops[j] hoj).2 k
        rw [Nat.zero_add] at hlt
        refine ⟨hlt hjk, ops[j], by simp [hj], ?_⟩
        have h4 := h3 j ops[j] hoj
        rw [List.length_nil, Nat.zero_add] at h4
        rw [h4] at hjk
        obtain ⟨e, he, hb, hon⟩ := trOf_bit hjk
        refine ⟨e, by simpa using he, hb, ?_⟩
        rcases hon with hon | hon
        · exact .inl hon
        · right
          have hej := (ordL_at hord j ops[j] hoj).1 e (by simpa using he) hb
          rw [Nat.zero_add] at hej
          rw [List.getD_eq_getElem?_getD, List.getElem?_take, if_pos hej, ← List.getD_eq_getElem?_getD] at hon
          exact hon
      · have hk : k < ops.size := by omega
        have hfk := hopf k hk
        have hfj := hopf j hj
        have hdj : Dj (rm j) (wm j) (rm k) (wm k) := by
          rcases w.cc j k hkj (by rw [hlen]; exact hj) with g | g
          · rw [Nat.zero_add, Nat.zero_add] at g; rw [hno] at g; cases g
          · exact g
        have hsa : slA ops (o' k) (o' j) = true := by
          rcases slL_at hsl rfl j ops[j] (by simp [hj]) k ops[k] (by omega) (by simp [hk]) with g | g
          · rw [Nat.zero_add] at g; rw [hno] at g; cases g
          · rw [ho' k hk, ho' j hj]; exact g
        obtain ⟨a1, a2, a3⟩ := slA_e hsa
        have mus : ∀ {i t : Nat}, t ∈ (usL (o' i) (Y1 i)).map (·.1) → (o' i).dst = some t := fun {i t} h => by
          unfold usL at h
          split at h
          · rename_i u hu
            simp at h
            rw [hu, h]
          · simp at h
        have hwk : ∀ id, wrt (Y k) (Y1 k) id = true → W id := fun id h => ⟨k, hk, h⟩
        have hwj : ∀ id, wrt (Y j) (Y1 j) id = true → W id := fun id h => ⟨j, hj, h⟩
        refine ⟨fun t ht hm => a1 t (mus hm) ht, fun t ht hm => a2 t (mus hm) ht, fun t ht hm => a3 t (mus ht) (mus hm), fun id hr hm => ?_, fun id hr hm => ?_, fun id h1 h2 => ?_⟩
        · have hm := mem_uiL.1 hm
          rcases (hR j id).1 hr with g | g
          · exact g (hwk id hm)
          · exact land_bit hdj.1 g (hfk.w id hm)
        · have hm := mem_uiL.1 hm
          rcases (hR k id).1 hr with g | g
          · exact g (hwj id hm)
          · exact land_bit hdj.2 (hfj.w id hm) g
        · have h1 := mem_uiL.1 h1
          have h2 := mem_uiL.1 h2
          exact land_bit hdj.1 (hfj.r3 id h2) (hfk.w id h1)
    · cases h
  · cases h
end
end Go.IL
