/-
  A part of the proof: rules and plain facts. No condition.
-/
import Derived.Test.YtgooaecafbjhjaaGreatDoorIlP1
import Derived.KernelRfl
import Derived.Test.YtgooaecafbjhjaaGreatDoorIlTm
set_option linter.all false
open Go Go.IL
namespace Go.Fn
theorem fuel_is (k : Nat) (h : k < 100) : ∃ m,fuel = m + k:=⟨2 ^ 64 - k,by show 2 ^ 64 = _; omega⟩
theorem yM {i : Nat} {n : Nat} (h : i < n) (hn : n ≤ 1000000) : IntKind.wrap .i64 ((i : Int) + 1) = ((i + 1 : Nat) : Int):=by rw [w64 (by omega) (by omega)]; omega

def inb (n a b : Int) : Bool:=decide (a ≤ n) && decide (n ≤ b)
theorem in_is (n a b : Int) : mN n a b = some (inb n a b):=rfl
def oE (p : aT) : Bool:=inb p.ID 0 1099511627776 && inb p.Value 0 1099511627776
theorem aGn (p : aT) : gK p = some (!oE p):=by
  unfold gK oE
  simp only [in_is,dG,iJ]
  cases inb p.ID 0 1099511627776 <;> simp [gd,dG]
theorem aGV {l : List aT} (hl : l.length ≤ 1000000) : ∀ (k i : Nat), l.length - i < k → i ≤ l.length → (∀ x ∈ l.take i, oE x = true) →
    ∃ n,bY l k (i : Int) = some n ∧ decide (0 ≤ n) = !l.all oE:=by
  intro k
  induction k with
  | zero=>intro i h; omega
  | succ k ih =>
    intro i h hi ha
    unfold bY
    simp only [iJ]
    by_cases hc : i < l.length
    · rw [decide_eq_true (by omega), cond_true, pB, List.getElem?_eq_getElem hc, dG, aGn, dG]
      cases hp : oE l[i] with
      | false =>
        refine ⟨i,rfl,?_⟩
        have : l.all oE = false:=by
          rw [List.all_eq_false]; exact ⟨l[i],List.getElem_mem hc,by simp [hp]⟩
        rw [this]; simp
      | true =>
        simp only [Bool.not_true,cond_false]
        rw [yM hc hl]
        exact ih (i + 1) (by omega) (by omega) (by
          rw [List.take_succ_eq_append_getElem hc]
          intro x hx
          rcases List.mem_append.1 hx with h | h
          · exact ha x h
          · simp at h; subst h; exact hp)
    · rw [decide_eq_false (by omega), cond_false]
      refine ⟨-1,rfl,?_⟩
      have : i = l.length:=by omega
      subst this
      rw [List.take_length] at ha
      rw [List.all_eq_true.2 ha]; rfl
theorem aCr {l : List aT} (hl : l.length ≤ 1000000) : cT l = some (!l.all oE):=by
  unfold cT dH
  obtain ⟨n,h1,h2⟩:=aGV hl fuel 0 (fB (by omega)) (Nat.zero_le _) (by simp)
  rw [show ((0 : Nat) : Int) = 0 from rfl] at h1
  rw [h1,dG,iJ,h2]

def rngs (f : aD) (a b c : Int) : Bool :=
  f.Pairs.all oE && inb f.Stream 0 1048576 && inb f.Offset 0 1099511627776 && inb f.Dep 0 1048576 && inb f.N a b && inb f.Code 0 c
def rng (f : aD) : Bool :=
  if f.Kind = 8 then rngs f 1 1099511627776 255 else if f.Kind = 10 then rngs f 0 3 1 else
  if f.Kind = 1 ∨ f.Kind = 2 then inb f.Weight 1 256 && rngs f 0 1099511627776 255 else rngs f 0 1099511627776 255
theorem rJ1 {f : aD} (hl : f.Pairs.length ≤ 1000000) (a b c : Int) : dV f a b c = some (rngs f a b c):=by
  unfold dV rngs
  simp only [aCr hl,in_is,dG,iJ]
  cases f.Pairs.all oE <;> cases inb f.N a b <;> cases inb f.Code 0 c <;> cases inb f.Stream 0 1048576 <;> cases inb f.Dep 0 1048576 <;> cases inb f.Offset 0 1099511627776 <;> rfl
theorem aEj {f : aD} (hl : f.Pairs.length ≤ 1000000) : iF f = some (rng f):=by
  unfold iF rng fU
  simp only [rJ1 hl,in_is,dG,iJ]
  by_cases h8 : f.Kind = 8
  · simp [h8]
  by_cases h10 : f.Kind = 10
  · simp [h10]
  by_cases h1 : f.Kind = 1
  · simp [h1]; cases inb f.Weight 1 256 <;> simp
  by_cases h2 : f.Kind = 2
  · simp [h2]; cases inb f.Weight 1 256 <;> simp
  simp [h8,h10,h1,h2]
theorem eq_loop {p q : List aT} (hp : p.length ≤ 1000000) (hq : p.length = q.length) : ∀ (k i : Nat), p.length - i < k → i ≤ p.length → p.take i = q.take i → cV p q k (i : Int) = some (decide (p = q)) := by
  intro k
  induction k with
  | zero=>intro i h; omega
  | succ k ih =>
    intro i h hi ha
    unfold cV
    simp only [iJ]
    by_cases hc : i < p.length
    · have hc2 : i < q.length := by omega
      rw [decide_eq_true (by omega),cond_true,pB,List.getElem?_eq_getElem hc,dG,pB,List.getElem?_eq_getElem hc2,dG]
      have e : (decide ((p[i]).ID = (q[i]).ID) && (decide ((p[i]).Value = (q[i]).Value) && true)) = decide (p[i] = q[i]):=by
        cases hp2 : p[i]; cases hq2 : q[i]; simp [aT.mk.injEq,Bool.decide_and]
      rw [e]
      by_cases hx : p[i] = q[i]
      · rw [decide_eq_true hx]; simp only [Bool.not_true, cond_false]
        rw [yM hc hp]
        exact ih (i + 1) (by omega) (by omega) (by rw [List.take_succ_eq_append_getElem hc,List.take_succ_eq_append_getElem hc2,ha,hx])
      · have hne : p ≠ q := fun h => hx (by subst h; rfl)
        rw [decide_eq_false hx,decide_eq_false hne]; rfl
    · rw [decide_eq_false (by omega), cond_false]
      have : i = p.length:=by omega
      subst this
      rw [List.take_length,hq,List.take_length] at ha
      rw [decide_eq_true ha]
theorem aGc {p q : List aT} (hp : p.length ≤ 1000000) (hq : q.length ≤ 1000000) : dT p q = some (decide (p = q)):=by
  unfold dT
  simp only [iJ]
  by_cases h : p.length = q.length
  · rw [decide_eq_true (by omega)]; simp only [Bool.not_true, cond_false]
    exact eq_loop hp h fuel 0 (fB (by omega)) (Nat.zero_le _) (by simp)
  · rw [decide_eq_false (by omega)]
    have : p ≠ q:=fun e=>h (by rw [e])
    rw [decide_eq_false this]; rfl
theorem aFN {a b : aD} : a = b ↔ a.Kind = b.Kind ∧ a.Flag = b.Flag ∧ a.Stream = b.Stream ∧ a.Offset = b.Offset ∧ a.Dep = b.Dep ∧ a.Weight = b.Weight ∧ a.N = b.N ∧ a.Code = b.Code ∧ a.Pairs = b.Pairs ∧ a.Data = b.Data:=by
  cases a; cases b; simp
theorem aB9 (a b : aD) : decide (a = b) = (decide (a.Kind = b.Kind) && (a.Flag == b.Flag) && decide (a.Pairs = b.Pairs) && (decide (a.Stream = b.Stream) && decide (a.Offset = b.Offset) && decide (a.Dep = b.Dep) && decide (a.Weight = b.Weight) && decide (a.N = b.N) && decide (a.Code = b.Code) && decide (a.Data = b.Data))):=by
  rw [Bool.eq_iff_iff]
  simp only [decide_eq_true_eq,Bool.and_eq_true,beq_iff_eq,aFN]
  constructor
  · rintro ⟨h1,h2,h3,h4,h5,h6,h7,h8,h9,h10⟩; exact ⟨⟨⟨h1,h2⟩,h9⟩,⟨⟨⟨⟨⟨h3,h4⟩,h5⟩,h6⟩,h7⟩,h8⟩,h10⟩
  · rintro ⟨⟨⟨h1,h2⟩,h9⟩,⟨⟨⟨⟨⟨h3,h4⟩,h5⟩,h6⟩,h7⟩,h8⟩,h10⟩; exact ⟨h1,h2,h3,h4,h5,h6,h7,h8,h9,h10⟩
theorem same_is {a b : aD} (ha : a.Pairs.length ≤ 1000000) (hb : b.Pairs.length ≤ 1000000) : qG a b = some (decide (a = b)):=by
  unfold qG
  simp only [iJ]
  rw [aB9,aGc ha hb]
  generalize (decide (a.Stream = b.Stream) && decide (a.Offset = b.Offset) && decide (a.Dep = b.Dep) && decide (a.Weight = b.Weight) && decide (a.N = b.N) && decide (a.Code = b.Code) && decide (a.Data = b.Data)) = z
  cases decide (a.Kind = b.Kind) <;> cases (a.Flag == b.Flag) <;> cases decide (a.Pairs = b.Pairs) <;> simp [gd,dG]
end Go.Fn
open Go Go.IL
namespace Go.Fn

def mG (k : Int) : List Nat :=
  if k = 0 then [2,3] else if k = 9 then [2,3] else if k = 1 then [2,4,5] else if k = 2 then [2,4,5] else if k = 3 then [2,6,7] else if k = 7 then [2,7] else
  if k = 8 then [2,6] else if k = 6 then [6] else if k = 10 then [6,7] else []
def pA (k : Int) : Bool:=decide (k ≤ 10) && !decide (k = 5)
def flgK (k : Int) : Bool:=decide (k = 0) || decide (k = 1) || decide (k = 2) || decide (k = 4) || decide (k = 6) || decide (k = 9)
def nv (f : aD) (o : Nat) : Int:=if o = 2 then f.Stream else if o = 3 then f.Offset else if o = 4 then f.Dep else if o = 5 then f.Weight else if o = 6 then f.N else f.Code
def zr (f : aD) (o : Nat) : Bool:=(mG f.Kind).contains o || decide (nv f o = 0)
def spr (f : aD) : Bool :=
  !(zr f 2 && zr f 3 && zr f 4 && zr f 5 && zr f 6 && zr f 7) || (!decide (f.Kind = 0) && !decide (f.Data = [])) || (!decide (f.Kind = 4) && !decide (f.Pairs = [])) || (f.Flag && (!flgK f.Kind || !decide (f.Pairs = [])))
def chkF (f : aD) : Int :=
  if pA f.Kind = false then 12 else if rng f = false then 8 else if 32 < f.Data.length ∨ 4 < f.Pairs.length then 5 else if spr f then 4 else 0

theorem wH (f : aD) : eL f = some (mG f.Kind):=by
  have a3 : ∀ l : List Nat,l.length ≤ 3 → app 8 [] l = some l:=fun l hl=>pM (by simp; omega) (by simp; omega)
  unfold eL mG eZ
  simp only [iJ]
  by_cases h0 : f.Kind = 0
  · simp [h0,a3,dG]
  by_cases h9 : f.Kind = 9
  · simp [h9,a3,dG]
  by_cases h1 : f.Kind = 1
  · simp [h1,a3,dG]
  by_cases h2 : f.Kind = 2
  · simp [h2,a3,dG]
  by_cases h3 : f.Kind = 3
  · simp [h3,a3,dG]
  by_cases h7 : f.Kind = 7
  · simp [h7,a3,dG]
  by_cases h8 : f.Kind = 8
  · simp [h8,a3,dG,app]
  by_cases h6 : f.Kind = 6
  · simp [h6,a3,dG]
  by_cases h10 : f.Kind = 10
  · simp [h10,a3,dG]
  simp [h0,h9,h1,h2,h3,h7,h8,h6,h10]
theorem aD1 (k : Int) : mO k = some (flgK k):=by
  unfold mO flgK
  simp only [iJ]
  by_cases h0 : k = 0
  · simp [h0]
  by_cases h1 : k = 1
  · simp [h1]
  by_cases h2 : k = 2
  · simp [h2]
  by_cases h4 : k = 4
  · simp [h4]
  by_cases h6 : k = 6
  · simp [h6]
  by_cases h9 : k = 9
  · simp [h9]
  simp [h0,h1,h2,h4,h6,h9]
theorem aDB (k : Int) : pD k = some (pA k):=rfl

theorem bare_J (f : aD) (a b c d e g : Int) (p : List aT) (q : List UInt8) : eM f a b c d e g p q = some ⟨f.Kind,!flgK f.Kind && f.Flag,a,b,c,d,e,g,p,q⟩:=by
  unfold eM
  rw [aD1,dG]
  cases flgK f.Kind <;> simp
def aFf (f : aD) : List aT:=if f.Kind = 4 ∧ f.Flag = false then [] else f.Pairs
def aFh (f : aD) : List UInt8:=if f.Kind = 0 then [] else f.Data
def bz (l : List Nat) (o : Nat) (v : Int) : Int:=bif l.contains o then 0 else v
theorem aGm (f : aD) (l : List Nat) (k i : Nat) (h : i = l.length) (a b c d e g : Int) : dY f l (k + 1) (i : Int) a b c d e g = some ⟨f.Kind,!flgK f.Kind && f.Flag,a,b,c,d,e,g,aFf f,aFh f⟩:=by
  unfold dY aFf aFh
  simp only [iJ]
  rw [decide_eq_false (by omega),cond_false]
  simp only [bare_J]
  by_cases h0 : f.Kind = 0
  · simp [h0]
  by_cases h4 : f.Kind = 4
  · cases hf : f.Flag <;> simp [h4,hf]
  simp [h0,h4]
theorem aGW {a b c d e g : Int} {o : Nat} (h : 2 ≤ o) (h2 : o ≤ 7) : ∃ x,aBI [none,none,some a,some b,some c,some d,some e,some g,none,none] o = some x:=by
  obtain rfl | rfl | rfl | rfl | rfl | rfl : o = 2 ∨ o = 3 ∨ o = 4 ∨ o = 5 ∨ o = 6 ∨ o = 7:=by omega
  all_goals exact ⟨_,rfl⟩
theorem aFe (f : aD) (l : List Nat) (hl : l.length ≤ 1000) (hr : ∀ o ∈ l, 2 ≤ o ∧ o ≤ 7) : ∀ (k i : Nat) (a b c d e g : Int), l.length - i < k → i ≤ l.length →
    dY f l k (i : Int) a b c d e g = some ⟨f.Kind,!flgK f.Kind && f.Flag,bz (l.drop i) 2 a,bz (l.drop i) 3 b,bz (l.drop i) 4 c,bz (l.drop i) 5 d,bz (l.drop i) 6 e,bz (l.drop i) 7 g,aFf f,aFh f⟩:=by
  intro k
  induction k with
  | zero=>intro i _ _ _ _ _ _ h; omega
  | succ k ih =>
    intro i a b c d e g h hi
    by_cases hc : i = l.length
    · rw [aGm f l k i hc,hc,List.drop_length]; rfl
    · have hlt : i < l.length := by omega
      unfold dY
      simp only [iJ]
      have hx:=hr _ (List.getElem_mem hlt)
      obtain ⟨x,hxx⟩:=aGW (a:=a) (b:=b) (c:=c) (d:=d) (e:=e) (g:=g) hx.1 hx.2
      rw [decide_eq_true (by omega),cond_true,pB,Int.toNat_natCast,List.getElem?_eq_getElem hlt,dG,dG,hxx,dG,yM hlt (by omega),ih (i + 1) _ _ _ _ _ _ (by omega) (by omega)]
      rw [List.drop_eq_getElem_cons hlt]
      have z : ∀ (o : Nat) (v : Int),bz (l.drop (i + 1)) o (bif Nat.beq l[i] o then 0 else v) = bz (l[i] :: l.drop (i + 1)) o v:=by
        intro o v
        unfold bz
        rw [List.contains_cons]
        by_cases ho : l[i] = o
        · subst ho; simp [Nat.beq_refl]
        · rw [aFb ho,show (o == l[i]) = false by simp; exact fun h=>ho h.symm]; simp
      simp only [z]
theorem kJ (k : Int) : (mG k).length ≤ 3 ∧ ∀ o ∈ mG k,2 ≤ o ∧ o ≤ 7:=by
  unfold mG; (repeat' split) <;> decide
def aFg (f : aD) : aD :=
  ⟨f.Kind,!flgK f.Kind && f.Flag,bz (mG f.Kind) 2 f.Stream,bz (mG f.Kind) 3 f.Offset,bz (mG f.Kind) 4 f.Dep,bz (mG f.Kind) 5 f.Weight,bz (mG f.Kind) 6 f.N,bz (mG f.Kind) 7 f.Code,aFf f,aFh f⟩
theorem bare_is (f : aD) : jV f = some (aFg f):=by
  unfold jV
  rw [wH,dG]
  have hb:=kJ f.Kind
  have:=aFe f (mG f.Kind) (by omega) hb.2 fuel 0 f.Stream f.Offset f.Dep f.Weight f.N f.Code (fB (by omega)) (Nat.zero_le _)
  unfold aFg
  simpa using this
theorem wN (f : aD) (o : Nat) : decide (bz (mG f.Kind) o (nv f o) = 0) = zr f o:=by
  unfold bz zr; cases (mG f.Kind).contains o <;> simp
theorem aGl (f : aD) : decide (aFg f = ⟨f.Kind,false,0,0,0,0,0,0,[],[]⟩) = !spr f:=by
  rw [aB9]
  unfold aFg spr
  simp only
  have e2:=wN f 2
  have e3:=wN f 3
  have e4:=wN f 4
  have e5:=wN f 5
  have e6:=wN f 6
  have e7:=wN f 7
  simp only [nv] at e2 e3 e4 e5 e6 e7
  simp only [if_true,show (3 = 2) = False by simp,show (4 = 2) = False by simp,show (4 = 3) = False by simp,show (5 = 2) = False by simp,show (5 = 3) = False by simp,show (5 = 4) = False by simp,show (6 = 2) = False by simp,show (6 = 3) = False by simp,show (6 = 4) = False by simp,show (6 = 5) = False by simp,show (7 = 2) = False by simp,show (7 = 3) = False by simp,show (7 = 4) = False by simp,show (7 = 5) = False by simp,show (7 = 6) = False by simp,if_false] at e2 e3 e4 e5 e6 e7
  rw [e2,e3,e4,e5,e6,e7]
  generalize (zr f 2 && zr f 3 && zr f 4 && zr f 5 && zr f 6 && zr f 7) = z
  unfold aFf aFh
  by_cases h0 : f.Kind = 0
  · have : flgK f.Kind = true := by rw [h0]; rfl
    cases z <;> by_cases hp : f.Pairs = [] <;> simp [h0,hp,this,show flgK 0 = true from rfl]
  by_cases h4 : f.Kind = 4
  · cases z <;> by_cases hp : f.Pairs = [] <;> by_cases hd : f.Data = [] <;> cases hf : f.Flag <;> simp [h4,hp,hf,hd,show flgK 4 = true from rfl]
  · cases z <;> by_cases hp : f.Pairs = [] <;> by_cases hd : f.Data = [] <;> cases hf : f.Flag <;> cases hg : flgK f.Kind <;> simp [h0,h4,hp,hf,hg,hd]
theorem aDO {f : aD} (hl : f.Pairs.length ≤ 1000000) : nG f = some (chkF f) := by
  have hJ : ∀ b,jX f b = some (if b then 5 else if spr f then 4 else 0):=by
    intro b
    unfold jX
    cases b with
    | true=>rfl
    | false =>
      have hb : (aFg f).Pairs.length ≤ 1000000:=by
        show (if f.Kind = 4 ∧ f.Flag = false then [] else f.Pairs).length ≤ _
        split
        · simp
        · exact hl
      rw [cond_false,bare_is,dG,same_is hb (by simp),dG,aGl]
      cases spr f <;> rfl
  unfold nG chkF
  simp only [aDB,dG,iJ,aEj hl,hJ]
  cases hk : pA f.Kind with
  | false=>rfl
  | true =>
    simp only [Bool.not_true,cond_false]
    cases hr : rng f with
    | false=>rfl
    | true =>
      simp only [Bool.not_true,cond_false]
      by_cases h1 : 32 < f.Data.length
      · have : (32 : Int) < f.Data.length := by omega
        simp [h1,this]
      · have : ¬ (32 : Int) < f.Data.length := by omega
        by_cases h2 : 4 < f.Pairs.length
        · have h3 : (4 : Int) < f.Pairs.length := by omega
          simp [h1,this,h2,h3]
        · have h3 : ¬ (4 : Int) < f.Pairs.length := by omega
          simp [h1,this,h2,h3]
end Go.Fn
open Go Go.IL
namespace Go.Fn
end Go.Fn
open Go Go.IL
namespace Go.Fn
theorem aE5 {l : List Int} (hl : l.length ≤ 1000000) : ∀ (k i : Nat), l.length - i < k → i ≤ l.length → (∀ x ∈ l.take i, ¬ vbad x) → iO l k ((l.take i).flatMap vput) (i : Int) = some (xE l) := by
  intro k
  induction k with
  | zero=>intro i h; omega
  | succ k ih =>
    intro i h hi ha
    unfold iO
    simp only [iJ]
    by_cases hc : i < l.length
    · rw [decide_eq_true (by omega), cond_true, pB, List.getElem?_eq_getElem hc, dG, aG2, dG]
      have hq : l[i]? = some l[i]:=List.getElem?_eq_getElem hc
      have h8:=tY l[i]
      have hfl:=aCB (l:=l) i (by omega)
      by_cases hb : vbad l[i]
      · rw [if_pos hb,aED hq hb]; rfl
      · simp only [if_neg hb, decide_true, Bool.not_true, cond_false]
        rw [pM (by omega) (by omega),dG,yM hc (by omega),← flat_take hq]
        exact ih (i + 1) (by omega) (by omega) (aGo ha hq hb)
    · have : i = l.length := by omega
      subst this
      rw [decide_eq_false (by omega),cond_false,List.take_length]
      rw [List.take_length] at ha
      rw [aAk ha]
theorem join_is {l : List Int} (hl : l.length ≤ 1000000) : mY l = some (xE l):=by
  unfold mY qL
  have:=aE5 hl fuel 0 (fB (by omega)) (Nat.zero_le _) (by simp)
  simp only [List.take_zero,List.flatMap_nil] at this
  rw [show (0 : Int) = ((0 : Nat) : Int) from rfl,this,dG]
theorem aBV (l : List Int) : (xE l).1.length ≤ 8 * l.length:=by
  unfold xE; split
  · exact qZ l
  · simp
def pl (l : List aT) : List Int:=l.flatMap fun p=>[p.ID,p.Value]
theorem aAW : ∀ (l : List aT),(pl l).length = 2 * l.length
  | []=>rfl
  | p :: l => by
    have:=aAW l
    simp only [pl,List.flatMap_cons,List.length_append,List.length_cons,List.length_nil] at this ⊢
    omega
def vals (f : aD) : List Int:=(mG f.Kind).map (nv f) ++ pl f.Pairs
def pay (f : aD) : List UInt8:=(xE (vals f)).1 ++ f.Data
def Lite (f : aD) : Prop:=f.Pairs.length ≤ 1000 ∧ f.Data.length ≤ 1000
theorem aFq (f : aD) : (vals f).length ≤ 3 + 2 * f.Pairs.length:=by
  unfold vals
  rw [List.length_append,List.length_map,aAW]
  have:=(kJ f.Kind).1; omega
theorem pay_end {f : aD} (h : Lite f) (l : List Int) (hl : l.length ≤ 3000) : (bno (mY l) fun x42=>bno (cat x42.1 f.Data) fun x43=>some x43) = some ((xE l).1 ++ f.Data):=by
  rw [join_is (by omega),dG]
  have:=aBV l
  rw [mW (by have:=h.2; omega),dG]
theorem pl_step {l : List aT} {i : Nat} (hc : i < l.length) : pl (l.take (i + 1)) = pl (l.take i) ++ [l[i].ID,l[i].Value]:=by
  unfold pl; rw [List.take_succ_eq_append_getElem hc,List.flatMap_append]; rfl
theorem pay_L1 {f : aD} (h : Lite f) (a : List Int) (ha : a.length ≤ 3) : ∀ (k i : Nat),f.Pairs.length - i < k → i ≤ f.Pairs.length → eD f k (a ++ pl (f.Pairs.take i)) (i : Int) = some ((xE (a ++ pl f.Pairs)).1 ++ f.Data):=by
  have hp:=h.1
  intro k
  induction k with
  | zero=>intro i h; omega
  | succ k ih =>
    intro i hk hi
    unfold eD
    simp only [iJ]
    by_cases hc : i < f.Pairs.length
    · have hpl := aAW (f.Pairs.take i)
      rw [List.length_take] at hpl
      rw [decide_eq_true (by omega),cond_true,pB,List.getElem?_eq_getElem hc,dG,pM (by simp only [List.length_append,List.length_cons,List.length_nil]; omega) (by simp only [List.length_append,List.length_cons,List.length_nil]; omega),dG,yM hc (by omega),List.append_assoc,← pl_step hc]
      exact ih (i + 1) (by omega) (by omega)
    · have : i = f.Pairs.length := by omega
      subst this
      rw [decide_eq_false (by omega),cond_false,List.take_length]
      exact pay_end h _ (by rw [List.length_append,aAW]; omega)
theorem aDE (f : aD) {o : Nat} (h : 2 ≤ o) (h2 : o ≤ 7) : aBI [none,none,some f.Stream,some f.Offset,some f.Dep,some f.Weight,some f.N,some f.Code,none,none] o = some (nv f o):=by
  obtain rfl | rfl | rfl | rfl | rfl | rfl : o = 2 ∨ o = 3 ∨ o = 4 ∨ o = 5 ∨ o = 6 ∨ o = 7:=by omega
  all_goals rfl
theorem aGD {α β : Type} {l : List α} {g : α → β} {i : Nat} (hc : i < l.length) : (l.take (i + 1)).map g = (l.take i).map g ++ [g l[i]]:=by
  rw [List.take_succ_eq_append_getElem hc,List.map_append]; rfl
theorem pay_L0 {f : aD} (h : Lite f) {l : List Nat} (hl : l.length ≤ 3) (hr : ∀ o ∈ l,2 ≤ o ∧ o ≤ 7) : ∀ (k i : Nat),l.length - i < k → i ≤ l.length → eE f l k ((l.take i).map (nv f)) (i : Int) = some ((xE (l.map (nv f) ++ pl f.Pairs)).1 ++ f.Data):=by
  intro k
  induction k with
  | zero=>intro i h; omega
  | succ k ih =>
    intro i hk hi
    unfold eE
    simp only [iJ]
    by_cases hc : i < l.length
    · have hx := hr _ (List.getElem_mem hc)
      rw [decide_eq_true (by omega),cond_true,pB,Int.toNat_natCast,List.getElem?_eq_getElem hc,dG,dG,aDE f hx.1 hx.2,dG,pM (by simp; omega) (by simp; omega),dG,yM hc (by omega),← aGD hc]
      exact ih (i + 1) (by omega) (by omega)
    · have : i = l.length := by omega
      subst this
      rw [decide_eq_false (by omega),cond_false,List.take_length]
      have:=pay_L1 h (l.map (nv f)) (by simp; omega) fuel 0 (fB (by have:=h.1; omega)) (Nat.zero_le _)
      simpa [pl] using this
theorem pay_is {f : aD} (h : Lite f) : gX f = some (pay f):=by
  unfold gX pay vals
  rw [wH,dG]
  have hb:=kJ f.Kind
  have:=pay_L0 h hb.1 hb.2 fuel 0 (fB (by omega)) (Nat.zero_le _)
  simpa using this
theorem aEo {f : aD} (h : Lite f) : (pay f).length ≤ 20000:=by
  unfold pay
  have h1:=aBV (vals f)
  have h2:=aFq f
  have:=h.1; have:=h.2
  rw [List.length_append]; omega

theorem aGf {l : List UInt8} (hl : l.length ≤ 1000000) : eX l = some l:=by
  unfold eX
  rw [pM (by simp; omega) (by simp; omega)]
  exact wO (fun h=>by subst h; rfl)
theorem aG7 {l : List UInt8} {n : Int} (hl : l.length ≤ 1000) (h0 : 0 ≤ n) (h1 : n < 256) : oR l n 1 = some (l ++ [UInt8.ofNat n.toNat]):=by
  unfold oR
  rw [aGf (by omega),dG]
  have hf : pE n 1 = some true:=by
    unfold pE
    simp only [iJ]
    rw [decide_eq_true h0,w64 (by decide) (by decide)]
    simp only [decide_true,show decide ((1 : Int) ≤ 7) = true from rfl,show decide ((1 : Int) ≤ 1) = true from rfl,Bool.and_self,beq_self_eq_true,gd,cond_true]
    rw [yQ (k:=.i64) (b:=8 * 1) 8 rfl (by decide),dG]
    have : n / 2 ^ 8 = 0:=by omega
    rw [this]; rfl
  rw [hf,dG]
  obtain ⟨m,hm⟩:=fuel_is 2 (by decide)
  rw [hm]
  simp only [Bool.not_true,cond_false,kW,iJ]
  rw [show decide ((0 : Int) < 1) = true from rfl,cond_true,w64 (n:=1 - 1) (by decide) (by decide),w64 (n:=1 - 1 - 0) (by decide) (by decide),w64 (n:=8 * (1 - 1 - 0)) (by decide) (by decide),yQ (k:=.i64) (b:=8 * (1 - 1 - 0)) 0 rfl (by decide),dG,w64 (n:=0 + 1) (by decide) (by decide)]
  rw [Int.pow_zero,Int.ediv_one,wU8 h0 h1,aCM h0 h1,dG,pM (by simp; omega) (by simp; omega),dG]
  rfl
def putF (f : aD) : List UInt8 × Int:=if chkF f = 0 then ([UInt8.ofNat f.Kind.toNat,if f.Flag then 1 else 0] ++ vput (pay f).length ++ pay f,0) else ([],chkF f)
theorem aGE {f : aD} (h : Lite f) : ¬ vbad ((pay f).length : Int):=by
  have:=aEo h
  unfold vbad; omega
theorem put_F {f : aD} (hk0 : 0 ≤ f.Kind) (hk1 : f.Kind ≤ 255) (h : Lite f) : sF f = some (putF f):=by
  have hJ : ∀ v : Int,0 ≤ v → v < 2 → lU f v = some ([UInt8.ofNat f.Kind.toNat,UInt8.ofNat v.toNat] ++ vput (pay f).length ++ pay f,0):=by
    intro v h0 h1
    unfold lU
    have h8:=tY ((pay f).length : Int)
    have hp:=aEo h
    rw [pay_is h,dG,aG2,dG]
    simp only [if_neg (aGE h),iJ,decide_true,Bool.not_true,cond_false]
    rw [w64 (by omega) (by omega),aG7 (by simp) hk0 (by omega),dG,aG7 (by simp) h0 (by omega),dG,mW (by simp; omega),dG,mW (by simp; omega),dG]
    rfl
  unfold sF putF
  rw [aDO (by have:=h.1; omega),dG,iJ]
  by_cases hc : chkF f = 0
  · rw [decide_eq_true hc, if_pos hc, hJ 1 (by decide) (by decide), hJ 0 (by decide) (by decide)]
    cases f.Flag <;> rfl
  · rw [decide_eq_false hc,if_neg hc]; rfl
end Go.Fn

namespace Go.Fn
open Go Go.IL
end Go.Fn
open Go Go.IL
namespace Go.Fn

def zF : aD:=⟨0,false,0,0,0,0,0,0,[],[]⟩
def setv (g : aD) (o : Nat) (v : Int) : aD :=
  ⟨g.Kind,g.Flag,bif Nat.beq o 2 then v else g.Stream,bif Nat.beq o 3 then v else g.Offset,bif Nat.beq o 4 then v else g.Dep,bif Nat.beq o 5 then v else g.Weight,bif Nat.beq o 6 then v else g.N,bif Nat.beq o 7 then v else g.Code,g.Pairs,g.Data⟩
def rd : List Nat → List UInt8 → aD → Option (List UInt8 × aD)
  | [],s,g=>some (s,g)
  | o :: os,s,g=>if (vget s).2.2 = 0 then rd os (s.drop (vget s).2.1.toNat) (setv g o (vget s).1) else none
def rC : List Int → List aT
  | a :: b :: l=>⟨a,b⟩ :: rC l
  | _=>[]
def setS (s : List UInt8) : Option (List aT):=if (vall s).2 = 0 ∧ (vall s).1.length % 2 = 0 then some (rC (vall s).1) else none
def body (s : List UInt8) (g : aD) : Option aD :=
  if g.Kind = 0 then some ⟨g.Kind,g.Flag,g.Stream,g.Offset,g.Dep,g.Weight,g.N,g.Code,g.Pairs,s⟩
  else if g.Kind = 4 then (setS s).map fun p=>⟨g.Kind,g.Flag,g.Stream,g.Offset,g.Dep,g.Weight,g.N,g.Code,p,g.Data⟩
  else if s = [] then some g else none
def sZ (s : List UInt8) (g : aD) : Option aD:=(rd (mG g.Kind) s g).bind fun q=>body q.1 q.2
def getF : List UInt8 → aD × Int × Int
  | []=>(zF,0,3)
  | k :: r => if pA k.toNat = false then (zF, 0, 12) else match r with
    | []=>(zF,0,3)
    | b :: t => if 1 < b.toNat then (zF, 0, 4) else if (vget t).2.2 ≠ 0 then (zF, 0, (vget t).2.2) else if 64 < (vget t).1 then (zF, 0, 5)
      else if (t.length : Int) - (vget t).2.1 < (vget t).1 then (zF,0,3)
      else match sZ ((t.drop (vget t).2.1.toNat).take (vget t).1.toNat) ⟨k.toNat,decide ((b.toNat : Int) = 1),0,0,0,0,0,0,[],[]⟩ with
        | none=>(zF,0,4)
        | some g=>if chkF g = 0 then (g,2 + (vget t).2.1 + (vget t).1,0) else (zF,0,chkF g)

theorem yJ {s : List UInt8} : 0 ≤ (vget s).1 ∧ (vget s).1 ≤ 4611686018427387903 := by
  cases s with
  | nil=>exact ⟨by decide,by decide⟩
  | cons b r =>
    by_cases h1 : (b :: r).length < 2 ^ (b.toNat / 64)
    · rw [sL h1]; exact ⟨by decide,by decide⟩
    · by_cases h2 : gY (beN (b.toNat % 64) (r.take (2 ^ (b.toNat / 64) - 1))) = ((b.toNat / 64 : Nat) : Int)
      · rw [yI h1 h2]
        have h3 : ¬ vbad (beN (b.toNat % 64) (r.take (2 ^ (b.toNat / 64) - 1))):=by rw [← yH,h2]; omega
        unfold vbad at h3; exact ⟨by simp only; omega,by simp only; omega⟩
      · rw [tZ h1 h2]; exact ⟨by decide,by decide⟩
theorem aBY : ∀ (f : Nat) (s : List UInt8) (acc : List Int), s.length ≤ f → (qM f s acc).1.length ≤ acc.length + s.length
  | 0,s,acc,_=>by simp [qM]
  | f + 1, s, acc, h => by
    unfold qM
    split
    · simp
    · split
      · rename_i h1 h2
        have h3:=nN h2
        have:=aBY f (s.drop (vget s).2.1.toNat) (acc ++ [(vget s).1]) (by rw [List.length_drop]; omega)
        rw [List.length_append,List.length_drop] at this
        simp only [List.length_cons,List.length_nil] at this
        omega
      · simp
theorem aGp : ∀ (k f : Nat) (s : List UInt8) (acc : List Int), s.length < k → s.length ≤ f → acc.length + s.length ≤ 1000000 → jI k s acc = some (qM f s acc) := by
  intro k
  induction k with
  | zero=>intro f s acc h; omega
  | succ k ih =>
    intro f s acc hk hf hl
    unfold jI
    simp only [iJ]
    by_cases hs : s = []
    · subst hs; rw [aBX]; rfl
    · rw [decide_eq_false hs, Bool.not_false, cond_true, aFM, dG]
      by_cases h : (vget s).2.2 = 0
      · have h3 := nN h
        obtain ⟨f',hf',he⟩:=aDY (acc:=acc) hs hf h
        rw [decide_eq_true h,Bool.not_true,cond_false,pM (by simp; omega) (by simp; omega),dG,aDL (by omega) (by omega),dG,he]
        exact ih f' _ _ (by rw [List.length_drop]; omega) hf' (by rw [List.length_append,List.length_drop]; simp; omega)
      · rw [decide_eq_false h,Bool.not_false,cond_true,aEE hs hf h]
theorem all_is {s : List UInt8} (h : s.length ≤ 1000000) : pR s = some (vall s):=by
  unfold pR vall
  exact aGp fuel _ s [] (fB (by omega)) (Nat.le_refl _) (by simpa using h)
theorem aCy (s : List UInt8) : (vall s).1.length ≤ s.length:=by
  have:=aBY s.length s [] (Nat.le_refl _)
  simpa [vall] using this

theorem aAo : ∀ (k : Nat) (l : List Int) (acc : List aT),l.length < k → l.length % 2 = 0 → acc.length + l.length ≤ 1000000 → fR k l acc = some (acc ++ rC l,true):=by
  intro k
  induction k with
  | zero=>intro l acc h; omega
  | succ k ih =>
    intro l acc hk h2 hl
    unfold fR
    simp only [iJ]
    match l,hk,h2,hl with
    | [],_,_,_=>simp [rC]
    | [a],_,h2,_=>simp at h2
    | a :: b :: l, hk, h2, hl =>
      simp only [List.length_cons] at hk h2 hl
      rw [decide_eq_true (by simp; omega),cond_true,wJ (by decide) (by simp),dG,wJ (by decide) (by simp),dG,pM (by simp; omega) (by simp; omega),dG,aDL (by decide) (by simp; omega),dG]
      have:=ih l (acc ++ [⟨a,b⟩]) (by omega) (by omega) (by simp; omega)
      rw [List.append_assoc] at this
      exact this
theorem aCQ {s : List UInt8} (h : s.length ≤ 1000000) : ∃ x,jW s = some (x,(setS s).isSome) ∧ ∀ p,setS s = some p → x = p:=by
  unfold jW setS
  rw [all_is h,dG]
  simp only [iJ]
  have hl:=aCy s
  by_cases h0 : (vall s).2 = 0
  · rw [decide_eq_true h0, show ((!true) == false) = true from rfl, gd_tt, rem_ok (by omega) (by decide), dG]
    by_cases h2 : (vall s).1.length % 2 = 0
    · rw [decide_eq_false (by omega), if_pos ⟨h0, h2⟩]
      simp only [Bool.not_true,Bool.or_false,cond_false]
      rw [aAo fuel _ [] (fB (by omega)) h2 (by simp; omega)]
      exact ⟨_,rfl,fun p hp=>by simpa using hp⟩
    · rw [decide_eq_true (by omega), if_neg (fun h => h2 h.2)]
      exact ⟨_,rfl,fun p hp=>by cases hp⟩
  · rw [decide_eq_false h0, if_neg (fun h => h0 h.1)]
    exact ⟨_,rfl,fun p hp=>by cases hp⟩

theorem aD6 {f : aD} {s : List UInt8} (h : s.length ≤ 1000000) : ∃ x, (bnd (decide (f.Kind = 0)) fun x40 =>
      bif x40 then (
        some (true,(⟨f.Kind,f.Flag,f.Stream,f.Offset,f.Dep,f.Weight,f.N,f.Code,f.Pairs,s⟩ : aD))
      ) else (
        bnd (decide (f.Kind = 4)) fun x42 =>
        bif x42 then (
          bno (jW s) fun x44 =>
          some (x44.2,(⟨f.Kind,f.Flag,f.Stream,f.Offset,f.Dep,f.Weight,f.N,f.Code,x44.1,f.Data⟩ : aD))
        ) else (
          bnd (decide (s = ([] : List UInt8))) fun x45 =>
          some (x45,(⟨f.Kind,f.Flag,f.Stream,f.Offset,f.Dep,f.Weight,f.N,f.Code,f.Pairs,f.Data⟩ : aD))
        )
      )) = some ((body s f).isSome,x) ∧ ∀ y,body s f = some y → x = y:=by
  unfold body
  simp only [iJ]
  by_cases h0 : f.Kind = 0
  · rw [decide_eq_true h0,if_pos h0]; exact ⟨_,rfl,fun y hy=>by simpa using hy⟩
  · rw [decide_eq_false h0, if_neg h0, cond_false]
    by_cases h4 : f.Kind = 4
    · rw [decide_eq_true h4, if_pos h4, cond_true]
      obtain ⟨x,hx,hp⟩:=aCQ h
      rw [hx,dG]
      cases hs : setS s with
      | none=>exact ⟨_,rfl,fun y hy=>by cases hy⟩
      | some p=>rw [hp p hs]; exact ⟨_,rfl,fun y hy=>by simpa using hy⟩
    · rw [decide_eq_false h4, if_neg h4, cond_false]
      by_cases hs : s = []
      · rw [decide_eq_true hs,if_pos hs]; exact ⟨_,rfl,fun y hy=>by simpa using hy⟩
      · rw [decide_eq_false hs,if_neg hs]; exact ⟨f,rfl,fun y hy=>by cases hy⟩
theorem aEe {g : aD} {l : List Nat} (hr : ∀ o ∈ l, 2 ≤ o ∧ o ≤ 7) (hll : l.length ≤ 3) : ∀ (k i : Nat) (s : List UInt8) (a b c d e f : Int), l.length - i < k → i ≤ l.length → s.length ≤ 1000000 →
    ∃ x,eK g l k s (i : Int) a b c d e f = some (((rd (l.drop i) s ⟨g.Kind,g.Flag,a,b,c,d,e,f,g.Pairs,g.Data⟩).bind fun q=>body q.1 q.2).isSome,x) ∧ ∀ y,((rd (l.drop i) s ⟨g.Kind,g.Flag,a,b,c,d,e,f,g.Pairs,g.Data⟩).bind fun q=>body q.1 q.2) = some y → x = y:=by
  intro k
  induction k with
  | zero=>intro i s a b c d e f h; omega
  | succ k ih =>
    intro i s a b c d e f hk hi hs
    unfold eK
    by_cases hc : i < l.length
    · have hx := hr _ (List.getElem_mem hc)
      rw [List.drop_eq_getElem_cons hc]
      unfold rd
      simp only [iJ]
      rw [decide_eq_true (by omega),cond_true,pB,Int.toNat_natCast,List.getElem?_eq_getElem hc,dG,dG,aFM,dG]
      by_cases h : (vget s).2.2 = 0
      · have h3 := nN h
        have hic:=aDE ⟨g.Kind,g.Flag,a,b,c,d,e,f,g.Pairs,g.Data⟩ hx.1 hx.2
        simp only at hic
        rw [decide_eq_true h,Bool.not_true,cond_false,hic,dG,aDL (by omega) (by omega),dG,yM hc (by omega),if_pos h]
        exact ih (i + 1) _ _ _ _ _ _ _ (by omega) (by omega) (by rw [List.length_drop]; omega)
      · rw [decide_eq_false h, Bool.not_false, cond_true, if_neg h]
        exact ⟨_,rfl,fun y hy=>by cases hy⟩
    · have : i = l.length := by omega
      subst this
      rw [List.drop_length]
      unfold rd
      simp only [iJ,Option.bind_some]
      rw [decide_eq_false (by omega),cond_false]
      exact aD6 (f:=⟨g.Kind,g.Flag,a,b,c,d,e,f,g.Pairs,g.Data⟩) hs
theorem read_is {s : List UInt8} {g : aD} (h : s.length ≤ 1000000) : ∃ x,iE s g = some ((sZ s g).isSome,x) ∧ ∀ y,sZ s g = some y → x = y:=by
  unfold iE sZ
  rw [wH,dG]
  have hb:=kJ g.Kind
  exact aEe hb.2 hb.1 fuel 0 s _ _ _ _ _ _ (fB (by omega)) (Nat.zero_le _) h
theorem aAu : ∀ (os : List Nat) (s t : List UInt8) (g y : aD),rd os s g = some (t,y) → t.length ≤ s.length ∧ y.Pairs = g.Pairs ∧ y.Data = g.Data ∧ y.Kind = g.Kind ∧ y.Flag = g.Flag
  | [],s,t,g,y,h=>by simp only [rd,Option.some.injEq,Prod.mk.injEq] at h; obtain ⟨rfl,rfl⟩:=h; exact ⟨Nat.le_refl _,rfl,rfl,rfl,rfl⟩
  | o :: os, s, t, g, y, h => by
    unfold rd at h
    split at h
    · have := aAu os _ t _ y h
      rw [List.length_drop] at this
      exact ⟨by omega,this.2⟩
    · cases h
theorem aAX : ∀ (l : List Int),(rC l).length ≤ l.length
  | []=>by simp [rC]
  | [a]=>by simp [rC]
  | a :: b :: l=>by have:=aAX l; simp [rC]; omega
theorem yV {s : List UInt8} {g y : aD} (h : sZ s g = some y) : y.Pairs.length ≤ g.Pairs.length + s.length ∧ y.Data.length ≤ g.Data.length + s.length ∧ y.Kind = g.Kind ∧ y.Flag = g.Flag := by
  unfold sZ at h
  cases hr : rd (mG g.Kind) s g with
  | none=>rw [hr] at h; cases h
  | some q =>
    obtain ⟨t,z⟩:=q
    rw [hr] at h
    obtain ⟨h1,h2,h3,h4,h5⟩:=aAu _ _ _ _ _ hr
    simp only [Option.bind_some] at h
    unfold body at h
    split at h
    · simp only [Option.some.injEq] at h; subst h; simp only; rw [h2]; exact ⟨by omega,by omega,h4,h5⟩
    · split at h
      · cases hs : setS t with
        | none=>rw [hs] at h; cases h
        | some p =>
          rw [hs] at h; simp only [Option.map_some,Option.some.injEq] at h; subst h
          unfold setS at hs
          split at hs
          · simp only [Option.some.injEq] at hs; subst hs
            have:=aAX (vall t).1
            have:=aCy t
            simp only; rw [h3]; exact ⟨by omega,by omega,h4,h5⟩
          · cases hs
      · split at h
        · simp only [Option.some.injEq] at h; subst h; rw [h2,h3]; exact ⟨by omega,by omega,h4,h5⟩
        · cases h
theorem yA {k : UInt8} {r : List UInt8} (h : pA k.toNat = false) : getF (k :: r) = (zF,0,12):=by
  unfold getF; simp only; rw [if_pos h]
theorem aBL {k : UInt8} (h : pA k.toNat = true) : getF [k] = (zF,0,3):=by
  unfold getF; simp only; rw [if_neg (by rw [h]; decide)]
theorem xZ {k b : UInt8} {t : List UInt8} (h : pA k.toNat = true) : getF (k :: b :: t) = if 1 < b.toNat then (zF, 0, 4) else if (vget t).2.2 ≠ 0 then (zF, 0, (vget t).2.2) else if 64 < (vget t).1 then (zF, 0, 5)
      else if (t.length : Int) - (vget t).2.1 < (vget t).1 then (zF,0,3)
      else match sZ ((t.drop (vget t).2.1.toNat).take (vget t).1.toNat) ⟨k.toNat,decide ((b.toNat : Int) = 1),0,0,0,0,0,0,[],[]⟩ with
        | none=>(zF,0,4)
        | some g=>if chkF g = 0 then (g,2 + (vget t).2.1 + (vget t).1,0) else (zF,0,chkF g):=by
  rw [getF]; rw [if_neg (by rw [h]; decide)]
theorem get_F {s : List UInt8} (hs : s.length ≤ 1000000) : sG s = some (getF s) := by
  unfold sG sX
  match s,hs with
  | [],_=>rfl
  | k :: r, hs =>
    simp only [iJ,wJ (l:=k :: r) (i:=0) (by decide) (by simp),dG,aDB]
    rw [decide_eq_false (by simp),cond_false]
    simp only [List.getElem_cons_zero,Int.toNat_zero]
    cases hk : pA (k.toNat : Int) with
    | false=>rw [yA hk]; rfl
    | true =>
      match r,hs with
      | [],_=>rw [aBL hk]; rfl
      | b :: t, hs =>
        rw [xZ hk]
        simp only [List.length_cons] at hs
        simp only [Bool.not_true,cond_false,wJ (l:=k :: b :: t) (i:=1) (by decide) (by simp),dG,Int.toNat_one,List.getElem_cons_succ,List.getElem_cons_zero]
        rw [decide_eq_false (by simp; omega),cond_false]
        by_cases hb : 1 < b.toNat
        · rw [decide_eq_true (by omega),if_pos hb]; rfl
        · rw [decide_eq_false (by omega), if_neg hb, cond_false, aDL (by decide) (by simp; omega), dG]
          rw [show (2 : Int).toNat = 2 from rfl,List.drop_succ_cons,List.drop_succ_cons,List.drop_zero,aFM,dG]
          by_cases hv : (vget t).2.2 = 0
          · rw [decide_eq_true hv, if_neg (fun h => h hv)]
            have h3:=nN hv
            simp only [Bool.not_true,cond_false]
            by_cases h64 : 64 < (vget t).1
            · rw [decide_eq_true h64,if_pos h64]; rfl
            · rw [decide_eq_false h64, if_neg h64, cond_false, w64 (n := ((k :: b :: t).length : Int) - 2) (by simp; omega) (by simp; omega), w64 (by simp; omega) (by simp; omega)]
              have hlen : ((k :: b :: t).length : Int) - 2 - (vget t).2.1 = (t.length : Int) - (vget t).2.1:=by simp; omega
              rw [hlen]
              by_cases hl : (t.length : Int) - (vget t).2.1 < (vget t).1
              · rw [decide_eq_true hl,if_pos hl]; rfl
              · have h5 := yJ (s := t)
                rw [decide_eq_false hl,if_neg hl,cond_false,w64 (n:=2 + (vget t).2.1) (by omega) (by omega),w64 (by omega) (by omega),dG]
                simp only [show decide ((0 : Int) = 0) = true from rfl,Bool.not_true,cond_false]
                rw [aDM (by omega) (by omega) (by simp; omega),dG]
                have ecut : ((k :: b :: t).take (2 + (vget t).2.1 + (vget t).1).toNat).drop (2 + (vget t).2.1).toNat = (t.drop (vget t).2.1.toNat).take (vget t).1.toNat:=by
                  have e1 : (2 + (vget t).2.1 + (vget t).1).toNat = ((vget t).2.1.toNat + (vget t).1.toNat) + 1 + 1:=by omega
                  have e2 : (2 + (vget t).2.1).toNat = (vget t).2.1.toNat + 1 + 1:=by omega
                  rw [e1,e2,List.take_succ_cons,List.take_succ_cons,List.drop_succ_cons,List.drop_succ_cons,List.take_drop]
                rw [ecut]
                obtain ⟨x,hx,hy⟩:=read_is (s:=(t.drop (vget t).2.1.toNat).take (vget t).1.toNat) (g:=⟨k.toNat,decide ((b.toNat : Int) = 1),0,0,0,0,0,0,[],[]⟩) (by rw [List.length_take,List.length_drop]; omega)
                rw [hx,dG]
                cases hR : sZ ((t.drop (vget t).2.1.toNat).take (vget t).1.toNat) ⟨k.toNat,decide ((b.toNat : Int) = 1),0,0,0,0,0,0,[],[]⟩ with
                | none=>rfl
                | some g =>
                  obtain rfl:=hy g hR
                  have hb:=yV hR
                  rw [List.length_take,List.length_drop] at hb
                  simp only [Option.isSome_some,Bool.not_true,cond_false]
                  rw [aDO (by have:=hb.1; simp at this; omega),dG]
                  by_cases hc : chkF x = 0
                  · rw [decide_eq_true hc,if_pos hc]; rfl
                  · rw [decide_eq_false hc,if_neg hc]; rfl
          · rw [decide_eq_false hv, if_pos hv]
            simp only [Bool.not_false,cond_true,dG]
            rw [decide_eq_false hv]; rfl

theorem aDz (s : List UInt8) : (getF s).1.Pairs.length ≤ s.length ∧ (getF s).1.Data.length ≤ s.length := by
  match s with
  | []=>exact ⟨by simp [getF,zF],by simp [getF,zF]⟩
  | k :: r =>
    cases hk : pA (k.toNat : Int) with
    | false=>rw [yA hk]; simp [zF]
    | true =>
      match r with
      | []=>rw [aBL hk]; simp [zF]
      | b :: t =>
        rw [xZ hk]
        split
        · simp [zF]
        · split
          · simp [zF]
          · split
            · simp [zF]
            · split
              · simp [zF]
              · cases hR : sZ ((t.drop (vget t).2.1.toNat).take (vget t).1.toNat) ⟨k.toNat, decide ((b.toNat : Int) = 1), 0, 0, 0, 0, 0, 0, [], []⟩ with
                | none=>simp [zF]
                | some g =>
                  have hb:=yV hR
                  rw [List.length_take,List.length_drop] at hb
                  simp only
                  split
                  · have h1 := hb.1; have h2 := hb.2.1
                    simp only [List.length_nil] at h1 h2
                    simp only [List.length_cons]
                    constructor <;> omega
                  · simp [zF]
end Go.Fn
open Go Go.IL
namespace Go.Fn

theorem aFc (n : Int) : ∀ (m : Nat) (a : Int), beN a (beb n m) = a * 256 ^ m + n % 256 ^ m
  | 0,a=>by simp [beb,beN]
  | m + 1, a => by
    have ih:=aFc n m (a * 256 + n / 256 ^ m % 256)
    simp only [beb,beN,List.foldl_cons,aCJ] at ih ⊢
    rw [ih]
    have hP : (0 : Int) < 256 ^ m:=Int.pow_pos (by decide)
    have e1:=Int.mul_ediv_add_emod n (256 ^ m)
    have e2:=Int.mul_ediv_add_emod (n / 256 ^ m) 256
    have r0:=Int.emod_nonneg n (b:=256 ^ m) (by omega)
    have r1:=Int.emod_lt_of_pos n hP
    have q0:=Int.emod_nonneg (n / 256 ^ m) (b:=256) (by decide)
    have q1:=Int.emod_lt_of_pos (n / 256 ^ m) (b:=256) (by decide)
    have key : n % 256 ^ (m + 1) = 256 ^ m * (n / 256 ^ m % 256) + n % 256 ^ m:=by
      have e3 : n = 256 ^ m * (n / 256 ^ m % 256) + n % 256 ^ m + 256 ^ (m + 1) * (n / 256 ^ m / 256):=by
        rw [Int.pow_succ]
        have : 256 ^ m * 256 * (n / 256 ^ m / 256) = 256 ^ m * (256 * (n / 256 ^ m / 256)):=Int.mul_assoc ..
        rw [this]
        have : 256 ^ m * (n / 256 ^ m) = 256 ^ m * (256 * (n / 256 ^ m / 256)) + 256 ^ m * (n / 256 ^ m % 256):=by rw [← Int.mul_add,e2]
        omega
      have h0 : 0 ≤ 256 ^ m * (n / 256 ^ m % 256):=Int.mul_nonneg (by omega) q0
      have h1 : 256 ^ m * (n / 256 ^ m % 256) ≤ 256 ^ m * 255:=Int.mul_le_mul_of_nonneg_left (by omega) (by omega)
      have:=congrArg (fun x=>x % (256 : Int) ^ (m + 1)) e3
      simp only [Int.add_mul_emod_self_left] at this
      rw [this]
      apply Int.emod_eq_of_lt
      · omega
      · rw [Int.pow_succ]; omega
    rw [key,Int.add_mul,Int.pow_succ,Int.mul_assoc,Int.mul_comm 256 (256 ^ m),Int.mul_comm (n / 256 ^ m % 256)]
    omega
theorem aBW {n : Int} (h : ¬ vbad n) (t : List UInt8) : vget (vput n ++ t) = (n,nX n,0):=by
  have hk : 0 ≤ gY n:=by rcases sK n with h' | h'; exact absurd h'.1 h; exact h'.2.1
  have hk3:=(qK n).2
  obtain ⟨m,hm7,hm,hp,_⟩:=aCw hk
  have ht:=aBa h hm
  have hmod : n / 256 ^ m % 256 = n / 256 ^ m:=Int.emod_eq_of_lt ht.1 (by omega)
  rw [aCL hm,hmod,List.cons_append]
  have hb : (UInt8.ofNat ((n / 256 ^ m).toNat + 64 * (gY n).toNat)).toNat = (n / 256 ^ m).toNat + 64 * (gY n).toNat:=by simp; omega
  have hd : (UInt8.ofNat ((n / 256 ^ m).toNat + 64 * (gY n).toNat)).toNat / 64 = (gY n).toNat:=by rw [hb]; omega
  have hr : ((UInt8.ofNat ((n / 256 ^ m).toNat + 64 * (gY n).toNat)).toNat : Int) % 64 = ((n / 256 ^ m).toNat : Int):=by rw [hb]; omega
  have hp2 : 2 ^ (gY n).toNat = m + 1:=by exact_mod_cast hp
  have hlen:=wP n m
  have hval : beN ((n / 256 ^ m).toNat : Int) (beb n m) = n:=by
    rw [aFc,Int.toNat_of_nonneg ht.1,Int.mul_comm]
    exact Int.mul_ediv_add_emod n (256 ^ m)
  have htk : (beb n m ++ t).take m = beb n m:=by rw [List.take_append_of_le_length (by omega),List.take_of_length_le (by omega)]
  rw [yI (by rw [hd,hp2]; simp; omega) ?_]
  · rw [hd, hr, hp2, Nat.add_sub_cancel, htk]
    have hc : ((((n / 256 ^ m).toNat : Nat) : Int)) = ((n / 256 ^ m).toNat : Int):=rfl
    rw [hval]
    have : nX n = ((m + 1 : Nat) : Int):=by have:=qJ n; omega
    rw [this]
  · rw [hd,hr,hp2,Nat.add_sub_cancel,htk,hval]; omega
theorem aDR : ∀ (q : List UInt8) (a : Int), 0 ≤ a → beN a q / 256 ^ q.length = a ∧ beb (beN a q) q.length = q
  | [],a,h=>by simp [beN,beb]
  | c :: q, a, h => by
    have hc:=c.toNat_lt
    have ih:=aDR q (a * 256 + c.toNat) (by omega)
    have e : beN a (c :: q) = beN (a * 256 + c.toNat) q:=rfl
    rw [e,List.length_cons]
    constructor
    · rw [← aFR,ih.1]; omega
    · rw [beb, ih.2, ih.1]
      have : by8 (a * 256 + c.toNat) = c:=by
        unfold by8
        have : (a * 256 + (c.toNat : Int)) % 256 = c.toNat:=by omega
        rw [this]; simp
      rw [this]
theorem tX {s : List UInt8} (h : (vget s).2.2 = 0) : ¬ vbad (vget s).1 ∧ vput (vget s).1 = s.take (vget s).2.1.toNat := by
  cases s with
  | nil=>exact absurd h (by decide)
  | cons b r =>
    by_cases h1 : (b :: r).length < 2 ^ (b.toNat / 64)
    · rw [sL h1] at h; exact absurd h (by decide)
    · by_cases h2 : gY (beN (b.toNat % 64) (r.take (2 ^ (b.toNat / 64) - 1))) = ((b.toNat / 64 : Nat) : Int)
      · rw [yI h1 h2]
        simp only
        have hlen:=aFL h1
        have hk4:=k4 b
        have hpk:=aAw hk4
        generalize hv : beN (b.toNat % 64) (r.take (2 ^ (b.toNat / 64) - 1)) = v at h2
        have hnb : ¬ vbad v:=by rw [← yH,h2]; omega
        have hsz : nX v = ((2 ^ (b.toNat / 64) : Nat) : Int):=(aEA hk4).2 h2
        have hm : (nX v).toNat = (2 ^ (b.toNat / 64) - 1) + 1:=by rw [hsz]; omega
        have hbk:=aDR (r.take (2 ^ (b.toNat / 64) - 1)) ((b.toNat : Int) % 64) (by omega)
        rw [hlen] at hbk
        rw [hv] at hbk
        refine ⟨hnb,?_⟩
        rw [aCL hm,hbk.1,hbk.2,h2]
        have e1 : UInt8.ofNat (((b.toNat : Int) % 64 % 256).toNat + 64 * (((b.toNat / 64 : Nat) : Int)).toNat) = b:=by
          have hb:=b.toNat_lt
          have : (((b.toNat : Int) % 64 % 256).toNat + 64 * (((b.toNat / 64 : Nat) : Int)).toNat) = b.toNat:=by omega
          rw [this]; simp
        rw [e1,Int.toNat_natCast]
        obtain ⟨p,hp⟩ : ∃ p,2 ^ (b.toNat / 64) = p + 1:=⟨2 ^ (b.toNat / 64) - 1,by omega⟩
        rw [hp,List.take_succ_cons,Nat.add_sub_cancel]
      · rw [tZ h1 h2] at h; exact absurd h (by decide)
theorem aEB {n : Int} (h : ¬ vbad n) : 1 ≤ (vput n).length ∧ ((vput n).length : Int) = nX n:=by
  rw [aCx]
  have:=qJ n
  have h2:=aDX (n:=n)
  have : nX n ≠ 0:=fun e=>h (h2.1 e)
  omega

theorem aA5 {g : aD} {o p : Nat} (h : 2 ≤ o) (h2 : o ≤ 7) (h3 : 2 ≤ p) (h4 : p ≤ 7) (v : Int) : nv (setv g o v) p = if p = o then v else nv g p:=by
  obtain rfl | rfl | rfl | rfl | rfl | rfl : o = 2 ∨ o = 3 ∨ o = 4 ∨ o = 5 ∨ o = 6 ∨ o = 7:=by omega
  all_goals
    obtain rfl | rfl | rfl | rfl | rfl | rfl : p = 2 ∨ p = 3 ∨ p = 4 ∨ p = 5 ∨ p = 6 ∨ p = 7:=by omega
    all_goals rfl
theorem aG0 (h : Nat → Int) : ∀ (os : List Nat) (t : List UInt8) (g : aD), (∀ o ∈ os, ¬ vbad (h o)) → (∀ o ∈ os, 2 ≤ o ∧ o ≤ 7) →
    ∃ g',rd os ((os.map h).flatMap vput ++ t) g = some (t,g') ∧ (∀ o ∈ os,nv g' o = h o) ∧ ∀ p,2 ≤ p → p ≤ 7 → p ∉ os → nv g' p = nv g p
  | [],t,g,_,_=>⟨g,rfl,by simp,fun _ _ _ _=>rfl⟩
  | o :: os, t, g, hb, hr => by
    have ho:=hr o (by simp)
    have hn:=hb o (by simp)
    obtain ⟨g',h1,h2,h3⟩:=aG0 h os t (setv g o (h o)) (fun p hp=>hb p (by simp [hp])) (fun p hp=>hr p (by simp [hp]))
    refine ⟨g',?_,?_,?_⟩
    · rw [List.map_cons, List.flatMap_cons, List.append_assoc]
      unfold rd
      rw [aBW hn]
      simp only [if_true]
      rw [← (aEB hn).2,Int.toNat_natCast,List.drop_left]
      exact h1
    · intro p hp
      by_cases hpo : p ∈ os
      · exact h2 p hpo
      · have : p = o := by simpa [hpo] using hp
        subst this
        rw [h3 p ho.1 ho.2 hpo,aA5 ho.1 ho.2 ho.1 ho.2,if_pos rfl]
    · intro p hp2 hp7 hp
      rw [List.mem_cons,not_or] at hp
      rw [h3 p hp2 hp7 hp.2,aA5 ho.1 ho.2 hp2 hp7,if_neg hp.1]
theorem aG1 : ∀ (os : List Nat) (s t : List UInt8) (g g' : aD), os.Nodup → (∀ o ∈ os, 2 ≤ o ∧ o ≤ 7) → rd os s g = some (t, g') →
    s = (os.map (nv g')).flatMap vput ++ t ∧ (∀ o ∈ os,¬ vbad (nv g' o)) ∧ ∀ p,2 ≤ p → p ≤ 7 → p ∉ os → nv g' p = nv g p
  | [],s,t,g,g',_,_,h=>by simp only [rd,Option.some.injEq,Prod.mk.injEq] at h; obtain ⟨rfl,rfl⟩:=h; simp
  | o :: os, s, t, g, g', hd, hr, h => by
    have ho:=hr o (by simp)
    rw [List.nodup_cons] at hd
    unfold rd at h
    split at h
    · rename_i hz
      obtain ⟨h1,h2,h3⟩:=aG1 os _ t _ g' hd.2 (fun p hp=>hr p (by simp [hp])) h
      have hv:=tX hz
      have e : nv g' o = (vget s).1:=by rw [h3 o ho.1 ho.2 hd.1,aA5 ho.1 ho.2 ho.1 ho.2,if_pos rfl]
      refine ⟨?_,?_,?_⟩
      · rw [List.map_cons,List.flatMap_cons,List.append_assoc,← h1,e,hv.2,List.take_append_drop]
      · intro p hp
        by_cases hpo : p ∈ os
        · exact h2 p hpo
        · have : p = o := by simpa [hpo] using hp
          subst this; rw [e]; exact hv.1
      · intro p hp2 hp7 hp
        rw [List.mem_cons,not_or] at hp
        rw [h3 p hp2 hp7 hp.2,aA5 ho.1 ho.2 hp2 hp7,if_neg hp.1]
    · cases h
theorem aDp (k : Int) : (mG k).Nodup:=by unfold mG; (repeat' split) <;> decide
theorem aAE {f g : aD} (h1 : f.Kind = g.Kind) (h2 : f.Flag = g.Flag) (h3 : ∀ p,2 ≤ p → p ≤ 7 → nv f p = nv g p) (h4 : f.Pairs = g.Pairs) (h5 : f.Data = g.Data) : f = g:=by
  have a2:=h3 2 (by decide) (by decide)
  have a3:=h3 3 (by decide) (by decide)
  have a4:=h3 4 (by decide) (by decide)
  have a5:=h3 5 (by decide) (by decide)
  have a6:=h3 6 (by decide) (by decide)
  have a7:=h3 7 (by decide) (by decide)
  simp only [nv] at a2 a3 a4 a5 a6 a7
  obtain ⟨⟩:=f; obtain ⟨⟩:=g
  simp_all

theorem aAS : ∀ (l : List Int) (f : Nat) (acc : List Int),(l.flatMap vput).length ≤ f → (∀ x ∈ l,¬ vbad x) → qM f (l.flatMap vput) acc = (acc ++ l,0)
  | [],f,acc,_,_=>by simp [aBX]
  | x :: l, f, acc, hf, hb => by
    have hx:=hb x (by simp)
    have hv:=aEB hx
    rw [List.flatMap_cons,List.length_append] at hf
    rw [List.flatMap_cons]
    have hg:=aBW hx (l.flatMap vput)
    have hne : vput x ++ l.flatMap vput ≠ []:=by intro e; have:=congrArg List.length e; simp at this; have:=hv.1; simp_all
    cases f with
    | zero=>omega
    | succ f =>
      rw [qM,if_neg hne,hg]
      simp only [if_true]
      rw [← hv.2,Int.toNat_natCast,List.drop_left,aAS l f _ (by omega) (fun y hy=>hb y (by simp [hy])),List.append_assoc]
      rfl
theorem aAT : ∀ (f : Nat) (s : List UInt8) (acc : List Int), s.length ≤ f → (qM f s acc).2 = 0 → ∃ l, (qM f s acc).1 = acc ++ l ∧ s = l.flatMap vput ∧ ∀ x ∈ l, ¬ vbad x
  | 0,s,acc,hf,h=>⟨[],by simp [qM],by simpa using hf,by simp⟩
  | f + 1, s, acc, hf, h => by
    rw [qM] at h ⊢
    by_cases hs : s = []
    · rw [if_pos hs]; exact ⟨[],by simp,by simpa using hs,by simp⟩
    · rw [if_neg hs] at h ⊢
      by_cases hz : (vget s).2.2 = 0
      · rw [if_pos hz] at h ⊢
        have hsz:=nN hz
        obtain ⟨l,h1,h2,h3⟩:=aAT f (s.drop (vget s).2.1.toNat) (acc ++ [(vget s).1]) (by rw [List.length_drop]; omega) h
        have hv:=tX hz
        refine ⟨(vget s).1 :: l,by rw [h1,List.append_assoc]; rfl,?_,?_⟩
        · rw [List.flatMap_cons,← h2,hv.2,List.take_append_drop]
        · intro x hx
          rcases List.mem_cons.1 hx with rfl | hx
          · exact hv.1
          · exact h3 x hx
      · rw [if_neg hz] at h; exact absurd h hz
theorem aBi : ∀ (l : List aT),rC (pl l) = l
  | []=>rfl
  | p :: l => by
    have:=aBi l
    simp only [pl,List.flatMap_cons,List.cons_append,List.nil_append] at this ⊢
    rw [rC,this]
theorem aBf : ∀ (l : List Int),l.length % 2 = 0 → pl (rC l) = l
  | [],_=>rfl
  | [a],h=>by simp at h
  | a :: b :: l, h => by
    have:=aBf l (by simp only [List.length_cons] at h; omega)
    simp only [rC,pl,List.flatMap_cons,List.cons_append,List.nil_append] at this ⊢
    rw [this]

structure Good (f : aD) : Prop where
  known : pA f.Kind = true
  rng : rng f = true
  data : f.Data.length ≤ 32
  pairs : f.Pairs.length ≤ 4
  spr : spr f = false
theorem aGh {f : aD} (h : chkF f = 0) : Good f := by
  unfold chkF at h
  cases hk : pA f.Kind with
  | false=>rw [hk] at h; simp at h
  | true =>
    rw [hk,if_neg (by decide)] at h
    cases hr : rng f with
    | false=>rw [hr] at h; simp at h
    | true =>
      rw [hr,if_neg (by decide)] at h
      by_cases hl : 32 < f.Data.length ∨ 4 < f.Pairs.length
      · rw [if_pos hl] at h; simp at h
      · rw [if_neg hl] at h
        cases hs : spr f with
        | true=>rw [hs] at h; simp at h
        | false=>exact ⟨hk,hr,by omega,by omega,hs⟩
theorem Good.zero {f : aD} (h : Good f) {p : Nat} (h2 : 2 ≤ p) (h7 : p ≤ 7) (hp : p ∉ mG f.Kind) : nv f p = 0:=by
  have hs:=h.spr
  have hz : zr f p = true:=by
    unfold Fn.spr at hs
    simp only [Bool.or_eq_false_iff,Bool.not_eq_false',Bool.and_eq_true] at hs
    obtain rfl | rfl | rfl | rfl | rfl | rfl : p = 2 ∨ p = 3 ∨ p = 4 ∨ p = 5 ∨ p = 6 ∨ p = 7:=by omega
    all_goals simp_all
  unfold zr at hz
  simpa [hp] using hz
theorem Good.nodata {f : aD} (h : Good f) (hk : f.Kind ≠ 0) : f.Data = []:=by
  have hs:=h.spr
  unfold Fn.spr at hs
  simp only [Bool.or_eq_false_iff] at hs
  have:=hs.1.1.2
  simpa [hk] using this
theorem Good.nopairs {f : aD} (h : Good f) (hk : f.Kind ≠ 4) : f.Pairs = []:=by
  have hs:=h.spr
  unfold Fn.spr at hs
  simp only [Bool.or_eq_false_iff] at hs
  have:=hs.1.2
  simpa [hk] using this
theorem lT {x a b : Int} (h : inb x a b = true) : a ≤ x ∧ x ≤ b:=by unfold inb at h; simpa using h
theorem qP {f : aD} {a b c : Int} (h : rngs f a b c = true) : (∀ p ∈ f.Pairs,oE p = true) ∧ (0 ≤ f.Stream ∧ f.Stream ≤ 1048576) ∧ (0 ≤ f.Offset ∧ f.Offset ≤ 1099511627776) ∧ (0 ≤ f.Dep ∧ f.Dep ≤ 1048576) ∧ (a ≤ f.N ∧ f.N ≤ b) ∧ 0 ≤ f.Code ∧ f.Code ≤ c:=by
  unfold rngs at h
  simp only [Bool.and_eq_true,List.all_eq_true] at h
  exact ⟨h.1.1.1.1.1,lT h.1.1.1.1.2,lT h.1.1.1.2,lT h.1.1.2,lT h.1.2,lT h.2⟩
theorem Good.vals {f : aD} (h : Good f) : ∀ x ∈ vals f, ¬ vbad x := by
  have hr:=h.rng
  have hR : (∀ p ∈ f.Pairs, oE p = true) ∧ (0 ≤ f.Stream ∧ f.Stream ≤ 1048576) ∧ (0 ≤ f.Offset ∧ f.Offset ≤ 1099511627776) ∧ (0 ≤ f.Dep ∧ f.Dep ≤ 1048576) ∧ (0 ≤ f.N ∧ f.N ≤ 1099511627776) ∧ (0 ≤ f.Code ∧ f.Code ≤ 255) ∧ (5 ∈ mG f.Kind → 0 ≤ f.Weight ∧ f.Weight ≤ 256) := by
    unfold Fn.rng at hr
    by_cases h8 : f.Kind = 8
    · rw [if_pos h8] at hr
      have:=qP hr
      exact ⟨this.1,this.2.1,this.2.2.1,this.2.2.2.1,by omega,by omega,by rw [h8]; intro h5; exact absurd h5 (by decide)⟩
    · rw [if_neg h8] at hr
      by_cases h10 : f.Kind = 10
      · rw [if_pos h10] at hr
        have:=qP hr
        exact ⟨this.1,this.2.1,this.2.2.1,this.2.2.2.1,by omega,by omega,by rw [h10]; intro h5; exact absurd h5 (by decide)⟩
      · rw [if_neg h10] at hr
        by_cases h12 : f.Kind = 1 ∨ f.Kind = 2
        · rw [if_pos h12, Bool.and_eq_true] at hr
          have:=qP hr.2
          have hw:=lT hr.1
          exact ⟨this.1,this.2.1,this.2.2.1,this.2.2.2.1,by omega,by omega,fun _=>by omega⟩
        · rw [if_neg h12] at hr
          have:=qP hr
          refine ⟨this.1,this.2.1,this.2.2.1,this.2.2.2.1,by omega,by omega,fun h5=>?_⟩
          unfold mG at h5
          rw [if_neg (c:=f.Kind = 1) (fun e=>h12 (.inl e)),if_neg (c:=f.Kind = 2) (fun e=>h12 (.inr e))] at h5
          revert h5
          (repeat' split) <;> intro h5 <;> exact absurd h5 (by decide)
  intro x hx
  unfold Fn.vals at hx
  rw [List.mem_append,List.mem_map] at hx
  rcases hx with ⟨o,ho,rfl⟩ | hx
  · have hb := (kJ f.Kind).2 o ho
    unfold vbad
    obtain rfl | rfl | rfl | rfl | rfl | rfl : o = 2 ∨ o = 3 ∨ o = 4 ∨ o = 5 ∨ o = 6 ∨ o = 7:=by omega
    · simp only [nv]; simp; omega
    · simp only [nv]; simp; omega
    · simp only [nv]; simp; omega
    · have:=hR.2.2.2.2.2.2 ho; simp only [nv]; simp; omega
    · simp only [nv]; simp; omega
    · simp only [nv]; simp; omega
  · unfold pl at hx
    rw [List.mem_flatMap] at hx
    obtain ⟨p,hp,hx⟩:=hx
    have:=hR.1 p hp
    unfold oE at this
    rw [Bool.and_eq_true] at this
    have h1:=lT this.1
    have h2:=lT this.2
    unfold vbad
    simp at hx
    rcases hx with rfl | rfl <;> omega
theorem Good.pay {f : aD} (h : Good f) : pay f = ((mG f.Kind).map (nv f)).flatMap vput ++ ((pl f.Pairs).flatMap vput ++ f.Data):=by
  unfold Fn.pay
  rw [aAk h.vals]
  unfold Fn.vals
  rw [List.flatMap_append,List.append_assoc]
theorem Good.pay_le {f : aD} (h : Good f) : (Fn.pay f).length ≤ 64:=by
  rw [h.pay]
  have h1:=qZ ((mG f.Kind).map (nv f))
  have h2:=qZ (pl f.Pairs)
  rw [aAW] at h2
  have h3:=(kJ f.Kind).1
  rw [List.length_map] at h1
  simp only [List.length_append]
  have hd:=h.data
  have hp:=h.pairs
  by_cases h4 : f.Kind = 4
  · have e : mG f.Kind = [] := by rw [h4]; rfl
    have hn:=h.nodata (by omega)
    rw [e] at h1
    simp only [List.length_nil] at h1
    rw [hn]; simp only [List.length_nil]
    rw [e]; omega
  · have hn := h.nopairs h4
    rw [hn] at h2 ⊢
    simp only [List.length_nil] at h2
    omega
theorem Good.read {f : aD} (h : Good f) : sZ (Fn.pay f) ⟨f.Kind, f.Flag, 0, 0, 0, 0, 0, 0, [], []⟩ = some f := by
  have hb:=kJ f.Kind
  obtain ⟨g,h1,h2,h3⟩:=aG0 (nv f) (mG f.Kind) ((pl f.Pairs).flatMap vput ++ f.Data) ⟨f.Kind,f.Flag,0,0,0,0,0,0,[],[]⟩
    (fun o ho=>h.vals _ (by unfold Fn.vals; rw [List.mem_append,List.mem_map]; exact .inl ⟨o,ho,rfl⟩)) hb.2
  obtain ⟨_,k1,k2,k3,k4⟩:=aAu _ _ _ _ _ h1
  have hz : ∀ p,2 ≤ p → p ≤ 7 → nv ⟨f.Kind,f.Flag,0,0,0,0,0,0,[],[]⟩ p = 0:=by
    intro p h2 h7
    obtain rfl | rfl | rfl | rfl | rfl | rfl : p = 2 ∨ p = 3 ∨ p = 4 ∨ p = 5 ∨ p = 6 ∨ p = 7:=by omega
    all_goals rfl
  have hall : ∀ p,2 ≤ p → p ≤ 7 → nv g p = nv f p:=by
    intro p hp2 hp7
    by_cases hp : p ∈ mG f.Kind
    · exact h2 p hp
    · rw [h3 p hp2 hp7 hp,h.zero hp2 hp7 hp,hz p hp2 hp7]
  unfold sZ
  rw [h.pay]
  simp only
  rw [h1,Option.bind_some]
  unfold body
  simp only at k1 k2 k3 k4
  have hnv : ∀ (P : List aT) (D : List UInt8) p,nv ⟨g.Kind,g.Flag,g.Stream,g.Offset,g.Dep,g.Weight,g.N,g.Code,P,D⟩ p = nv g p:=fun _ _ _=>rfl
  by_cases h0 : f.Kind = 0
  · rw [if_pos (by rw [k3]; exact h0)]
    have hp:=h.nopairs (by omega)
    rw [hp]
    congr 1
    refine aAE (by simp only [k3]) (by simp only [k4]) (fun p a b=>by rw [hnv,hall p a b]) (by simp only [k1]; rw [hp]) ?_
    simp [pl]
  · rw [if_neg (by rw [k3]; exact h0)]
    have hd:=h.nodata h0
    rw [hd,List.append_nil]
    by_cases h4 : f.Kind = 4
    · rw [if_pos (by rw [k3]; exact h4)]
      have hv : vall ((pl f.Pairs).flatMap vput) = (pl f.Pairs,0):=by
        unfold vall
        rw [aAS _ _ _ (Nat.le_refl _) (fun x hx=>h.vals x (by unfold Fn.vals; rw [List.mem_append]; exact .inr hx)),List.nil_append]
      have hl:=aAW f.Pairs
      unfold setS
      rw [hv,if_pos ⟨rfl,by simp only; omega⟩,Option.map_some]
      congr 1
      exact aAE (by simp only [k3]) (by simp only [k4]) (fun p a b=>by rw [hnv,hall p a b]) (by simp only [aBi]) (by simp only [k2]; rw [hd])
    · rw [if_neg (by rw [k3]; exact h4)]
      have hp:=h.nopairs h4
      rw [hp]
      rw [if_pos (by simp [pl])]
      congr 1
      exact aAE k3 k4 hall (by rw [k1,hp]) (by rw [k2,hd])
theorem aD0 (s : List UInt8) : (∃ c, c ≠ 0 ∧ getF s = (zF, 0, c)) ∨ ∃ k b t g, s = k :: b :: t ∧ ¬ 1 < b.toNat ∧ (vget t).2.2 = 0 ∧ ¬ (t.length : Int) - (vget t).2.1 < (vget t).1 ∧
    sZ ((t.drop (vget t).2.1.toNat).take (vget t).1.toNat) ⟨k.toNat,decide ((b.toNat : Int) = 1),0,0,0,0,0,0,[],[]⟩ = some g ∧ chkF g = 0 ∧ getF s = (g,2 + (vget t).2.1 + (vget t).1,0):=by
  match s with
  | []=>exact .inl ⟨3,by decide,rfl⟩
  | k :: r =>
    cases hk : pA (k.toNat : Int) with
    | false=>exact .inl ⟨12,by decide,yA hk⟩
    | true =>
      match r with
      | []=>exact .inl ⟨3,by decide,aBL hk⟩
      | b :: t =>
        rw [xZ hk]
        by_cases hb : 1 < b.toNat
        · rw [if_pos hb]; exact .inl ⟨4,by decide,rfl⟩
        · rw [if_neg hb]
          by_cases hv : (vget t).2.2 = 0
          · rw [if_neg (fun h => h hv)]
            by_cases h64 : 64 < (vget t).1
            · rw [if_pos h64]; exact .inl ⟨5,by decide,rfl⟩
            · rw [if_neg h64]
              by_cases hl : (t.length : Int) - (vget t).2.1 < (vget t).1
              · rw [if_pos hl]; exact .inl ⟨3,by decide,rfl⟩
              · rw [if_neg hl]
                cases hR : sZ ((t.drop (vget t).2.1.toNat).take (vget t).1.toNat) ⟨k.toNat,decide ((b.toNat : Int) = 1),0,0,0,0,0,0,[],[]⟩ with
                | none=>exact .inl ⟨4,by decide,rfl⟩
                | some g =>
                  by_cases hc : chkF g = 0
                  · refine .inr ⟨k, b, t, g, rfl, hb, hv, hl, hR, hc, ?_⟩
                    simp only [hc,if_true]
                  · refine .inl ⟨chkF g, hc, ?_⟩
                    simp only [hc,if_false]
          · rw [if_pos hv]; exact .inl ⟨_,hv,rfl⟩
theorem aEf {p : List UInt8} {g0 g : aD} (hp0 : g0.Pairs = []) (hd0 : g0.Data = []) (h : sZ p g0 = some g) : pay g = p := by
  unfold sZ at h
  cases hr : rd (mG g0.Kind) p g0 with
  | none=>rw [hr] at h; cases h
  | some q =>
    obtain ⟨t,z⟩:=q
    rw [hr] at h
    simp only [Option.bind_some] at h
    have hb:=kJ g0.Kind
    obtain ⟨h1,h2,h3⟩:=aG1 _ _ _ _ _ (aDp g0.Kind) hb.2 hr
    obtain ⟨_,k1,k2,k3,k4⟩:=aAu _ _ _ _ _ hr
    have key : ∀ (l : List Int) (P : List aT) (D : List UInt8),pl P = l → (∀ x ∈ l,¬ vbad x) → t = l.flatMap vput ++ D → pay ⟨z.Kind,z.Flag,z.Stream,z.Offset,z.Dep,z.Weight,z.N,z.Code,P,D⟩ = p:=by
      intro l P D e hl ht
      unfold pay vals
      simp only
      have hnv : nv ⟨z.Kind,z.Flag,z.Stream,z.Offset,z.Dep,z.Weight,z.N,z.Code,P,D⟩ = nv z:=rfl
      rw [hnv,k3,e,aAk,List.flatMap_append,List.append_assoc,← ht,← h1]
      intro x hx
      rw [List.mem_append,List.mem_map] at hx
      rcases hx with ⟨o,ho,rfl⟩ | hx
      · exact h2 o ho
      · exact hl x hx
    unfold body at h
    split at h
    · simp only [Option.some.injEq] at h; subst h
      exact key [] z.Pairs t (by rw [k1,hp0]; rfl) (by simp) (by simp)
    · split at h
      · cases hs : setS t with
        | none=>rw [hs] at h; cases h
        | some P =>
          rw [hs] at h; simp only [Option.map_some,Option.some.injEq] at h; subst h
          unfold setS at hs
          split at hs
          · rename_i hv
            simp only [Option.some.injEq] at hs; subst hs
            obtain ⟨l,e1,e2,e3⟩:=aAT t.length t [] (Nat.le_refl _) hv.1
            have e4 : (vall t).1 = l:=by unfold vall; rw [e1,List.nil_append]
            refine key l _ _ ?_ e3 (by rw [k2,hd0,List.append_nil]; exact e2)
            rw [e4] at hv ⊢
            exact aBf l hv.2
          · cases hs
      · split at h
        · rename_i ht
          simp only [Option.some.injEq] at h; subst h
          exact key [] z.Pairs z.Data (by rw [k1,hp0]; rfl) (by simp) (by rw [k2,hd0]; simpa using ht)
        · cases h
theorem vK {s : List UInt8} (h : (getF s).2.2 = 0) : chkF (getF s).1 = 0 ∧ 0 < (getF s).2.1 ∧ (getF s).2.1 ≤ s.length ∧ putF (getF s).1 = (s.take (getF s).2.1.toNat, 0) ∧ 0 ≤ (getF s).1.Kind ∧ (getF s).1.Kind ≤ 255 := by
  rcases aD0 s with ⟨c,hc,e⟩ | ⟨k,b,t,g,rfl,hb,hv,hl,hR,hc,e⟩
  · rw [e] at h; exact absurd h hc
  · rw [e]
    have h3:=nN hv
    have h4:=yJ (s:=t)
    have hkk:=(yV hR).2.2
    have hp:=aEf rfl rfl hR
    have hbt:=k.toNat_lt
    simp only at hkk ⊢
    have hk2 : g.Kind = (k.toNat : Int):=hkk.1
    refine ⟨hc,by omega,by simp; omega,?_,by omega,by omega⟩
    unfold putF
    rw [if_pos hc,hp]
    have hlen : (((t.drop (vget t).2.1.toNat).take (vget t).1.toNat).length : Int) = (vget t).1:=by rw [List.length_take,List.length_drop]; omega
    have hpv:=tX hv
    have e2 : (2 + (vget t).2.1 + (vget t).1).toNat = ((vget t).2.1.toNat + (vget t).1.toNat) + 1 + 1:=by omega
    have hfb : (if g.Flag = true then 1 else 0 : UInt8) = b:=by
      rw [hkk.2]
      have hbn : b.toNat = 0 ∨ b.toNat = 1:=by omega
      rcases hbn with hbn | hbn
      · have : b = 0 := UInt8.toNat_inj.1 hbn
        subst this; rfl
      · have : b = 1 := UInt8.toNat_inj.1 hbn
        subst this; rfl
    have hkb : UInt8.ofNat g.Kind.toNat = k:=by rw [hk2,Int.toNat_natCast]; simp
    rw [hlen,hpv.2,hfb,hkb,e2,List.take_succ_cons,List.take_succ_cons]
    congr 1
    simp only [List.cons_append,List.nil_append,List.append_assoc]
    congr 2
    rw [List.take_add]

end Go.Fn
open Go Go.IL
namespace Go.Fn

theorem aB8 {s : List UInt8} (h : (getF s).2.2 = 3) : s.length ≤ 80 := by
  match s with
  | []=>simp
  | k :: r =>
    cases hk : pA (k.toNat : Int) with
    | false=>rw [yA hk] at h; exact absurd h (by decide)
    | true =>
      match r with
      | []=>simp
      | b :: q =>
        rw [xZ hk] at h
        by_cases hb : 1 < b.toNat
        · rw [if_pos hb] at h; exact absurd h (by decide)
        · rw [if_neg hb] at h
          by_cases hv : (vget q).2.2 = 0
          · rw [if_neg (fun e => e hv)] at h
            have h3:=nN hv
            have h8 : (vget q).2.1 ≤ 8:=by
              have:=tY (vget q).1
              rw [(tX hv).2,List.length_take] at this; omega
            by_cases h64 : 64 < (vget q).1
            · rw [if_pos h64] at h; exact absurd h (by decide)
            · rw [if_neg h64] at h
              by_cases hl : (q.length : Int) - (vget q).2.1 < (vget q).1
              · simp only [List.length_cons]; omega
              · rw [if_neg hl] at h
                exfalso
                revert h
                cases hR : sZ ((q.drop (vget q).2.1.toNat).take (vget q).1.toNat) ⟨k.toNat,decide ((b.toNat : Int) = 1),0,0,0,0,0,0,[],[]⟩ with
                | none=>intro h; simp at h
                | some g =>
                  simp only
                  split
                  · intro h; simp at h
                  · rename_i hc
                    intro h
                    simp only at h
                    unfold chkF at h
                    (repeat' split at h) <;> simp at h
          · rw [if_pos hv] at h
            simp only at h
            cases q with
            | nil=>simp
            | cons c u =>
              by_cases h1 : (c :: u).length < 2 ^ (c.toNat / 64)
              · have := aAw (k4 c)
                simp only [List.length_cons] at h1 ⊢; omega
              · by_cases h2 : gY (beN (c.toNat % 64) (u.take (2 ^ (c.toNat / 64) - 1))) = ((c.toNat / 64 : Nat) : Int)
                · rw [yI h1 h2] at h; simp at h
                · rw [tZ h1 h2] at h; simp at h

def eatF : Nat → List UInt8 → List aD × List UInt8 × Int
  | 0,s=>([],s,0)
  | f + 1,s=>if (getF s).2.2 = 0 then ((getF s).1 :: (eatF f (s.drop (getF s).2.1.toNat)).1,(eatF f (s.drop (getF s).2.1.toNat)).2) else if (getF s).2.2 = 3 then ([],s,0) else ([],[],(getF s).2.2)
def eat (s : List UInt8) : List aD × List UInt8 × Int:=eatF (s.length + 1) s
theorem aCF : ∀ (f g : Nat) (s : List UInt8),s.length < f → s.length < g → eatF f s = eatF g s
  | 0,_,s,h,_=>by omega
  | _,0,s,_,h=>by omega
  | f + 1, g + 1, s, h1, h2 => by
    unfold eatF
    by_cases h : (getF s).2.2 = 0
    · have h3 := vK h
      have hd : (s.drop (getF s).2.1.toNat).length = s.length - (getF s).2.1.toNat:=List.length_drop
      rw [if_pos h,if_pos h,aCF f g _ (by omega) (by omega)]
    · rw [if_neg h,if_neg h]
theorem eat_ok {s : List UInt8} (h : (getF s).2.2 = 0) : eat s = ((getF s).1 :: (eat (s.drop (getF s).2.1.toNat)).1,(eat (s.drop (getF s).2.1.toNat)).2):=by
  have h3:=vK h
  have hd : (s.drop (getF s).2.1.toNat).length = s.length - (getF s).2.1.toNat:=List.length_drop
  unfold eat
  rw [eatF,if_pos h,aCF s.length _ _ (by omega) (Nat.lt_succ_self _)]
theorem aBP {s : List UInt8} (h : (getF s).2.2 = 3) : eat s = ([],s,0):=by
  unfold eat; rw [eatF,if_neg (by rw [h]; decide),if_pos h]
theorem eat_bad {s : List UInt8} (h : (getF s).2.2 ≠ 0) (h3 : (getF s).2.2 ≠ 3) : eat s = ([],[],(getF s).2.2):=by
  unfold eat; rw [eatF,if_neg h,if_neg h3]
theorem eat_ind {P : List UInt8 → Prop} (h : ∀ s,((getF s).2.2 = 0 → P (s.drop (getF s).2.1.toNat)) → P s) (s : List UInt8) : P s:=by
  have key : ∀ n (s : List UInt8),s.length < n → P s:=by
    intro n
    induction n with
    | zero=>intro s hs; omega
    | succ n ih =>
      intro s hs
      refine h s fun h0=>ih _ ?_
      have h3:=vK h0
      rw [List.length_drop]; omega
  exact key _ s (Nat.lt_succ_self _)
theorem aFQ (s : List UInt8) : ((eat s).2.2 = 0 → (getF (eat s).2.1).2.2 = 3 ∧ (eat s).2.1.length ≤ s.length) ∧ ((eat s).2.2 ≠ 0 → (eat s).2.1 = []) ∧ (eat s).1.length ≤ s.length ∧ ∀ g ∈ (eat s).1,g.Pairs.length ≤ s.length:=by
  refine eat_ind (P:=fun s=>((eat s).2.2 = 0 → (getF (eat s).2.1).2.2 = 3 ∧ (eat s).2.1.length ≤ s.length) ∧ ((eat s).2.2 ≠ 0 → (eat s).2.1 = []) ∧ (eat s).1.length ≤ s.length ∧ ∀ g ∈ (eat s).1,g.Pairs.length ≤ s.length) ?_ s
  intro s ih
  by_cases h : (getF s).2.2 = 0
  · have h3 := vK h
    have hp:=aDz s
    obtain ⟨i1,i2,i3,i4⟩:=ih h
    have hd : (s.drop (getF s).2.1.toNat).length = s.length - (getF s).2.1.toNat:=List.length_drop
    rw [hd] at i3 i4
    rw [eat_ok h]
    refine ⟨fun e=>⟨(i1 e).1,by have:=(i1 e).2; rw [hd] at this; exact Nat.le_trans this (Nat.sub_le _ _)⟩,i2,by rw [List.length_cons]; omega,fun g hg=>?_⟩
    rcases List.mem_cons.1 hg with rfl | hg
    · exact hp.1
    · have:=i4 g hg; omega
  · by_cases h3 : (getF s).2.2 = 3
    · rw [aBP h3]; simp [h3]
    · rw [eat_bad h h3]; simp [h]

def stOf (s : List UInt8) : fG:=⟨(eat s).2.1,(eat s).2.2,((eat s).1.length : Int)⟩
theorem aD4 {s : List UInt8} (hs : s.length ≤ 1000000) : kU (stOf s) = some 0:=by
  obtain ⟨h1,h2,h3,_⟩:=aFQ s
  unfold kU stOf
  simp only [iJ]
  by_cases hb : (eat s).2.2 = 0
  · obtain ⟨h4, h5⟩ := h1 hb
    have h6:=aB8 h4
    rw [decide_eq_true hb,get_F (by omega),dG,h4,decide_eq_false (show ¬ 80 < ((eat s).2.1.length : Int) by omega),decide_eq_false (show ¬ ((eat s).1.length : Int) < 0 by omega)]
    rfl
  · rw [decide_eq_false hb, h2 hb, get_F (by simp), dG, decide_eq_false (show ¬ ((eat s).1.length : Int) < 0 by omega)]
    rfl
theorem st0 : (⟨[],0,0⟩ : fG) = stOf []:=by
  unfold stOf; rw [aBP rfl]; rfl
end Go.Fn
open Go Go.IL
namespace Go.Fn

end Go.Fn
open Go Go.IL
namespace Go.Fn

structure Fine (f : aD) : Prop where
  k0 : 0 ≤ f.Kind
  k1 : f.Kind ≤ 255
  ok : chkF f = 0
def cats (l : List aD) : List UInt8:=l.flatMap fun f=>(putF f).1
theorem aEl {f : aD} (h : Fine f) : 0 < (putF f).1.length ∧ (putF f).1.length ≤ 76:=by
  have hg:=aGh h.ok
  have hl:=hg.pay_le
  have hv:=tY ((pay f).length : Int)
  unfold putF
  rw [if_pos h.ok]
  simp
  omega
end Go.Fn
open Go Go.IL
namespace Go.Fn
theorem lG {α : Type} {l p r : List α} {x : α} (h : l = p ++ x :: r) : gix l (p.length : Int) = some x:=by
  subst h; rw [pB,List.getElem?_append_right (Nat.le_refl _)]; simp
theorem tT {α : Type} {l p r : List α} {x : α} (h : l = p ++ x :: r) : decide ((p.length : Int) < (l.length : Int)) = true:=by
  subst h; simp; omega
theorem zQ {α : Type} {l p : List α} (h : l = p ++ []) : decide ((p.length : Int) < (l.length : Int)) = false:=by
  subst h; simp
theorem vB {α : Type} {l : List α} : decide ((l.length : Int) < (l.length : Int)) = false:=by simp
theorem w_at {α : Type} {l p r : List α} {x : α} (h : l = p ++ x :: r) (hl : l.length ≤ 1000000) : IntKind.wrap .i64 ((p.length : Int) + 1) = ((p ++ [x]).length : Int):=by
  subst h; simp only [List.length_append,List.length_cons,List.length_nil] at hl ⊢; rw [w64 (by omega) (by omega)]; omega
theorem jZ {α : Type} {l p r : List α} {x : α} (h : l = p ++ x :: r) : l = (p ++ [x]) ++ r:=by rw [h]; simp
theorem tf : (true == false) = false:=rfl
theorem ft : (false == true) = false:=rfl
theorem aGY {α : Type} {l p r : List α} {x y : α} (h : l = (p ++ [x]) ++ y :: r) (hl : l.length ≤ 1000000) : gix l (IntKind.wrap .i64 (((p ++ [x]).length : Int) - 1)) = some x:=by
  have hp : p.length ≤ 1000000:=by rw [h] at hl; simp at hl; omega
  rw [show ((p ++ [x]).length : Int) - 1 = (p.length : Int) by simp,w64 (by omega) (by omega)]
  exact lG (r:=y :: r) (by rw [h]; simp)
theorem aFV {α : Type} {l p r : List α} (h : l = p ++ r) : cut l 0 (p.length : Int) = some p:=by
  subst h; unfold cut; rw [if_pos (by simp; omega)]; simp
theorem yE {α : Type} {l p r : List α} (h : l = p ++ r) : cut l (p.length : Int) (l.length : Int) = some r:=by
  subst h; unfold cut; rw [if_pos (by simp; omega),Int.toNat_natCast,Int.toNat_natCast,List.take_length,List.drop_left]
theorem aDC {α : Type} {L : Nat → Int → Option Int} {l : List α} {q : α → Bool}
    (h1 : ∀ p x r f,l = p ++ x :: r → L (f + 1) (p.length : Int) = bif q x then some (p.length : Int) else L f ((p ++ [x]).length : Int)) (h0 : ∀ f,L (f + 1) (l.length : Int) = some (-1)) :
    ∀ (r p : List α) (f : Nat), l = p ++ r → r.length < f → (∀ y ∈ p, q y = false) →
      (L f (p.length : Int) = some (-1) ∧ ∀ y ∈ l,q y = false) ∨ ∃ a x t,l = a ++ x :: t ∧ (∀ y ∈ a,q y = false) ∧ q x = true ∧ L f (p.length : Int) = some (a.length : Int)
  | [], p, f + 1, h, _, ha => by
    left
    rw [List.append_nil] at h
    subst h
    exact ⟨h0 f,ha⟩
  | y :: r, p, f + 1, h, hf, ha => by
    rw [h1 p y r f h]
    rcases Bool.eq_false_or_eq_true (q y) with hb | hb
    · right; exact ⟨p,y,r,h,ha,hb,by rw [hb]; rfl⟩
    · rw [hb, cK]
      exact aDC h1 h0 r (p ++ [y]) f (jZ h) (by simpa using hf) (fun z hz=>by
        rcases List.mem_append.1 hz with hz | hz
        · exact ha z hz
        · rw [List.mem_singleton.1 hz]; exact hb)
theorem aGU {α : Type} {L : Nat → Int → Option Int} {l : List α} {q : α → Bool} (hl : l.length ≤ 1000000)
    (h1 : ∀ p x r f,l = p ++ x :: r → L (f + 1) (p.length : Int) = bif q x then some (p.length : Int) else L f ((p ++ [x]).length : Int)) (h0 : ∀ f,L (f + 1) (l.length : Int) = some (-1)) :
    ∃ k : Int,L fuel 0 = some k ∧ decide (0 ≤ k) = l.any q:=by
  rcases aDC h1 h0 l [] fuel rfl (fB (by omega)) (fun _ h=>(List.not_mem_nil h).elim) with ⟨h2,h3⟩ | ⟨a,x,t,h2,h3,h4,h5⟩
  · refine ⟨-1, h2, ?_⟩
    symm
    have : l.any q = false:=by rw [List.any_eq_false]; intro y hy; rw [h3 y hy]; decide
    rw [this]; rfl
  · refine ⟨a.length, h5, ?_⟩
    have : l.any q = true:=List.any_eq_true.2 ⟨x,by rw [h2]; simp,h4⟩
    rw [this]; exact decide_eq_true (by omega)
theorem aCD {α : Type} [DecidableEq α] {L : Nat → Int → Option Bool} {l m : List α} (hm : l.length = m.length)
    (h1 : ∀ p x r s y t f,l = p ++ x :: r → m = s ++ y :: t → p.length = s.length → L (f + 1) (p.length : Int) = bif !decide (x = y) then some false else L f ((p ++ [x]).length : Int)) {z : Bool} (h0 : ∀ f,L (f + 1) (l.length : Int) = some z) :
    ∀ (r t p s : List α) (f : Nat),l = p ++ r → m = s ++ t → p.length = s.length → r.length < f → L f (p.length : Int) = some (decide (r = t) && z)
  | [], [], p, s, f + 1, h, k, e, _ => by
    rw [List.append_nil] at h
    subst h
    rw [h0]; simp
  | [],y :: t,p,s,f + 1,h,k,e,_=>by rw [h,k] at hm; simp at hm; omega
  | x :: r,[],p,s,f + 1,h,k,e,_=>by rw [h,k] at hm; simp at hm; omega
  | x :: r, y :: t, p, s, f + 1, h, k, e, hf => by
    rw [h1 p x r s y t f h k e]
    by_cases hx : x = y
    · subst hx
      rw [decide_eq_true rfl,Bool.not_true,cK]
      have:=aCD hm h1 h0 r t (p ++ [x]) (s ++ [x]) f (jZ h) (jZ k) (by simp [e]) (by simpa using hf)
      rw [this]; simp
    · rw [decide_eq_false hx,Bool.not_false,dO]; simp [hx]
theorem aFP {α : Type} [DecidableEq α] {L : Nat → Int → Option Bool} {l m : List α} (hl : l.length ≤ 1000000)
    (h1 : ∀ p x r s y t f,l = p ++ x :: r → m = s ++ y :: t → p.length = s.length → L (f + 1) (p.length : Int) = bif !decide (x = y) then some false else L f ((p ++ [x]).length : Int)) {z : Bool} (h0 : l.length = m.length → ∀ f,L (f + 1) (l.length : Int) = some z) :
    (bnd (!decide ((l.length : Int) = (m.length : Int))) fun x1=>bif x1 then some false else L fuel 0) = some (decide (l = m) && z):=by
  by_cases hm : l.length = m.length
  · simp only [bndD, decide_eq_true (show (l.length : Int) = (m.length : Int) by omega), Bool.not_true, cK]
    exact aCD hm h1 (h0 hm) l m [] [] fuel rfl rfl rfl (fB (by omega))
  · simp only [bndD, decide_eq_false (show ¬ (l.length : Int) = (m.length : Int) by omega), Bool.not_false, dO]
    rw [decide_eq_false (fun h=>hm (by rw [h]))]; rfl
theorem rE {α : Type} {P : α → Option Bool} {q : α → Bool} (hP : ∀ x,P x = some (q x)) {I : Nat → Int → Option Int} {l : List α}
    (hI : ∀ f v,I (f + 1) v = bnd (decide (v < (l.length : Int))) fun x14=>bif x14 then (bno (gix l v) fun x16=>bno (P x16) fun x17=>bif x17 then some v else (bnd (IntKind.wrap .i64 (v + 1)) fun x19=>I f x19)) else some (-1))
    (hl : l.length ≤ 1000000) : (bno (I fuel 0) fun x1=>bnd (decide (0 ≤ x1)) fun x2=>some x2) = some (l.any q):=by
  obtain ⟨k,h1,h2⟩:=aGU (L:=I) (q:=q) hl (fun p x r f h=>by
    rw [hI]; simp only [bndD,tT h,dO,lG h,bnoS,hP,w_at h hl]) (fun f=>by rw [hI]; simp only [bndD,vB,cK])
  rw [h1,bnoS,bndD,h2]
theorem aGd {α : Type} {l : List α} {i : Nat} (h : i ≤ l.length) : cut l 0 (i : Int) = some (l.take i):=by
  have h1:=aFV (l:=l) (List.take_append_drop i l).symm
  rwa [show (l.take i).length = i by rw [List.length_take]; omega] at h1
end Go.Fn
open Go Go.IL
namespace Go.Fn
abbrev Iv:=aG
abbrev Pc:=bX
abbrev S23:=cJ
def mem (n : Int) (s : List Iv) : Prop:=∃ x ∈ s,x.From ≤ n ∧ n < x.To
def mayB (x : Iv) : Bool:=(decide (0 ≤ x.From) && decide (x.From ≤ 4611686018427387903)) && (decide (0 ≤ x.To) && decide (x.To ≤ 4611686018427387903))
theorem aEv (x : Iv) : iS x = some (mayB x):=by
  unfold iS sB mayB
  simp only [bndD,bnoS]
  cases decide (0 ≤ x.From) && decide (x.From ≤ 4611686018427387903) <;> rfl
theorem zO (x : Iv) : gW x = some (decide (x.To ≤ x.From)):=rfl
structure VS (s : List Iv) : Prop where
  pw : s.Pairwise (fun x y=>x.To < y.From)
  ne : ∀ x ∈ s,x.From < x.To
  lo : ∀ x ∈ s,0 ≤ x.From
  hi : ∀ x ∈ s,x.To ≤ 4398046511104
theorem VS.nil : VS []:=⟨.nil,fun _ h=>(List.not_mem_nil h).elim,fun _ h=>(List.not_mem_nil h).elim,fun _ h=>(List.not_mem_nil h).elim⟩
theorem aCv : ∀ {s : List Iv} {a b : Int},s.Pairwise (fun x y=>x.To < y.From) → (∀ x ∈ s,x.From < x.To) → (∀ x ∈ s,a ≤ x.From ∧ x.To ≤ b) → a ≤ b → (s.length : Int) ≤ b - a
  | [],a,b,_,_,_,h=>by simp; omega
  | x :: s, a, b, hp, hn, hb, hab => by
    have hp:=List.pairwise_cons.1 hp
    have h1:=hn x (by simp)
    have h2:=hb x (by simp)
    have:=aCv (s:=s) (a:=x.To) (b:=b) hp.2 (fun y hy=>hn y (by simp [hy])) (fun y hy=>⟨by have:=hp.1 y hy; omega,(hb y (by simp [hy])).2⟩) h2.2
    simp only [List.length_cons]; omega
theorem aDD {s : List Iv} (hl : s.length ≤ 1000000) (hp : s.Pairwise (fun x y=>x.To < y.From)) : ∀ (r p : List Iv) (x : Iv) (f : Nat),s = (p ++ [x]) ++ r → r.length < f → fT s f ((p ++ [x]).length : Int) = some 0
  | [], p, x, f + 1, h, _ => by
    unfold fT
    simp only [bndD,zQ h,cK]
  | y :: r, p, x, f + 1, h, hf => by
    unfold fT
    have hxy : x.To < y.From:=by
      rw [h] at hp
      exact (List.pairwise_append.1 hp).2.2 x (by simp) y (by simp)
    simp only [bndD,tT h,dO,aGY h hl,lG h,bnoS,decide_eq_false (show ¬ y.From ≤ x.To by omega),cK,w_at h hl]
    exact aDD hl hp r (p ++ [x]) y f (jZ h) (by simpa using hf)
theorem aAC {s : List Iv} (hl : s.length ≤ 100000) (h : VS s) : lO s = some 0:=by
  unfold lO
  have h1 : cZ s = some (s.any (fun x=>!mayB x)):=by
    have hc : ∀ x : Iv,mJ (⟨x.From,x.To⟩ : Iv) = some (!mayB x):=fun x=>by unfold mJ; rw [aEv,bnoS]
    have hI : ∀ f v,bN s (f + 1) v = bnd (decide (v < (s.length : Int))) fun x14=>bif x14 then (bno (gix s v) fun x16=>bno (some (!mayB x16)) fun x17=>bif x17 then some v else (bnd (IntKind.wrap .i64 (v + 1)) fun x19=>bN s f x19)) else some (-1):=fun f v=>by
      rw [bN]
      simp only [hc]
    exact rE (P:=fun x : Iv=>some (!mayB x)) (fun _=>rfl) hI (by omega)
  have h2 : dE s = some (s.any (fun x=>decide (x.To ≤ x.From))):=by
    have hI : ∀ f v,bQ s (f + 1) v = bnd (decide (v < (s.length : Int))) fun x14=>bif x14 then (bno (gix s v) fun x16=>bno (some (decide (x16.To ≤ x16.From))) fun x17=>bif x17 then some v else (bnd (IntKind.wrap .i64 (v + 1)) fun x19=>bQ s f x19)) else some (-1):=fun f v=>by
      rw [bQ]
      simp only [zO]
    exact rE (P:=fun x : Iv=>some (decide (x.To ≤ x.From))) (fun _=>rfl) hI (by omega)
  have e1 : s.any (fun x=>!mayB x) = false:=by
    rw [List.any_eq_false]; intro x hx
    have a1:=h.lo x hx
    have a2:=h.hi x hx
    have a3:=h.ne x hx
    unfold mayB; simp; omega
  have e2 : s.any (fun x=>decide (x.To ≤ x.From)) = false:=by
    rw [List.any_eq_false]; intro x hx
    have a3:=h.ne x hx
    simp; omega
  rw [h1,e1,bnoS,cK,h2,e2,bnoS,cK]
  cases hs : s with
  | nil =>
    have hf : fuel = 18446744073709551615 + 1:=rfl
    rw [hf]; rfl
  | cons x r =>
    have h3 : s = ([] ++ [x]) ++ r:=hs
    have:=aDD (by omega) h.pw r [] x fuel h3 (fB (by rw [hs] at hl; simp at hl; omega))
    have this : fT s fuel 1 = _:=this
    rw [← hs]; exact this
theorem iclone {l : List Iv} (hl : l.length ≤ 100000) : dK l = some l:=by
  unfold dK
  have h : (bno (app 16 ([] : (List Iv)) l) fun x3=>some x3) = some l:=by
    rw [pM (by simp; omega) (by simp; omega),bnoS,List.nil_append]
  rw [h,wO]
  rintro rfl; rfl
theorem iclone2 {l : List Iv} (hl : l.length ≤ 100000) : dP l = some l:=by
  unfold dP
  have h : (bno (app 16 ([] : (List Iv)) l) fun x3=>some x3) = some l:=by
    rw [pM (by simp; omega) (by simp; omega),bnoS,List.nil_append]
  rw [h,wO]
  rintro rfl; rfl
def aAJ (y x : Iv) : List Iv:=(if y.From < min y.To x.From then [⟨y.From,min y.To x.From⟩] else []) ++ (if max y.From x.To < y.To then [⟨max y.From x.To,y.To⟩] else [])
def cutS (s : List Iv) (x : Iv) : List Iv:=s.flatMap fun y=>aAJ y x
theorem aEp (y x : Iv) : (aAJ y x).length ≤ 2:=by unfold aAJ; rw [List.length_append]; (repeat' split) <;> simp
theorem aDN (x : Iv) : ∀ (s : List Iv),(cutS s x).length ≤ 2 * s.length
  | []=>Nat.le_refl _
  | y :: s => by
    have h1:=aDN x s
    have h2:=aEp y x
    show (aAJ y x ++ cutS s x).length ≤ _
    rw [List.length_append,List.length_cons]; omega
theorem aFW {s : List Iv} {x : Iv} (h : ∀ y ∈ s,y.From < y.To ∧ (y.To ≤ x.From ∨ x.To ≤ y.From)) (hx : x.From < x.To) : cutS s x = s:=by
  induction s with
  | nil=>rfl
  | cons y s ih =>
    have h1:=h y (by simp)
    show aAJ y x ++ cutS s x = y :: s
    rw [ih (fun z hz=>h z (by simp [hz]))]
    have : aAJ y x = [y]:=by
      unfold aAJ
      rcases h1.2 with h2 | h2
      · rw [if_pos (by omega),if_neg (by omega),show min y.To x.From = y.To by omega]; rfl
      · rw [if_neg (by omega),if_pos (by omega),show max y.From x.To = y.From by omega]; rfl
    rw [this]; rfl
theorem cut_one {x : Iv} {k : Int} {kk0 : Int → List Iv → Option (List Iv)} (y : Iv) (acc : List Iv) (n : Nat) (ha : acc.length ≤ 100000) :
    fH k kk0 y (min y.To x.From) (max y.From x.To) (n + 3) 0 acc = kk0 (IntKind.wrap .i64 (k + 1)) (acc ++ aAJ y x):=by
  have w0 : IntKind.wrap .i64 (0 + 1) = 1:=rfl
  have w1 : IntKind.wrap .i64 (1 + 1) = 2:=rfl
  have g0 : ∀ a b : Iv,gix [a,b] 0 = some a:=fun _ _=>rfl
  have g1 : ∀ a b : Iv,gix [a,b] 1 = some b:=fun _ _=>rfl
  unfold aAJ
  have e2 : ∀ (m : Nat) (a : List Iv),fH k kk0 y (min y.To x.From) (max y.From x.To) (m + 1) 2 a = kk0 (IntKind.wrap .i64 (k + 1)) a:=fun m a=>by
    rw [fH]
    simp only [bndD,show decide ((2 : Int) < 2) = false from rfl,cK]
  have e1 : ∀ (m : Nat) (a : List Iv),a.length ≤ 100001 → fH k kk0 y (min y.To x.From) (max y.From x.To) (m + 2) 1 a = kk0 (IntKind.wrap .i64 (k + 1)) (a ++ if max y.From x.To < y.To then [⟨max y.From x.To,y.To⟩] else []):=fun m a hal=>by
    rw [fH]
    simp only [bndD,show decide ((1 : Int) < 2) = true from rfl,dO,g1,bnoS,zO]
    by_cases h : max y.From x.To < y.To
    · rw [decide_eq_false (by omega), if_pos h]
      simp only [Bool.not_false,beq_self_eq_true,dO,Bool.not_true,Bool.and_false,cK,w1]
      rw [pM (by simp; omega) (by simp; omega),bnoS,e2 m]
    · rw [decide_eq_true (by omega), if_neg h, List.append_nil]
      simp only [Bool.not_true,ft,cK,Bool.not_false,Bool.and_true,w1,e2 m]
  rw [fH]
  simp only [bndD,show decide ((0 : Int) < 2) = true from rfl,dO,g0,bnoS,zO]
  by_cases h : y.From < min y.To x.From
  · rw [decide_eq_false (by omega), if_pos h]
    simp only [Bool.not_false,beq_self_eq_true,dO,Bool.not_true,Bool.and_false,cK,w0]
    rw [pM (by simp; omega) (by simp; omega),bnoS,e1 n _ (by simp; omega),List.append_assoc]
  · rw [decide_eq_true (by omega), if_neg h, List.nil_append]
    simp only [Bool.not_true,ft,cK,Bool.not_false,Bool.and_true,w0]
    rw [e1 n _ (by omega)]
theorem cut_L {s : List Iv} {x : Iv} (hl : s.length ≤ 20000) : ∀ (r p : List Iv) (f : Nat),s = p ++ r → r.length < f → iB s x f (p.length : Int) (cutS p x) = some (cutS s x)
  | [], p, f + 1, h, _ => by
    unfold iB
    simp only [bndD,zQ h,cK]
    rw [List.append_nil] at h; rw [h]
  | y :: r, p, f + 1, h, hf => by
    unfold iB
    have hp : p.length + (r.length + 1) = s.length:=by rw [h]; simp
    have hc:=aDN x p
    simp only [bndD,tT h,dO,lG h,bnoS]
    have hfu : fuel = 18446744073709551613 + 3:=rfl
    rw [hfu,cut_one y (cutS p x) _ (by omega),w_at h (by omega)]
    have ih:=cut_L (x:=x) hl r (p ++ [y]) f (jZ h) (by simpa using hf)
    have e : cutS (p ++ [y]) x = cutS p x ++ aAJ y x:=by simp [cutS]
    rw [e] at ih
    exact ih
theorem cut_eq {s : List Iv} {x : Iv} (hl : s.length ≤ 20000) (h : VS s) (hx : 0 ≤ x.From ∧ x.From ≤ 4398046511104 ∧ 0 ≤ x.To ∧ x.To ≤ 4398046511104) : sC s x = some (if x.To ≤ x.From then s else cutS s x):=by
  have hm : mayB x = true:=by unfold mayB; simp; omega
  unfold sC
  rw [aEv (⟨x.From,x.To⟩ : Iv),show mayB (⟨x.From,x.To⟩ : Iv) = true from hm,bnoS]
  simp only [bndD,Bool.not_true,beq_self_eq_true,gdtt,zO,bnoS,Bool.false_or]
  by_cases hn : x.To ≤ x.From
  · rw [decide_eq_true hn, if_pos hn]
    simp only [tf,gdff,bnoS,Bool.true_or,dO,iclone (show s.length ≤ 100000 by omega)]
  · rw [decide_eq_false hn, if_neg hn]
    simp only [beq_self_eq_true,gdtt,aAC (show s.length ≤ 100000 by omega) h,bnoS,decide_true,Bool.not_true,Bool.or_self,cK]
    exact cut_L hl s [] fuel rfl (fB (by omega))
end Go.Fn
open Go Go.IL
namespace Go.Fn
theorem aHA {s : List Iv} {x : Iv} (hl : s.length ≤ 20000) (h : VS s) (hx : x.From < x.To) (h0 : 0 ≤ x.From) (h1 : x.To ≤ 4398046511104) (hd : ∀ y ∈ s,y.To ≤ x.From ∨ x.To ≤ y.From) : ∀ (r p : List Iv) (f : Nat),s = p ++ r → r.length < f → iA s f [x] (p.length : Int) = some [x]
  | [], p, f + 1, hs, _ => by
    unfold iA
    simp only [bndD,zQ hs,cK]
  | y :: r, p, f + 1, hs, hf => by
    have hym : y ∈ s:=by rw [hs]; simp
    have hyn:=h.ne y hym
    have a1:=h.lo y hym
    have a2:=h.hi y hym
    have hdy:=hd y hym
    have hv : VS [x]:=⟨by simp,fun z hz=>by rw [List.mem_singleton.1 hz]; exact hx,fun z hz=>by rw [List.mem_singleton.1 hz]; exact h0,fun z hz=>by rw [List.mem_singleton.1 hz]; exact h1⟩
    unfold iA
    simp only [bndD,tT hs,dO,lG hs,bnoS]
    rw [cut_eq (x:=(⟨y.From,y.To⟩ : Iv)) (by simp) hv ⟨a1,by show y.From ≤ _; omega,by show 0 ≤ y.To; omega,a2⟩,if_neg (by show ¬ y.To ≤ y.From; omega),aFW (x:=(⟨y.From,y.To⟩ : Iv)) (fun z hz=>by rw [List.mem_singleton.1 hz]; exact ⟨hx,by show x.To ≤ y.From ∨ y.To ≤ x.From; omega⟩) hyn,bnoS,w_at hs (by omega)]
    exact aHA hl h hx h0 h1 hd r (p ++ [y]) f (jZ hs) (by simpa using hf)
theorem gaps_eq {s : List Iv} {x : Iv} (hl : s.length ≤ 20000) (h : VS s) (hx : x.From < x.To) (h0 : 0 ≤ x.From) (h1 : x.To ≤ 4398046511104) (hd : ∀ n,x.From ≤ n → n < x.To → ¬ mem n s) : qC s x = some [x]:=by
  have hm : mayB x = true:=by unfold mayB; simp; omega
  have hd2 : ∀ y ∈ s,y.To ≤ x.From ∨ x.To ≤ y.From:=fun y hy=>by
    have hyn:=h.ne y hy
    by_cases hc : y.To ≤ x.From ∨ x.To ≤ y.From
    · exact hc
    · exact absurd ⟨y,hy,by omega,by omega⟩ (hd (max x.From y.From) (by omega) (by omega))
  unfold qC
  rw [aEv (⟨x.From,x.To⟩ : Iv),show mayB (⟨x.From,x.To⟩ : Iv) = true from hm,bnoS]
  simp only [bndD,Bool.not_true,beq_self_eq_true,gdtt,aAC (show s.length ≤ 100000 by omega) h,bnoS,decide_true,Bool.or_self,zO,decide_eq_false (show ¬ x.To ≤ x.From by omega),cK]
  exact aHA hl h hx h0 h1 hd2 s [] fuel rfl (fB (by omega))
theorem isame {l m : List Iv} (hl : l.length ≤ 1000000) : qB l m = some (decide (l = m)):=by
  have heq : ∀ x y : Iv,(decide (x.From = y.From) && (decide (x.To = y.To) && true)) = decide (x = y):=fun x y=>by
    obtain ⟨a,b⟩:=x; obtain ⟨c,d⟩:=y; rw [Bool.eq_iff_iff]; simp
  have:=aFP (L:=cL l m) (m:=m) (z:=true) hl (fun p x r s y t f h k e=>by
    rw [cL]
    simp only [bndD,tT h,dO,lG h,show gix m (p.length : Int) = some y by rw [e]; exact lG k,bnoS,heq,w_at h hl]) (fun _ f=>by
    rw [cL]
    simp only [bndD,vB,cK])
  rw [Bool.and_true] at this
  have this : eF l m = _:=this
  unfold qB
  rw [this,bnoS]
end Go.Fn
open Go Go.IL
namespace Go.Fn
def endS (s : S23) : Int:=s.Base + (s.Data.length : Int)
def fins (l : List Pc) : Nat:=(l.filter (·.Fin)).length
structure G (s : S23) : Prop where
  b0 : 0 ≤ s.Base
  bn : s.Base ≤ s.Next
  nd : s.Next ≤ endS s
  en : endS s ≤ 1099511623680
  dl : s.Data.length ≤ 4096
  lv : VS s.Lost
  lb : ∀ x ∈ s.Lost,s.Base ≤ x.From ∧ x.To ≤ s.Next
  pw : s.Pieces.Pairwise (fun p q=>p.To ≤ q.From)
  pb : ∀ p ∈ s.Pieces,(s.Base ≤ p.From ∧ p.From ≤ p.To ∧ p.To ≤ s.Next) ∧ 0 ≤ p.Path ∧ p.Path < 4
  pf : ∀ p ∈ s.Pieces,p.From = p.To → p.Fin = true
  pd : ∀ p ∈ s.Pieces,∀ n,p.From ≤ n → n < p.To → ¬ mem n s.Lost
  fe : ∀ p ∈ s.Pieces,p.Fin = true → p.To = endS s
  fc : fins s.Pieces = if s.Sent = true ∧ s.Again = false ∧ s.Done = false then 1 else 0
  se : s.Sent = true → s.Closed = true ∧ s.Next = endS s ∧ ¬ (s.Again = true ∧ s.Done = true)
  ns : s.Sent = false → s.Again = false ∧ s.Done = false
  cov : ∀ n,s.Base ≤ n → n < s.Next → mem n s.Lost ∨ ∃ p ∈ s.Pieces,p.From ≤ n ∧ n < p.To
theorem aG3 : ∀ {l : List Pc} {a b : Int},l.Pairwise (fun p q=>p.To ≤ q.From) → (∀ p ∈ l,a ≤ p.From ∧ p.From ≤ p.To ∧ p.To ≤ b) → (∀ p ∈ l,p.From = p.To → p.Fin = true) → a ≤ b → (l.length : Int) ≤ b - a + fins l
  | [],a,b,_,_,_,h=>by simp [fins]; omega
  | x :: l, a, b, hp, hb, hf, hab => by
    have hp:=List.pairwise_cons.1 hp
    have h1:=hb x (by simp)
    have:=aG3 (l:=l) (a:=x.To) (b:=b) hp.2 (fun y hy=>⟨hp.1 y hy,(hb y (by simp [hy])).2⟩) (fun y hy=>hf y (by simp [hy])) h1.2.2
    have hf1 : fins (x :: l) = fins l + if x.Fin = true then 1 else 0:=by unfold fins; rw [List.filter_cons]; split <;> simp
    rw [hf1]
    by_cases he : x.From = x.To
    · rw [if_pos (hf x (by simp) he)]
      simp only [List.length_cons]; omega
    · simp only [List.length_cons]; split <;> omega
theorem G.ll {s : S23} (h : G s) : s.Lost.length ≤ 4096:=by
  have h1:=aCv h.lv.pw h.lv.ne h.lb h.bn
  have h2:=h.nd
  have h3:=h.dl
  unfold endS at h2; omega
theorem G.pl {s : S23} (h : G s) : s.Pieces.length ≤ 4097:=by
  have h1:=aG3 h.pw (fun p hp=>(h.pb p hp).1) h.pf h.bn
  have h2:=h.nd
  have h3:=h.dl
  have h4 : fins s.Pieces ≤ 1:=by rw [h.fc]; split <;> omega
  unfold endS at h2; omega
theorem G.num {s : S23} (h : G s) : 0 ≤ s.Base ∧ s.Base ≤ s.Next ∧ s.Next ≤ endS s ∧ endS s ≤ 1099511623680:=⟨h.b0,h.bn,h.nd,h.en⟩
theorem aBO {s : S23} (h : G s) : iP s = some (endS s):=by
  obtain ⟨h1,h2,h3,h4⟩:=h.num
  unfold iP
  rw [bndD]; unfold endS at *; rw [w64 (by omega) (by omega)]
theorem own23 {s : S23} (hp : s.Pieces.length ≤ 100000) (hl : s.Lost.length ≤ 100000) : jT s = some (s.Base,s.Data,s.Next,s.Pieces,s.Lost,s.Closed,s.Sent,s.Again,s.Done):=by
  unfold jT
  have e : cpy (List.replicate s.Pieces.length (⟨0,0,0,false⟩ : Pc)) s.Pieces = s.Pieces:=by
    unfold cpy
    rw [List.length_replicate,List.take_length,List.drop_of_length_le (by rw [List.length_replicate]; exact Nat.le_refl _),List.append_nil]
  rw [aCi (by omega) (by omega) (by omega),bnoS,Int.toNat_natCast,bndD,e,iclone2 hl,bnoS]
theorem lost23 {s : S23} (h : G s) : kG s = some true:=by
  have hl:=h.ll
  unfold kG
  rw [aAC (by omega) h.lv,bnoS]
  simp only [bndD,decide_true,Bool.not_true,cK]
  cases hs : s.Lost with
  | nil=>rfl
  | cons x r =>
    obtain ⟨p,y,hy⟩ : ∃ p y,x :: r = p ++ [y]:=by
      rcases List.eq_nil_or_concat (x :: r) with h | ⟨p,y,h⟩
      · cases h
      · exact ⟨p,y,by rw [h,List.concat_eq_append]⟩
    have hlen : ((x :: r).length : Int) = (p.length : Int) + 1:=by rw [hy]; simp
    have hpl : p.length ≤ 5000:=by rw [hs,hy] at hl; simp at hl; omega
    have hw : IntKind.wrap .i64 (((x :: r).length : Int) - 1) = (p.length : Int):=by rw [hlen,w64 (by omega) (by omega)]; omega
    have hg : gix (x :: r) (p.length : Int) = some y:=lG (r:=[]) hy
    have h0 : gix (x :: r) 0 = some x:=rfl
    have hx:=h.lb x (by rw [hs]; simp)
    have hyb:=h.lb y (by rw [hs,hy]; simp)
    simp only [decide_eq_false (show ¬ ((x :: r).length : Int) = 0 by omega),beq_self_eq_true,gdtt,h0,bnoS,decide_eq_true hx.1,Bool.and_self,hw,hg,decide_eq_true hyb.2,Bool.or_true]
theorem fits23 {s : S23} (h : G s) {p : Pc} (hp : p ∈ s.Pieces) {at_ : Int} (ha : at_ ≤ p.From) : kH s p at_ = some true:=by
  obtain ⟨⟨a1,a2,a3⟩,a4,a5⟩:=h.pb p hp
  obtain ⟨n1,n2,n3,n4⟩:=h.num
  have hl:=h.ll
  unfold kH uH kI
  simp only [bndD,decide_eq_false (show ¬ p.From < at_ by omega),decide_eq_false (show ¬ p.To < p.From by omega),decide_eq_false (show ¬ s.Next < p.To by omega),Bool.or_self,beq_self_eq_true,gdtt,decide_eq_true a4,decide_eq_true a5,Bool.and_self,bnoS,Bool.not_true,cK]
  by_cases he : p.From = p.To
  · rw [decide_eq_true he,dO,h.pf p hp he]
  · rw [decide_eq_false he,cK,gaps_eq (x:=(⟨p.From,p.To⟩ : Iv)) (by omega) h.lv (by show p.From < p.To; omega) (by show 0 ≤ p.From; omega) (by show p.To ≤ _; omega) (h.pd p hp),bnoS,isame (by simp),bnoS,decide_eq_true rfl]
theorem aGb (l m : List Pc) : fins (l ++ m) = fins l + fins m:=by unfold fins; rw [List.filter_append,List.length_append]
theorem aHC {s : S23} (h : G s) : ∀ (r p : List Pc) (f : Nat),s.Pieces = p ++ r → r.length < f → eG s f (fins p : Int) (p.length : Int) = some true
  | [], p, f + 1, hs, _ => by
    unfold eG
    rw [List.append_nil] at hs
    have hc:=h.fc
    rw [hs] at hc
    simp only [bndD,show decide ((p.length : Int) < (s.Pieces.length : Int)) = false by rw [hs]; exact vB,cK]
    cases hS : s.Sent
    · obtain ⟨h1, h2⟩ := h.ns hS
      rw [hS] at hc
      simp at hc
      simp [hc,h1,h2]
    · obtain ⟨h1, h2, h3⟩ := h.se hS
      rw [hS] at hc
      simp only [h1,Bool.not_true,cK,beq_self_eq_true,gdtt,aBO h,bnoS,decide_eq_true h2,Bool.or_self,Bool.false_or]
      cases hA : s.Again <;> cases hD : s.Done <;> rw [hA,hD] at hc h3 <;> simp at hc h3 <;> simp [hc]
  | x :: r, p, f + 1, hs, hf => by
    have hx : x ∈ s.Pieces:=by rw [hs]; simp
    have hpl:=h.pl
    have hpp : p.length + (r.length + 1) = s.Pieces.length:=by rw [hs]; simp
    have hfl : fins p ≤ p.length:=List.length_filter_le _ _
    have ih:=aHC h r (p ++ [x]) f (jZ hs) (by simpa using hf)
    rw [aGb] at ih
    unfold eG
    simp only [bndD,tT hs,dO,lG hs,bnoS,aBO h,w_at hs (show s.Pieces.length ≤ 1000000 by omega)]
    cases hF : x.Fin
    · rw [cK]
      have : fins [x] = 0:=by simp [fins,hF]
      rw [this] at ih; exact ih
    · have : fins [x] = 1 := by simp [fins, hF]
      rw [this] at ih
      rw [dO,decide_eq_true (h.fe x hx hF),Bool.not_true,cK,w64 (by omega) (by omega)]
      exact ih
theorem aDP {s : S23} (h : G s) : ∀ (r p : List Pc) (f : Nat) (at_ : Int),s.Pieces = p ++ r → r.length < f → (∀ q ∈ r,at_ ≤ q.From) → hU s f at_ (p.length : Int) = some 0
  | [], p, f + 1, at_, hs, _, _ => by
    unfold hU
    have he:=aHC h s.Pieces [] fuel rfl (fB (by have:=h.pl; omega))
    have he : mB s = some true:=he
    simp only [bndD,zQ hs,cK,he,bnoS,Bool.not_true]
  | x :: r, p, f + 1, at_, hs, hf, ha => by
    have hx : x ∈ s.Pieces:=by rw [hs]; simp
    have hpl:=h.pl
    unfold hU
    simp only [bndD,tT hs,dO,lG hs,bnoS,fits23 h hx (ha x (by simp)),Bool.not_true,cK,w_at hs (show s.Pieces.length ≤ 1000000 by omega)]
    refine aDP h r (p ++ [x]) f x.To (jZ hs) (by simpa using hf) (fun q hq=>?_)
    have:=h.pw
    rw [hs] at this
    exact (List.pairwise_cons.1 (List.pairwise_append.1 this).2.1).1 q hq
theorem aFZ {s : S23} (h : G s) : oP s = some 0:=by
  obtain ⟨n1,n2,n3,n4⟩:=h.num
  have hd:=h.dl
  have e : endS s = s.Base + (s.Data.length : Int):=rfl
  unfold oP jK
  simp only [bndD,decide_eq_false (show ¬ s.Base < 0 by omega),decide_eq_false (show ¬ 1099511623680 < s.Base by omega),decide_eq_false (show ¬ s.Next < s.Base by omega),w64 (show -9223372036854775808 ≤ s.Next - s.Base by omega) (by omega),decide_eq_false (show ¬ (s.Data.length : Int) < s.Next - s.Base by omega),decide_eq_false (show ¬ (4096 : Int) < (s.Data.length : Int) by omega),cK,lost23 h,bnoS,Bool.not_true]
  exact aDP h s.Pieces [] fuel s.Base rfl (fB (by have:=h.pl; omega)) (fun q hq=>(h.pb q hq).1.1)
def new23 : S23:=⟨0,[],0,[],[],false,false,false,false⟩
theorem g_new : G new23:=⟨by decide,by decide,by decide,by decide,by decide,VS.nil,fun _ h=>(List.not_mem_nil h).elim,.nil,fun _ h=>(List.not_mem_nil h).elim,fun _ h=>(List.not_mem_nil h).elim,fun _ h=>(List.not_mem_nil h).elim,fun _ h=>(List.not_mem_nil h).elim,rfl,fun h=>(by cases h),fun _=>⟨rfl,rfl⟩,fun n h1 h2=>by have h1 : (0 : Int) ≤ n:=h1; have h2 : n < 0:=h2; omega⟩
def sY (s : S23) : Int:=if s.Closed = true then 0 else 4096 - (s.Data.length : Int)
theorem aGy {s : S23} (h : G s) : pX s = some (sY s):=by
  have hd:=h.dl
  unfold pX sY
  cases s.Closed
  · rw [cK,bndD,w64 (by omega) (by omega)]; rfl
  · rfl
def writeN (s : S23) (str : List UInt8) : Nat:=if endS s ≤ 1099511623680 - min (sY s) (str.length : Int) then (min (sY s) (str.length : Int)).toNat else 0
def rM (s : S23) (str : List UInt8) : S23:=⟨s.Base,s.Data ++ str.take (writeN s str),s.Next,s.Pieces,s.Lost,s.Closed,s.Sent,s.Again,s.Done⟩
theorem vY {s : S23} (h : G s) : 0 ≤ sY s ∧ sY s ≤ 4096 - (s.Data.length : Int):=by
  have hd:=h.dl
  unfold sY; split <;> omega
theorem aD9 {s : S23} (h : G s) (str : List UInt8) : (writeN s str : Int) ≤ sY s ∧ writeN s str ≤ str.length:=by
  have:=vY h
  unfold writeN; split <;> omega
theorem write23 {s : S23} (h : G s) (str : List UInt8) (hs : str.length ≤ 100000) : pW s str = some (rM s str,(writeN s str : Int)):=by
  have hp:=h.pl
  have hl:=h.ll
  have hr:=vY h
  have hd:=h.dl
  obtain ⟨n1,n2,n3,n4⟩:=h.num
  unfold pW
  rw [own23 (by omega) (by omega),bnoS,aFZ h,bnoS]
  simp only [bndD,decide_true,Bool.not_true,cK,aGy h,bnoS,aBO h,w64 (show -9223372036854775808 ≤ 1099511623680 - min (sY s) (str.length : Int) by omega) (by omega)]
  unfold rM writeN
  by_cases hc : endS s ≤ 1099511623680 - min (sY s) (str.length : Int)
  · rw [decide_eq_false (by omega), cK, if_pos hc]
    obtain ⟨k,hk⟩ : ∃ k : Nat,min (sY s) (str.length : Int) = (k : Int):=⟨(min (sY s) (str.length : Int)).toNat,by omega⟩
    have hkl : k ≤ str.length:=by omega
    have hcat : cat s.Data (str.take k) = some (s.Data ++ str.take k):=by unfold cat; rw [if_pos (by rw [List.length_take]; omega)]
    rw [hk,aGd hkl,bnoS,hcat,bnoS,Int.toNat_natCast]
  · rw [decide_eq_true (by omega), dO, if_neg hc]
    simp
theorem g_write {s : S23} (h : G s) (str : List UInt8) : G (rM s str) := by
  obtain ⟨k1,k2⟩:=aD9 h str
  have hr:=vY h
  obtain ⟨n1,n2,n3,n4⟩:=h.num
  have hd:=h.dl
  have hdl : (rM s str).Data.length = s.Data.length + writeN s str:=by show (s.Data ++ str.take _).length = _; rw [List.length_append,List.length_take]; omega
  have he : endS (rM s str) = endS s + writeN s str:=by unfold endS; rw [hdl]; show s.Base + _ = _; omega
  have hen : endS s + writeN s str ≤ 1099511623680:=by unfold writeN; split <;> omega
  have hcl : s.Closed = true → writeN s str = 0:=fun hc=>by
    have : sY s = 0:=by unfold sY; rw [if_pos hc]
    omega
  refine ⟨h.b0,h.bn,by rw [he]; show s.Next ≤ _; omega,by rw [he]; exact hen,by rw [hdl]; omega,h.lv,h.lb,h.pw,h.pb,h.pf,h.pd,fun p hp hF=>?_,h.fc,fun hS=>?_,h.ns,h.cov⟩
  · rw [he, h.fe p hp hF]
    have : s.Sent = true:=by
      cases hS : s.Sent
      · have hc := h.fc
        rw [hS] at hc; simp at hc
        have : p ∈ s.Pieces.filter (·.Fin):=List.mem_filter.2 ⟨hp,hF⟩
        rw [List.length_eq_zero_iff.1 hc] at this
        exact (List.not_mem_nil this).elim
      · rfl
    rw [hcl (h.se this).1]; omega
  · obtain ⟨a1, a2, a3⟩ := h.se hS
    refine ⟨a1,?_,a3⟩
    rw [he,hcl a1]; show s.Next = _; omega
end Go.Fn
open Go Go.IL
namespace Go.Fn
def dueS (s : S23) : Bool:=if (!s.Closed || s.Done) = true then false else s.Again || !s.Sent
def before (p q : Pc) : Bool:=decide (p.From < q.From) || (decide (q.From = p.From) && decide (p.To ≤ q.To))
structure Pk (s : S23) (p : Pc) (lost : List Iv) : Prop where
  lo : s.Base ≤ p.From
  le : p.From ≤ p.To
  nx : p.From ≤ s.Next
  hi : p.To ≤ endS s
  pa : 0 ≤ p.Path ∧ p.Path < 4
  em : p.From = p.To → p.From = s.Next ∧ p.Fin = true
  dj : ∀ q ∈ s.Pieces,∀ n,p.From ≤ n → n < p.To → ¬ (q.From ≤ n ∧ n < q.To)
  fi : p.Fin = (decide (p.To = endS s) && dueS s)
  lv : VS lost
  lb : ∀ x ∈ lost,s.Base ≤ x.From ∧ x.To ≤ s.Next
  lm : ∀ n,mem n lost ↔ mem n s.Lost ∧ ¬ (p.From ≤ n ∧ n < p.To)
end Go.Fn
open Go Go.IL
namespace Go.Fn
def aHE (s : S23) (n : Int) (fin : Bool) : Prop:=0 ≤ n ∧ n ≤ s.Next ∧ (fin = true → n = endS s ∧ s.Sent = true)
instance (s : S23) (n : Int) (fin : Bool) : Decidable (aHE s n fin):=by unfold aHE; infer_instance
structure DL (s : S23) (p : List Pc) (k : Int) (L : List Iv) : Prop where
  lv : VS L
  lb : ∀ x ∈ L,s.Base ≤ x.From ∧ x.To ≤ s.Next
  lm : ∀ n,mem n L ↔ mem n s.Lost ∨ ∃ q ∈ p,q.Path = k ∧ q.From ≤ n ∧ n < q.To
  le : (∀ q ∈ p,q.Path = k → q.From = q.To) → L = s.Lost
theorem DL.len {s : S23} (h : G s) {p : List Pc} {k : Int} {L : List Iv} (d : DL s p k L) : L.length ≤ 4096:=by
  have h1:=aCv d.lv.pw d.lv.ne d.lb h.bn
  have h2:=h.nd
  have h3:=h.dl
  unfold endS at h2; omega
end Go.Fn
open Go Go.IL
namespace Go.Fn
structure Went (s s' : S23) : Prop where
  g : G s'
  base : s.Base ≤ s'.Base
  data : s'.Data = s.Data.drop (s'.Base - s.Base).toNat
  next : s.Next ≤ s'.Next
  done : s.Done = true → s'.Done = true
  en : endS s' = endS s
theorem Went.refl {s : S23} (h : G s) : Went s s:=⟨h,Int.le_refl _,by simp,Int.le_refl _,id,rfl⟩
structure All (s : S23) (all : List UInt8) : Prop where
  g : G s
  data : s.Data = all.drop s.Base.toNat
  len : (all.length : Int) = endS s
end Go.Fn
open Go Go.IL
namespace Go.Fn
end Go.Fn
open Go Go.IL
namespace Go.Fn
end Go.Fn
open Go Go.IL
namespace Go.Fn
def sl (W : List UInt8) (a b : Int) : List UInt8:=(W.take b.toNat).drop a.toNat
theorem aEV {W : List UInt8} {a b : Int} (h0 : 0 ≤ a) (h1 : a ≤ b) (h2 : b ≤ (W.length : Int)) : ((sl W a b).length : Int) = b - a:=by
  unfold sl; rw [List.length_drop,List.length_take]; omega
theorem sl_nil {W : List UInt8} {a b : Int} (h : b ≤ a) : sl W a b = []:=by
  unfold sl; rw [List.drop_eq_nil_iff,List.length_take]; omega
end Go.Fn
open Go Go.IL
namespace Go.Fn
def jB (u : Iv) : List Iv → Iv × List Iv
  | []=>(u,[])
  | p :: r=>if u.To < p.From then (u,p :: r) else jB ⟨min u.From p.From,max u.To p.To⟩ r
structure Jd (u : Iv) (R : List Iv) (v : Iv) (C : List Iv) (B : List Iv) : Prop where
  sp : R = B ++ C
  f : v.From ≤ u.From
  t : u.To ≤ v.To
  c : ∀ y ∈ C,v.To < y.From
  m : ∀ n,(v.From ≤ n ∧ n < v.To) ↔ ((u.From ≤ n ∧ n < u.To) ∨ mem n B)
  vf : v.From = u.From ∨ ∃ y ∈ B,v.From = y.From
  vt : v.To = u.To ∨ ∃ y ∈ B,v.To = y.To
theorem mem_cons {n : Int} {y : Iv} {p : List Iv} : mem n (y :: p) ↔ (y.From ≤ n ∧ n < y.To) ∨ mem n p:=by
  unfold mem
  constructor
  · rintro ⟨x, hx, h⟩
    rcases List.mem_cons.1 hx with rfl | hx
    · exact .inl h
    · exact .inr ⟨x,hx,h⟩
  · rintro (h | ⟨x, hx, h⟩)
    · exact ⟨y,by simp,h⟩
    · exact ⟨x,by simp [hx],h⟩
def jA (x : Iv) (l : List Iv) : List Iv:=l.takeWhile fun p=>decide (p.To < x.From)
def jR (x : Iv) (l : List Iv) : List Iv:=l.dropWhile fun p=>decide (p.To < x.From)
def joinI (x : Iv) (l : List Iv) : List Iv:=jA x l ++ [(jB x (jR x l)).1] ++ (jB x (jR x l)).2
structure Joined (x : Iv) (l : List Iv) (A : List Iv) (v : Iv) (B C : List Iv) : Prop where
  e : joinI x l = A ++ [v] ++ C
  sp : l = A ++ (B ++ C)
  j : Jd x (B ++ C) v C B
  a : ∀ y ∈ A,y.To < x.From
  av : ∀ y ∈ A,y.To < v.From
def aDU (b : Int) (l : List Iv) (h : Int) : Prop:=b ≤ h ∧ (∀ y ∈ l,y.To ≤ h) ∧ (h = b ∨ ∃ y ∈ l,y.To = h)
end Go.Fn
open Go Go.IL
namespace Go.Fn
abbrev Pt:=cE
abbrev R12:=cM
def pt (W : List UInt8) (x : Iv) : Pt:=⟨x.From,sl W x.From x.To⟩
theorem pt_end {W : List UInt8} {x : Iv} (h0 : 0 ≤ x.From) (h1 : x.From < x.To) (h2 : x.To ≤ (W.length : Int)) (hw : W.length ≤ 100000) : lC (pt W x) = some x.To:=by
  have:=aEV (W:=W) h0 (by omega : x.From ≤ x.To) h2
  unfold lC pt
  simp only [bndD,this,w64 (show -9223372036854775808 ≤ x.From + (x.To - x.From) by omega) (by omega)]
  congr 1; omega
structure RQ (W : List UInt8) (I : List Iv) (s : R12) : Prop where
  wl : W.length ≤ 100000
  b0 : 0 ≤ s.Base
  bw : s.Base ≤ (W.length : Int)
  rl : (s.Ready.length : Int) ≤ s.Base
  rm : s.Ready.length ≤ 4096
  rd : s.Ready = sl W (s.Base - s.Ready.length) s.Base
  ps : s.Parts = I.map (pt W)
  vs : VS I
  ib : ∀ x ∈ I,s.Base < x.From ∧ x.To ≤ (W.length : Int)
  lim : ∀ x ∈ I,x.To ≤ s.Base - s.Ready.length + 4096
theorem RQ.il {W : List UInt8} {I : List Iv} {s : R12} (h : RQ W I s) : I.length ≤ 100000:=by
  have:=aCv h.vs.pw h.vs.ne (fun x hx=>⟨by have:=(h.ib x hx).1; omega,(h.ib x hx).2⟩) h.bw
  have:=h.wl; have:=h.b0
  omega
theorem RQ.pl {W : List UInt8} {I : List Iv} {s : R12} (h : RQ W I s) : s.Parts.length ≤ 100000:=by rw [h.ps,List.length_map]; exact h.il
theorem rlimit {W : List UInt8} {I : List Iv} {s : R12} (h : RQ W I s) : oV s = some (s.Base - s.Ready.length + 4096):=by
  have a:=h.wl; have b:=h.b0; have c:=h.bw; have d:=h.rl
  unfold oV
  simp only [bndD,w64 (show -9223372036854775808 ≤ s.Base - (s.Ready.length : Int) by omega) (by omega),w64 (show -9223372036854775808 ≤ s.Base - (s.Ready.length : Int) + 4096 by omega) (by omega)]
  congr 1; omega
theorem aC7 {W : List UInt8} {I : List Iv} {s : R12} (h : RQ W I s) : ∀ (r p : List Iv) (f : Nat) (e : Int),I = p ++ r → r.length < f → (∀ y ∈ r,e < y.From) → gN s (s.Base - s.Ready.length + 4096) f e (p.length : Int) = some 0
  | [], p, f + 1, e, hs, _, _ => by
    have h1 : s.Parts = p.map (pt W) ++ []:=by rw [h.ps,hs,List.map_append]; rfl
    have h2:=zQ h1
    rw [List.length_map] at h2
    unfold gN
    simp only [bndD,h2,cK]
  | x :: r, p, f + 1, e, hs, hf, he => by
    have h1 : s.Parts = p.map (pt W) ++ pt W x :: r.map (pt W):=by rw [h.ps,hs,List.map_append]; rfl
    have h2:=tT h1
    have h3:=lG h1
    have h4:=w_at h1 (by have:=h.pl; omega)
    rw [List.length_map] at h2 h3 h4
    have h5 : ((p.map (pt W) ++ [pt W x]).length : Int) = ((p ++ [x]).length : Int):=by simp
    rw [h5] at h4
    have hx : x ∈ I:=by rw [hs]; simp
    have a:=h.wl; have b:=h.b0; have c:=h.bw; have d:=h.rl
    have i1:=h.ib x hx; have i2:=h.vs.ne x hx; have i3:=h.lim x hx
    have hl:=aEV (W:=W) (show 0 ≤ x.From by omega) (by omega : x.From ≤ x.To) i1.2
    have he1:=he x (by simp)
    have hne : (pt W x).Data ≠ []:=fun hq=>by
      have hq : sl W x.From x.To = []:=hq
      rw [hq] at hl; simp at hl; omega
    have hat : (pt W x).At = x.From:=rfl
    have hdl : ((pt W x).Data.length : Int) = x.To - x.From:=hl
    unfold gN
    simp only [bndD,h2,dO,h3,bnoS,hat,decide_eq_false (show ¬ x.From ≤ e by omega),decide_eq_false hne,Bool.or_self,decide_eq_false (show ¬ s.Base - (s.Ready.length : Int) + 4096 < x.From by omega),w64 (show -9223372036854775808 ≤ s.Base - (s.Ready.length : Int) + 4096 - x.From by omega) (by omega),hdl,decide_eq_false (show ¬ s.Base - (s.Ready.length : Int) + 4096 - x.From < x.To - x.From by omega),cK,pt_end (show 0 ≤ x.From by omega) i2 i1.2 a,h4]
    refine aC7 h r (p ++ [x]) f x.To (jZ hs) (by simpa using hf) (fun y hy=>?_)
    have:=h.vs.pw
    rw [hs] at this
    exact (List.pairwise_cons.1 (List.pairwise_append.1 this).2.1).1 y hy
theorem rcheck {W : List UInt8} {I : List Iv} {s : R12} (h : RQ W I s) : oW s = some 0:=by
  have a:=h.wl; have b:=h.b0; have c:=h.bw; have d:=h.rl; have e:=h.rm
  unfold oW
  simp only [bndD,decide_eq_false (show ¬ s.Base < 0 by omega),decide_eq_false (show ¬ 1099511627776 < s.Base by omega),Bool.or_self,decide_eq_false (show ¬ min s.Base 4096 < (s.Ready.length : Int) by omega),cK,rlimit h,bnoS]
  exact aC7 h I [] fuel s.Base rfl (fB (by have:=h.il; omega)) (fun y hy=>(h.ib y hy).1)
theorem rhigh {W : List UInt8} {I : List Iv} {s : R12} (h : RQ W I s) (e : Int) : ∃ k, hB ⟨s, e⟩ = some k ∧ aDU s.Base I k := by
  unfold hB
  rcases List.eq_nil_or_concat I with hI | ⟨p,y,hI⟩
  · have hp : s.Parts = [] := by rw [h.ps, hI]; rfl
    refine ⟨s.Base,?_,Int.le_refl _,fun y hy=>by rw [hI] at hy; exact (List.not_mem_nil hy).elim,.inl rfl⟩
    simp only [bndD,hp,List.length_nil,show decide ((0 : Int) < ((0 : Nat) : Int)) = false from rfl,cK]
  · rw [List.concat_eq_append] at hI
    have hp : s.Parts = p.map (pt W) ++ [pt W y]:=by rw [h.ps,hI,List.map_append]; rfl
    have hpl:=h.pl
    have hlen : (s.Parts.length : Int) = (p.length : Int) + 1:=by rw [hp]; simp
    have hg : gix s.Parts (p.length : Int) = some (pt W y):=by
      have:=lG (r:=[]) hp
      rwa [List.length_map] at this
    have hy : y ∈ I:=by rw [hI]; simp
    have a:=h.wl; have b:=h.b0
    have i1:=h.ib y hy; have i2:=h.vs.ne y hy
    have hl:=aEV (W:=W) (show 0 ≤ y.From by omega) (by omega : y.From ≤ y.To) i1.2
    have hdl : ((pt W y).Data.length : Int) = y.To - y.From:=hl
    have hat : (pt W y).At = y.From:=rfl
    have hw : IntKind.wrap .i64 ((s.Parts.length : Int) - 1) = (p.length : Int):=by rw [hlen,w64 (by omega) (by omega)]; omega
    refine ⟨y.To,?_,by omega,fun z hz=>?_,.inr ⟨y,hy,rfl⟩⟩
    · simp only [bndD, decide_eq_true (show (0 : Int) < (s.Parts.length : Int) by omega), dO, hw, hg, bnoS, hat, hdl, w64 (show -9223372036854775808 ≤ y.From + (y.To - y.From) by omega) (by omega)]
      have q : y.From + (y.To - y.From) = y.To:=by omega
      rw [q]
    · rw [hI] at hz
      rcases List.mem_append.1 hz with hz | hz
      · have := h.vs.pw
        rw [hI] at this
        have:=(List.pairwise_append.1 this).2.2 z hz y (by simp)
        omega
      · rw [List.mem_singleton.1 hz]; exact Int.le_refl _
theorem aG9 {s : R12} (hl : s.Parts.length ≤ 100000) : ∀ (r p : List Pt) (f : Nat) (v : Int),s.Parts = p ++ r → r.length < f → ∃ n,mD s f v (p.length : Int) = some n
  | [], p, f + 1, v, hs, _ => by
    unfold mD
    simp only [bndD,zQ hs,cK]
    exact ⟨_,rfl⟩
  | x :: r, p, f + 1, v, hs, hf => by
    unfold mD
    simp only [bndD,tT hs,dO,lG hs,bnoS,w_at hs (by omega)]
    exact aG9 hl r (p ++ [x]) f _ (jZ hs) (by simpa using hf)
theorem held {s : R12} (hl : s.Parts.length ≤ 100000) : ∃ n,aDg s = some n:=aG9 hl s.Parts [] fuel _ rfl (fB (by omega))
structure JI (W : List UInt8) (I : List Iv) : Prop where
  wl : W.length ≤ 100000
  il : I.length ≤ 100000
  pw : I.Pairwise (fun x y=>x.To < y.From)
  ne : ∀ x ∈ I,x.From < x.To
  lo : ∀ x ∈ I,0 ≤ x.From
  hi : ∀ x ∈ I,x.To ≤ (W.length : Int)
end Go.Fn
open Go Go.IL
namespace Go.Fn
structure Puts (W : List UInt8) (s s' : R12) (I I' : List Iv) (at_ to : Int) : Prop where
  rq : RQ W I' s'
  rd : s'.Base - s'.Ready.length = s.Base - s.Ready.length
  hi : ∀ h,aDU s.Base I h → aDU s'.Base I' (if at_ < to then max h to else h)
  bs : s.Base ≤ s'.Base
  hs : ∀ n,(n < s.Base ∨ mem n I ∨ (at_ ≤ n ∧ n < to)) → n < s'.Base ∨ mem n I'
  hc : ∀ n,(n < s'.Base ∨ mem n I') → n < s.Base ∨ mem n I ∨ (at_ ≤ n ∧ n < to)
end Go.Fn
open Go Go.IL
namespace Go.Fn
abbrev St25:=bU
abbrev Lg:=eP
def LgOk (l : Lg) : Prop:=0 ≤ l.Read ∧ l.Read ≤ l.Used ∧ l.Used ≤ l.Limit ∧ l.Limit ≤ 1000000 ∧ 1 ≤ l.Window ∧ l.Window ≤ 4096
structure SG (st : St25) (W : List UInt8) (I : List Iv) (k : Int) : Prop where
  id : st.ID = 5
  mi : -1 ≤ st.Mine ∧ st.Mine ≤ 255
  he : -1 ≤ st.Hers ∧ st.Hers ≤ 255
  oo : LgOk st.Out
  io : LgOk st.In
  g : G st.Send
  rq : RQ W I st.Recv.Recv
  hi : aDU st.Recv.Recv.Base I k
  en : st.Recv.End = -1 ∨ (k ≤ st.Recv.End ∧ st.Recv.End ≤ 1000000)
  ou : st.Out.Used = st.Send.Next
  iu : st.In.Used = max st.Recv.End k
  ir : st.In.Read = st.Recv.Recv.Base - st.Recv.Recv.Ready.length
  il : st.In.Limit ≤ st.In.Read + st.In.Window
end Go.Fn
open Go Go.IL
namespace Go.Fn
section
variable {st : St25} {W : List UInt8} {I : List Iv} {k : Int}
end
end Go.Fn
open Go Go.IL
namespace Go.Fn
abbrev Ln:=vR
end Go.Fn
open Go Go.IL
namespace Go.Fn
structure LI (w : Int) (n m : Nat) (l : Ln) (I : List Iv) (k : Int) : Prop where
  sa : SG l.a [] [] 0
  sb : SG l.b l.wrote I k
  am : l.a.Mine = -1 ∧ l.a.Hers = -1
  bm : l.b.Mine = -1 ∧ l.b.Hers = -1
  al : All l.a.Send l.wrote
  en : l.b.Recv.End = -1 ∨ (l.b.Recv.End = (l.wrote.length : Int) ∧ l.a.Send.Closed = true ∧ l.a.Send.Next = (l.wrote.length : Int) ∧ l.a.Send.Sent = true)
  kn : k ≤ l.a.Send.Next
  gi : l.a.Out.Limit + l.given = l.b.In.Limit ∧ 0 ≤ l.given
  bw : l.b.In.Window = w
  wn : ∀ q ∈ l.went,0 ≤ q.at_ ∧ ∃ to,q.at_ ≤ to ∧ to ≤ l.a.Send.Next ∧ q.s = sl l.wrote q.at_ to ∧ (q.fin = true → l.a.Send.Closed = true ∧ to = (l.wrote.length : Int) ∧ l.a.Send.Sent = true)
  rd : l.read = sl l.wrote 0 l.b.In.Read
  fi : l.end_ = true → l.b.In.Read = (l.wrote.length : Int) ∧ l.a.Send.Closed = true ∧ l.b.Recv.End = (l.wrote.length : Int)
  wb : l.wrote.length ≤ 100 * n
  ml : l.went.length ≤ m
  ab : l.a.Send.Base ≤ l.b.Recv.Recv.Base
  dn : l.a.Send.Done = true → l.b.Recv.End = (l.wrote.length : Int)
theorem LI.mono {w : Int} {n m n' m' : Nat} {l : Ln} {I : List Iv} {k : Int} (h : LI w n m l I k) (hn : n ≤ n') (hm : m ≤ m') : LI w n' m' l I k :=
  ⟨h.sa,h.sb,h.am,h.bm,h.al,h.en,h.kn,h.gi,h.bw,h.wn,h.rd,h.fi,by have:=h.wb; omega,by have:=h.ml; omega,h.ab,h.dn⟩
theorem LI.nx {w : Int} {n m : Nat} {l : Ln} {I : List Iv} {k : Int} (h : LI w n m l I k) : l.a.Send.Next ≤ (l.wrote.length : Int):=by rw [h.al.len]; exact h.al.g.nd
section
variable {w : Int} {n m : Nat} {l : Ln} {I : List Iv} {k : Int}
end
end Go.Fn
open Go Go.IL
namespace Go.Fn
section
variable {w : Int} {n m : Nat} {l : Ln} {I : List Iv} {k : Int}
end
end Go.Fn
open Go Go.IL
namespace Go.Fn
section
variable {w : Int} {n m : Nat} {l : Ln} {I : List Iv} {k : Int}
end
end Go.Fn
open Go Go.IL
namespace Go.Fn
theorem aF5 {W : List UInt8} {I : List Iv} {s : R12} (h : RQ W I s) : oQ ⟨s,-1⟩ = some 0:=by
  obtain ⟨k,e,hk⟩:=rhigh h (-1)
  unfold oQ uL uK
  have e : hB ⟨s,-1⟩ = some k:=e
  simp only [rcheck h,bnoS,bndD,decide_true,Bool.not_true,cK,e]
  simp only [Bool.not_true,ft,gdff,bnoS,Bool.false_and,cK]
end Go.Fn
open Go Go.IL
namespace Go.Fn
abbrev Ct:=dM
abbrev Fr:=aD
def carB (k : Int) : Bool:=decide (k = 1) || (decide (k = 2) || (decide (k = 3) || (decide (k = 4) || (decide (k = 6) || (decide (k = 7) || decide (k = 8))))))
theorem aD5 (k : Int) : mC k = some (carB k) := by
  unfold mC carB
  simp only [bndD]
  cases decide (k = 1)
  · cases decide (k = 2)
    · cases decide (k = 3)
      · cases decide (k = 4)
        · cases decide (k = 6)
          · cases decide (k = 7)
            · cases decide (k = 8) <;> rfl
            · rfl
          · rfl
        · rfl
      · rfl
    · rfl
  · rfl
theorem aDQ {st : Ct} {W : List UInt8} {I : List Iv} (hg : G st.Send) (hc : st.Send.Closed = false) (hr : RQ W I st.Recv.Recv) (he : st.Recv.End = -1) (hz : st.Recv.Recv.Ready = []) {s : List UInt8} (hi : st.In = stOf s) (hb : (eat s).2.2 = 0) (hs : s.length ≤ 1000000) : iG st = some 0:=by
  have e : st.Recv = ⟨st.Recv.Recv,-1⟩:=by rw [← he]
  have hra : oQ st.Recv = some 0:=by rw [e]; exact aF5 hr
  have hbad : st.In.Bad = 0:=by rw [hi]; exact hb
  have hin : kU st.In = some 0:=by rw [hi]; exact aD4 hs
  unfold iG
  simp only [aFZ hg,bnoS,bndD,decide_true,Bool.not_true,cK,hra,hin,hc,he,hz,hbad,show decide ((0 : Int) ≤ -1) = false from rfl,Bool.or_self]
end Go.Fn
open Go Go.IL
namespace Go.Fn
def recv0 : eO:=⟨⟨0,[],[]⟩,-1⟩
def ct0 : Ct:=⟨new23,recv0,⟨[],0,0⟩⟩
theorem new29 : rB = some ct0:=rfl
theorem rq0 {W : List UInt8} (hW : W.length ≤ 100000) : RQ W [] ⟨0,[],[]⟩ :=
  ⟨hW,Int.le_refl _,by show (0 : Int) ≤ W.length; omega,by show (([] : List UInt8).length : Int) ≤ 0; decide,by show ([] : List UInt8).length ≤ 4096; decide,by show ([] : List UInt8) = sl W (0 - (([] : List UInt8).length : Int)) 0; rw [sl_nil (by decide)],rfl,VS.nil,fun _ h=>(List.not_mem_nil h).elim,fun _ h=>(List.not_mem_nil h).elim⟩
theorem chk0 : iG ct0 = some 0:=aDQ (W:=[]) (I:=[]) (s:=[]) g_new rfl (rq0 (by decide)) rfl rfl st0 (by rw [aBP rfl]) (by decide)
def sendL (b : List UInt8) : S23:=⟨0,b,0,[],[],false,false,false,false⟩
structure PI (sent : List Fr) : Prop where
  fr : ∀ f ∈ sent,Fine f ∧ carB f.Kind = true
  pr : ∀ f ∈ sent,f.Pairs.length ≤ 10
  g : G (sendL (cats sent))
end Go.Fn
open Go Go.IL
namespace Go.Fn
def dig (m : Nat) : UInt8:=UInt8.ofNat (48 + m % 10)
theorem sH {k m : Nat} (h : 10 ≤ m) : decF (k + 1) m = decF k (m / 10) ++ [dig m]:=by
  rw [decF,decide_eq_false (by omega)]; rfl
theorem mP {k m : Nat} (h : m < 10) : decF k m = [dig m]:=by
  have e : dig m = UInt8.ofNat (48 + m):=by unfold dig; rw [Nat.mod_eq_of_lt h]
  cases k with
  | zero=>rw [decF,e]
  | succ k=>rw [decF,decide_eq_true h,e]; rfl
theorem yD : ∀ (k m : Nat),(decF k m).length ≤ k + 1
  | 0,_=>by simp [decF]
  | k + 1, m => by
    rw [decF]
    cases decide (m < 10)
    · show (decF k (m / 10) ++ [_]).length ≤ _
      rw [List.length_append]; have:=yD k (m / 10); simp; omega
    · show [_].length ≤ _
      simp
theorem aFU : ∀ (k m : Nat),decF k m ≠ []
  | 0,_=>by simp [decF]
  | k + 1, m => by
    rw [decF]
    cases decide (m < 10)
    · show decF k (m / 10) ++ [_] ≠ []
      simp
    · show [_] ≠ []
      simp
def J64 (n : Int) : Prop:=-9223372036854775808 ≤ n ∧ n ≤ 9223372036854775807
theorem itoa33 {n : Int} (h : J64 n) : strconv_Itoa n = some (kT n):=by
  unfold strconv_Itoa aE8
  rw [decide_eq_true h.1,decide_eq_true h.2]; rfl
theorem aBy (n : Int) : (kT n).length ≤ 21:=by
  unfold kT
  cases decide (n < 0)
  · have := yD 19 n.toNat
    show (decF 19 n.toNat).length ≤ 21
    omega
  · have := yD 19 n.natAbs
    show (45 :: decF 19 n.natAbs).length ≤ 21
    simp; omega
def aFA (b : UInt8) : Prop:=48 ≤ b.toNat ∧ b.toNat ≤ 57
theorem aFS (m : Nat) : aFA (dig m):=by
  have h : m % 10 < 10:=Nat.mod_lt _ (by decide)
  unfold aFA dig
  rw [UInt8.toNat_ofNat']
  omega
theorem aBQ : ∀ (k m : Nat), m < 10 ^ (k + 1) → ∀ b ∈ decF k m, aFA b
  | 0, m, h, b, hb => by
    rw [mP (by simpa using h)] at hb
    rw [List.mem_singleton.1 hb]; exact aFS m
  | k + 1, m, h, b, hb => by
    by_cases h1 : m < 10
    · rw [mP h1] at hb
      rw [List.mem_singleton.1 hb]; exact aFS m
    · rw [sH (by omega)] at hb
      rcases List.mem_append.1 hb with hb | hb
      · refine aBQ k (m / 10) ?_ b hb
        have : 10 ^ (k + 1 + 1) = 10 ^ (k + 1) * 10:=Nat.pow_succ ..
        omega
      · rw [List.mem_singleton.1 hb]; exact aFS m
theorem aE9 {n : Int} (h0 : 0 ≤ n) (h1 : n ≤ 9223372036854775807) : ∀ b ∈ kT n,aFA b:=by
  have hp : 10 ^ (19 + 1) = 100000000000000000000:=by decide
  unfold kT
  rw [decide_eq_false (by omega),cK]
  exact aBQ 19 n.toNat (by rw [hp]; omega)
theorem aCG : ∀ (j k m : Nat), m < 10 ^ (j + 1) → j ≤ k → decF k m = decF j m
  | 0, k, m, h, _ => by
    have h : m < 10:=by simpa using h
    rw [mP h,mP h]
  | j + 1, k, m, h, hj => by
    obtain ⟨k,rfl⟩ : ∃ i,k = i + 1:=⟨k - 1,by omega⟩
    by_cases h1 : m < 10
    · rw [mP h1,mP h1]
    · rw [sH (by omega),sH (by omega),aCG j k (m / 10) (by
        have : 10 ^ (j + 1 + 1) = 10 ^ (j + 1) * 10:=Nat.pow_succ ..
        omega) (by omega)]
theorem aGI {n : Int} (h0 : 0 ≤ n) (j : Nat) (h : n.toNat < 10 ^ (j + 1)) (hj : j ≤ 19) : kT n = decF j n.toNat:=by
  unfold kT
  rw [decide_eq_false (by omega),cK,aCG j 19 _ h hj]
def valS (s : List UInt8) : Nat:=s.foldl (fun n b=>10 * n + (b.toNat - 48)) 0
theorem aAl (s : List UInt8) (b : UInt8) : valS (s ++ [b]) = 10 * valS s + (b.toNat - 48):=by unfold valS; rw [List.foldl_append]; rfl
theorem aAH (m : Nat) : (dig m).toNat - 48 = m % 10:=by
  have h : m % 10 < 10:=Nat.mod_lt _ (by decide)
  unfold dig
  rw [UInt8.toNat_ofNat']
  omega
theorem aDK : ∀ (k m : Nat), m < 10 ^ (k + 1) → valS (decF k m) = m
  | 0, m, h => by
    have h : m < 10:=by simpa using h
    rw [mP h]
    show 10 * 0 + ((dig m).toNat - 48) = m
    rw [aAH]; omega
  | k + 1, m, h => by
    by_cases h1 : m < 10
    · rw [mP h1]
      show 10 * 0 + ((dig m).toNat - 48) = m
      rw [aAH]; omega
    · rw [sH (by omega), aAl, aAH, aDK k (m / 10) (by
        have : 10 ^ (k + 1 + 1) = 10 ^ (k + 1) * 10:=Nat.pow_succ ..
        omega)]
      omega
theorem aCH : ∀ (k m : Nat), 0 < m → m < 10 ^ (k + 1) → (decF k m)[0]? ≠ some 48
  | 0, m, h0, h => by
    have h : m < 10:=by simpa using h
    rw [mP h]
    intro e
    have e : dig m = 48:=Option.some.inj e
    have:=aAH m
    rw [e] at this
    have : (48 : UInt8).toNat - 48 = 0:=by decide
    omega
  | k + 1, m, h0, h => by
    by_cases h1 : m < 10
    · rw [mP h1]
      intro e
      have e : dig m = 48:=Option.some.inj e
      have:=aAH m
      rw [e] at this
      have : (48 : UInt8).toNat - 48 = 0:=by decide
      omega
    · rw [sH (by omega), List.getElem?_append_left (by have := aFU k (m / 10); exact List.length_pos_iff.2 this)]
      exact aCH k (m / 10) (by omega) (by
        have : 10 ^ (k + 1 + 1) = 10 ^ (k + 1) * 10:=Nat.pow_succ ..
        omega)
end Go.Fn
open Go Go.IL
namespace Go.Fn
abbrev Cf:=bF
abbrev Vl:=bL
theorem aFi : iU = some true:=by kernel_rfl
def okV (v : Vl) : Prop:=(0 ≤ v.Streams ∧ v.Streams ≤ 8) ∧ (1 ≤ v.Window ∧ v.Window ≤ 4096) ∧ (1 ≤ v.Whole ∧ v.Whole ≤ 1048576) ∧ 1 ≤ v.Chunk ∧ v.Chunk ≤ 32
instance (v : Vl) : Decidable (okV v):=by unfold okV; infer_instance
def aD3 (a lo hi : Int) : Int:=max lo (min a hi)
theorem yF {a lo hi : Int} (h : lo ≤ hi) : decide (a = aD3 a lo hi) = decide (lo ≤ a ∧ a ≤ hi):=by
  unfold aD3
  rw [Bool.eq_iff_iff,decide_eq_true_iff,decide_eq_true_iff]
  omega
theorem tbent (r : dN) : lW r = some ⟨aD3 r.c0 0 8,aD3 r.c1 1 4096,aD3 r.c2 1 1048576,aD3 r.c3 1 32⟩:=by
  obtain ⟨m,hm⟩ : ∃ m,fuel = m + 1 + 1 + 1 + 1 + 1:=⟨2 ^ 64 - 5,by show 2 ^ 64 = _; omega⟩
  unfold lW
  rw [show uB = some ((⟨0,1,1,1⟩ : dN),(⟨8,4096,1048576,32⟩ : dN)) from rfl,bnoS,hm]
  rfl
theorem aC1 (v : Vl) : kN v = some (if okV v then 0 else 8):=by
  unfold kN
  rw [show gS v = some (⟨v.Streams,v.Window,v.Whole,v.Chunk⟩ : dN) from rfl,bnoS,tbent,bnoS,bndD]
  simp only [yF (show (0 : Int) ≤ 8 by decide),yF (show (1 : Int) ≤ 4096 by decide),yF (show (1 : Int) ≤ 1048576 by decide),yF (show (1 : Int) ≤ 32 by decide)]
  by_cases h : okV v
  · rw [if_pos h]
    obtain ⟨h1,h2,h3,h4⟩:=h
    rw [decide_eq_true h1,decide_eq_true h2,decide_eq_true h3,decide_eq_true h4]; rfl
  · rw [if_neg h]
    have : (decide (0 ≤ v.Streams ∧ v.Streams ≤ 8) && (decide (1 ≤ v.Window ∧ v.Window ≤ 4096) && (decide (1 ≤ v.Whole ∧ v.Whole ≤ 1048576) && (decide (1 ≤ v.Chunk ∧ v.Chunk ≤ 32) && true)))) = false:=by
      rw [← Bool.not_eq_true]
      intro hh
      simp only [Bool.and_eq_true,decide_eq_true_iff,Bool.and_true] at hh
      exact h ⟨hh.1,hh.2.1,hh.2.2.1,hh.2.2.2⟩
    rw [this]; rfl
def okC (c : Cf) : Prop:=(1 ≤ c.Paths ∧ c.Paths ≤ 4) ∧ okV c.Values.c0 ∧ okV c.Values.c1
instance (c : Cf) : Decidable (okC c):=by unfold okC; infer_instance
theorem vO (c : Cf) : gR c = some (if okC c then 0 else 8) := by
  obtain ⟨m,hm⟩ : ∃ m,fuel = m + 1 + 1 + 1:=⟨2 ^ 64 - 3,by show 2 ^ 64 = _; omega⟩
  unfold gR
  simp only [bndD]
  by_cases h1 : 1 ≤ c.Paths ∧ c.Paths ≤ 4
  · rw [decide_eq_false (by omega), decide_eq_false (by omega), Bool.or_self, cK, hm, fX]
    simp only [bndD,show decide ((0 : Int) < 2) = true from rfl,dO,show gix [c.Values.c0,c.Values.c1] 0 = some c.Values.c0 from rfl,bnoS,aC1]
    by_cases h2 : okV c.Values.c0
    · rw [if_pos h2]
      simp only [decide_true,Bool.not_true,cK,show IntKind.wrap .i64 ((0 : Int) + 1) = 1 from rfl,show decide ((1 : Int) < 2) = true from rfl,dO,show gix [c.Values.c0,c.Values.c1] 1 = some c.Values.c1 from rfl,bnoS]
      rw [fX]
      simp only [bndD,show decide ((1 : Int) < 2) = true from rfl,dO,show gix [c.Values.c0,c.Values.c1] 1 = some c.Values.c1 from rfl,bnoS,aC1]
      by_cases h3 : okV c.Values.c1
      · rw [if_pos h3, if_pos (show okC c from ⟨h1, h2, h3⟩)]
        simp only [decide_true,Bool.not_true,cK,show IntKind.wrap .i64 ((1 : Int) + 1) = 2 from rfl]
        rw [fX]; rfl
      · rw [if_neg h3,if_neg (show ¬ okC c from fun h=>h3 h.2.2)]; rfl
    · rw [if_neg h2,if_neg (show ¬ okC c from fun h=>h2 h.2.1)]; rfl
  · rw [if_neg (show ¬ okC c from fun h => h1 h.1)]
    have e1 : (decide (c.Paths < 1) || decide (4 < c.Paths)) = true:=by rw [Bool.or_eq_true,decide_eq_true_iff,decide_eq_true_iff]; omega
    rw [e1,dO]
def mH (l : List Int) : List UInt8:=l.flatMap fun n=>32 :: kT n
def oD (l : List Int) : List UInt8:=mH l ++ [10]
theorem sA : ∀ l : List Int,(mH l).length ≤ 22 * l.length
  | []=>Nat.le_refl _
  | n :: l => by
    have h1:=sA l
    have h2:=aBy n
    show ((32 :: kT n) ++ mH l).length ≤ _
    rw [List.length_append,List.length_cons,List.length_cons]; omega
theorem aEu (a b : List Int) : mH (a ++ b) = mH a ++ mH b:=by unfold mH; rw [List.flatMap_append]
theorem aEt (n : Int) : mH [n] = 32 :: kT n:=by simp [mH]
theorem aG6 {key : List UInt8} (hk : key.length ≤ 100) {l : List Int} (hl : l.length ≤ 10) (h64 : ∀ n ∈ l,J64 n) : ∀ (r p : List Int) (f : Nat),l = p ++ r → r.length < f → gQ l f (key ++ mH p) (p.length : Int) = some (key ++ oD l)
  | [], p, f + 1, h, _ => by
    have e : p = l:=by rw [h,List.append_nil]
    have:=sA p
    rw [e] at this ⊢
    rw [gQ]
    simp only [bndD,vB,cK,mW (a:=key ++ mH l) (b:=[10]) (by simp; omega),bnoS]
    unfold oD
    rw [List.append_assoc]
  | n :: r, p, f + 1, h, hf => by
    have h1:=sA p
    have h2:=aBy n
    have hp : p.length ≤ 10:=by rw [h] at hl; simp at hl; omega
    have hrec:=aG6 hk hl h64 r (p ++ [n]) f (jZ h) (by simpa using hf)
    rw [gQ]
    simp only [bndD,tT h,dO,lG h,bnoS,itoa33 (h64 n (by rw [h]; simp)),mW (a:=[32]) (b:=kT n) (by simp; omega),mW (a:=key ++ mH p) (b:=[32] ++ kT n) (by simp; omega),w_at h (by omega)]
    rw [aEu,aEt,← List.append_assoc] at hrec
    exact hrec
theorem aBv {key : List UInt8} (hk : key.length ≤ 100) {l : List Int} (hl : l.length ≤ 10) (h64 : ∀ n ∈ l,J64 n) : gJ key l = some (key ++ oD l):=by
  have:=aG6 hk hl h64 l [] fuel rfl (fB (by omega))
  unfold gJ
  rw [show key = key ++ mH [] by simp [mH]]
  have e : (key ++ mH [] : List UInt8) ++ oD l = key ++ oD l:=by simp [mH]
  rw [e]; exact this
def kP : List UInt8:=[112,97,116,104,115]
def kV : List UInt8:=[118,97,108,117,101,115]
def kF : List UInt8:=[102,105,114,115,116]
def valL (i : Int) (v : Vl) : List UInt8:=kV ++ oD [i,v.Streams,v.Window,v.Whole,v.Chunk]
def fstL (i n : Int) : List UInt8:=kF ++ oD [i,n]
def uD (c : Cf) : List UInt8:=kP ++ oD [c.Paths] ++ valL 0 c.Values.c0 ++ valL 1 c.Values.c1 ++ fstL 0 c.First.c0 ++ fstL 1 c.First.c1
def F32 (c : Cf) : Prop:=(0 ≤ c.First.c0 ∧ c.First.c0 ≤ 4294967295) ∧ 0 ≤ c.First.c1 ∧ c.First.c1 ≤ 4294967295
theorem zR (l : List Int) : (oD l).length ≤ 22 * l.length + 1:=by
  have:=sA l
  unfold oD; rw [List.length_append]; simp; omega
theorem xR (i : Int) (v : Vl) : (valL i v).length ≤ 130:=by
  have:=zR [i,v.Streams,v.Window,v.Whole,v.Chunk]
  unfold valL kV
  rw [List.length_append]; simp at this ⊢; omega
theorem yB (i n : Int) : (fstL i n).length ≤ 60:=by
  have:=zR [i,n]
  unfold fstL kF
  rw [List.length_append]; simp at this ⊢; omega
theorem aBh (n : Int) : (kP ++ oD [n]).length ≤ 30:=by
  have:=zR [n]
  unfold kP
  rw [List.length_append]; simp at this ⊢; omega
theorem j_val {i : Int} {v : Vl} (hi : 0 ≤ i ∧ i ≤ 1) (h : okV v) : ∀ n ∈ [i,v.Streams,v.Window,v.Whole,v.Chunk],J64 n:=by
  obtain ⟨h1,h2,h3,h4⟩:=h
  intro n hn
  unfold J64
  simp only [List.mem_cons,List.mem_nil_iff,or_false] at hn
  rcases hn with e | e | e | e | e <;> subst e <;> omega
theorem j_fst {i n : Int} (hi : 0 ≤ i ∧ i ≤ 1) (h : 0 ≤ n ∧ n ≤ 4294967295) : ∀ m ∈ [i,n],J64 m:=by
  intro m hm
  unfold J64
  simp only [List.mem_cons,List.mem_nil_iff,or_false] at hm
  rcases hm with e | e <;> subst e <;> omega
theorem j_path {n : Int} (h : 1 ≤ n ∧ n ≤ 4) : ∀ m ∈ [n],J64 m:=by
  intro m hm
  unfold J64
  rw [List.mem_singleton.1 hm]; omega
theorem aHD {c : Cf} (hf : F32 c) (h : okC c) : iH c = some (uD c,0):=by
  obtain ⟨h1,h2,h3⟩:=h
  obtain ⟨f1,f2⟩:=hf
  obtain ⟨m,hm⟩ : ∃ m,fuel = m + 1 + 1 + 1:=⟨2 ^ 64 - 3,by show 2 ^ 64 = _; omega⟩
  have e0:=aBh c.Paths
  have e1:=xR 0 c.Values.c0
  have e2:=xR 1 c.Values.c1
  have e3:=yB 0 c.First.c0
  have e4:=yB 1 c.First.c1
  have l0 : gJ [112,97,116,104,115] [c.Paths] = some (kP ++ oD [c.Paths]):=aBv (key:=kP) (by decide) (by simp) (j_path h1)
  have l1 : gJ [118,97,108,117,101,115] [0,c.Values.c0.Streams,c.Values.c0.Window,c.Values.c0.Whole,c.Values.c0.Chunk] = some (valL 0 c.Values.c0):=aBv (key:=kV) (by decide) (by simp) (j_val (by decide) h2)
  have l2 : gJ [118,97,108,117,101,115] [1,c.Values.c1.Streams,c.Values.c1.Window,c.Values.c1.Whole,c.Values.c1.Chunk] = some (valL 1 c.Values.c1):=aBv (key:=kV) (by decide) (by simp) (j_val (by decide) h3)
  have l3 : gJ [102,105,114,115,116] [0,c.First.c0] = some (fstL 0 c.First.c0):=aBv (key:=kF) (by decide) (by simp) (j_fst (by decide) f1)
  have l4 : gJ [102,105,114,115,116] [1,c.First.c1] = some (fstL 1 c.First.c1):=aBv (key:=kF) (by decide) (by simp) (j_fst (by decide) f2)
  unfold iH
  simp only [vO,if_pos (show okC c from ⟨h1,h2,h3⟩),bnoS,bndD,decide_true,Bool.not_true,cK,l0]
  rw [hm,fW]
  simp only [bndD,show decide ((0 : Int) < 2) = true from rfl,show decide ((1 : Int) < 2) = true from rfl,show decide ((2 : Int) < 2) = false from rfl,show IntKind.wrap .i64 ((0 : Int) + 1) = 1 from rfl,show IntKind.wrap .i64 ((1 : Int) + 1) = 2 from rfl,dO,cK,show gix [c.Values.c0,c.Values.c1] 0 = some c.Values.c0 from rfl,show gix [c.Values.c0,c.Values.c1] 1 = some c.Values.c1 from rfl,bnoS,l1,l2,
    mW (a:=kP ++ oD [c.Paths]) (b:=valL 0 c.Values.c0) (by omega),mW (a:=kP ++ oD [c.Paths] ++ valL 0 c.Values.c0) (b:=valL 1 c.Values.c1) (by rw [List.length_append]; omega)]
  rw [fW]
  simp only [bndD,show decide ((0 : Int) < 2) = true from rfl,show decide ((1 : Int) < 2) = true from rfl,show decide ((2 : Int) < 2) = false from rfl,show IntKind.wrap .i64 ((0 : Int) + 1) = 1 from rfl,show IntKind.wrap .i64 ((1 : Int) + 1) = 2 from rfl,dO,cK,show gix [c.Values.c0,c.Values.c1] 0 = some c.Values.c0 from rfl,show gix [c.Values.c0,c.Values.c1] 1 = some c.Values.c1 from rfl,bnoS,l1,l2,
    mW (a:=kP ++ oD [c.Paths]) (b:=valL 0 c.Values.c0) (by omega),mW (a:=kP ++ oD [c.Paths] ++ valL 0 c.Values.c0) (b:=valL 1 c.Values.c1) (by rw [List.length_append]; omega)]
  rw [fW]
  simp only [bndD,show decide ((0 : Int) < 2) = true from rfl,show decide ((1 : Int) < 2) = true from rfl,show decide ((2 : Int) < 2) = false from rfl,show IntKind.wrap .i64 ((0 : Int) + 1) = 1 from rfl,show IntKind.wrap .i64 ((1 : Int) + 1) = 2 from rfl,dO,cK,show gix [c.Values.c0,c.Values.c1] 0 = some c.Values.c0 from rfl,show gix [c.Values.c0,c.Values.c1] 1 = some c.Values.c1 from rfl,bnoS,l1,l2,
    mW (a:=kP ++ oD [c.Paths]) (b:=valL 0 c.Values.c0) (by omega),mW (a:=kP ++ oD [c.Paths] ++ valL 0 c.Values.c0) (b:=valL 1 c.Values.c1) (by rw [List.length_append]; omega)]
  rw [hm,fV]
  simp only [bndD,show decide ((0 : Int) < 2) = true from rfl,show decide ((1 : Int) < 2) = true from rfl,show decide ((2 : Int) < 2) = false from rfl,show IntKind.wrap .i64 ((0 : Int) + 1) = 1 from rfl,show IntKind.wrap .i64 ((1 : Int) + 1) = 2 from rfl,dO,cK,show gix [c.First.c0,c.First.c1] 0 = some c.First.c0 from rfl,show gix [c.First.c0,c.First.c1] 1 = some c.First.c1 from rfl,bnoS,w64 (show -9223372036854775808 ≤ c.First.c0 by omega) (show c.First.c0 ≤ 9223372036854775807 by omega),w64 (show -9223372036854775808 ≤ c.First.c1 by omega) (show c.First.c1 ≤ 9223372036854775807 by omega),l3,l4,
    mW (a:=kP ++ oD [c.Paths] ++ valL 0 c.Values.c0 ++ valL 1 c.Values.c1) (b:=fstL 0 c.First.c0) (by rw [List.length_append,List.length_append]; omega),mW (a:=kP ++ oD [c.Paths] ++ valL 0 c.Values.c0 ++ valL 1 c.Values.c1 ++ fstL 0 c.First.c0) (b:=fstL 1 c.First.c1) (by rw [List.length_append,List.length_append,List.length_append]; omega)]
  rw [fV]
  simp only [bndD,show decide ((0 : Int) < 2) = true from rfl,show decide ((1 : Int) < 2) = true from rfl,show decide ((2 : Int) < 2) = false from rfl,show IntKind.wrap .i64 ((0 : Int) + 1) = 1 from rfl,show IntKind.wrap .i64 ((1 : Int) + 1) = 2 from rfl,dO,cK,show gix [c.First.c0,c.First.c1] 0 = some c.First.c0 from rfl,show gix [c.First.c0,c.First.c1] 1 = some c.First.c1 from rfl,bnoS,w64 (show -9223372036854775808 ≤ c.First.c0 by omega) (show c.First.c0 ≤ 9223372036854775807 by omega),w64 (show -9223372036854775808 ≤ c.First.c1 by omega) (show c.First.c1 ≤ 9223372036854775807 by omega),l3,l4,
    mW (a:=kP ++ oD [c.Paths] ++ valL 0 c.Values.c0 ++ valL 1 c.Values.c1) (b:=fstL 0 c.First.c0) (by rw [List.length_append,List.length_append]; omega),mW (a:=kP ++ oD [c.Paths] ++ valL 0 c.Values.c0 ++ valL 1 c.Values.c1 ++ fstL 0 c.First.c0) (b:=fstL 1 c.First.c1) (by rw [List.length_append,List.length_append,List.length_append]; omega)]
  rw [fV]
  simp only [bndD,show decide ((0 : Int) < 2) = true from rfl,show decide ((1 : Int) < 2) = true from rfl,show decide ((2 : Int) < 2) = false from rfl,show IntKind.wrap .i64 ((0 : Int) + 1) = 1 from rfl,show IntKind.wrap .i64 ((1 : Int) + 1) = 2 from rfl,dO,cK,show gix [c.First.c0,c.First.c1] 0 = some c.First.c0 from rfl,show gix [c.First.c0,c.First.c1] 1 = some c.First.c1 from rfl,bnoS,w64 (show -9223372036854775808 ≤ c.First.c0 by omega) (show c.First.c0 ≤ 9223372036854775807 by omega),w64 (show -9223372036854775808 ≤ c.First.c1 by omega) (show c.First.c1 ≤ 9223372036854775807 by omega),l3,l4,
    mW (a:=kP ++ oD [c.Paths] ++ valL 0 c.Values.c0 ++ valL 1 c.Values.c1) (b:=fstL 0 c.First.c0) (by rw [List.length_append,List.length_append]; omega),mW (a:=kP ++ oD [c.Paths] ++ valL 0 c.Values.c0 ++ valL 1 c.Values.c1 ++ fstL 0 c.First.c0) (b:=fstL 1 c.First.c1) (by rw [List.length_append,List.length_append,List.length_append]; omega)]
  rfl
theorem dg_L {s : List UInt8} {e : Int} (hl : s.length ≤ 1000) : ∀ (r p : List UInt8) (f : Nat) (a : Int),s = p ++ r → r.length < f → ∃ d,fJ (s,e) f a (p.length : Int) = some d ∧ hT (s,e) f a (p.length : Int) = some d
  | [], p, f + 1, a, h, _ => by
    rw [List.append_nil] at h
    rw [fJ,hT]
    simp only [bndD,← h,vB,cK]
    exact ⟨_,rfl,rfl⟩
  | x :: r, p, f + 1, a, h, hf => by
    rw [fJ,hT]
    simp only [bndD,tT h,dO,lG h,bnoS,w_at h (show s.length ≤ 1000000 by omega)]
    exact dg_L hl r (p ++ [x]) f _ (jZ h) (by simpa using hf)
theorem rQ (c : Cf) : (uD c).length ≤ 410:=by
  have e0:=aBh c.Paths
  have e1:=xR 0 c.Values.c0
  have e2:=xR 1 c.Values.c1
  have e3:=yB 0 c.First.c0
  have e4:=yB 1 c.First.c1
  unfold uD
  rw [List.length_append,List.length_append,List.length_append,List.length_append]; omega
theorem aFO : nS = some ⟨2,⟨⟨8,256,4096,32⟩,⟨8,256,4096,32⟩⟩,⟨1,2⟩⟩:=rfl
end Go.Fn
open Go Go.IL
namespace Go.Fn
def kS (c : UInt8) : List (List UInt8) → List UInt8
  | []=>[]
  | [w]=>w
  | w :: v :: ws=>w ++ c :: kS c (v :: ws)
theorem aAb {c : UInt8} {w : List UInt8} {ws : List (List UInt8)} (h : ws ≠ []) : kS c (w :: ws) = w ++ c :: kS c ws:=by
  cases ws with
  | nil=>exact absurd rfl h
  | cons v ws=>rfl
theorem aGu (c : UInt8) : ((c.toNat : Int)).toNat.toUInt8 = c:=by
  rw [Int.toNat_natCast]; exact UInt8.ofNat_toNat
theorem aG8 : ∀ {w r : List UInt8} {c : UInt8},c ∉ w → Lib.indexByte (w ++ c :: r) c = (w.length : Int)
  | [], r, c, _ => by
    show Lib.indexByte (c :: r) c = 0
    unfold Lib.indexByte
    rw [if_pos (by simp)]
  | b :: w, r, c, h => by
    have h1 : b ≠ c:=fun e=>h (by simp [e])
    have h2:=aG8 (w:=w) (r:=r) (c:=c) (fun hh=>h (by simp [hh]))
    show Lib.indexByte (b :: (w ++ c :: r)) c = _
    unfold Lib.indexByte
    rw [if_neg (by simpa using h1),h2,if_neg (by simp; try omega)]
    simp only [List.length_cons]; omega
theorem idx_yes {w r : List UInt8} {c : UInt8} (h : c ∉ w) : idxB (w ++ c :: r) (c.toNat : Int) = (w.length : Int):=by unfold idxB; rw [aGu,aG8 h]
theorem wM {c : UInt8} : ∀ {ws : List (List UInt8)},ws ≠ [] → (∀ w ∈ ws,c ∉ w) → (kS c ws).count c + 1 = ws.length
  | [],h,_=>absurd rfl h
  | [w], _, h => by
    show w.count c + 1 = 1
    rw [List.count_eq_zero.2 (h w (by simp))]
  | w :: v :: ws, _, h => by
    have:=wM (ws:=v :: ws) (by simp) (fun x hx=>h x (by simp [hx]))
    rw [aAb (by simp),List.count_append,List.count_eq_zero.2 (h w (by simp)),List.count_cons_self]
    simp only [List.length_cons] at this ⊢
    omega
theorem aF1 {w r : List UInt8} {c : UInt8} (h : c ∉ w) : kQ (w ++ c :: r) [c] = some (w.length : Int):=by
  unfold kQ fL eR
  simp only [bndD,List.length_singleton,show decide (((1 : Nat) : Int) = 0) = false from rfl,show decide (((1 : Nat) : Int) = 1) = true from rfl,Bool.false_or]
  by_cases e : [c] = w ++ c :: r
  · rw [decide_eq_true e, dO, bnoS]
    have:=congrArg List.length e
    simp at this
    rw [show w.length = 0 by omega]; rfl
  · rw [decide_eq_false e, cK, dO, show gix [c] 0 = some c from rfl]
    simp only [bnoS,idx_yes h]
theorem aER {v : List (List UInt8)} {w : List UInt8} {done : List (List UInt8)} (hd : done.length ≤ 1000000) : fN w (done ++ [v.headD []]) (done.length : Int) = some (done ++ [w]):=by
  unfold fN
  have hl : (done ++ [v.headD []]) = done ++ (v.headD []) :: []:=rfl
  have hg : (done ++ [v.headD []])[((done.length : Nat) : Int).toNat]? = some (v.headD []):=by rw [Int.toNat_natCast]; exact get_at0
  rw [lG hl,bnoS,hg,bnoS,bndD,bndD,Int.toNat_natCast,w64 (by omega) (by omega)]
  have hs : (done ++ [v.headD []]).set done.length w = done ++ [w]:=by rw [List.set_append_right _ _ (Nat.le_refl _)]; simp
  rw [hs,cut_of (by omega) (by simp),bnoS]
  have : ((done.length : Int) + 1).toNat = (done ++ [w]).length:=by simp
  rw [this,List.take_length]
where
  get_at0 {α : Type} {p : List α} {x : α} : (p ++ [x])[p.length]? = some x:=by simp
theorem aES {c : UInt8} {N : Nat} (hN : N ≤ 1000000) : ∀ (rest done : List (List UInt8)) (f : Nat),rest ≠ [] → (∀ w ∈ rest,c ∉ w) → done.length + rest.length = N → (kS c rest).length ≤ 1000000 → rest.length < f →
    dX [c] 0 ((N : Int) - 1) f (kS c rest) (done ++ List.replicate rest.length []) (done.length : Int) = some (done ++ rest)
  | [],_,_,h,_,_,_,_=>absurd rfl h
  | [w], done, f + 1, _, hc, hn, hl, _ => by
    simp only [List.length_singleton] at hn
    rw [dX]
    simp only [bndD]
    rw [decide_eq_false (by omega),cK]
    exact aER (v:=[]) (by omega)
  | w :: v :: ws, done, f + 1, _, hc, hn, hl, hf => by
    have hcw : c ∉ w:=hc w (by simp)
    have hj : kS c (w :: v :: ws) = w ++ c :: kS c (v :: ws):=rfl
    simp only [List.length_cons] at hn hf
    have hlw : w.length + ((kS c (v :: ws)).length + 1) ≤ 1000000:=by rw [hj] at hl; simpa using hl
    have hrec:=aES hN (v :: ws) (done ++ [w]) f (by simp) (fun x hx=>hc x (by simp [hx])) (by simp; omega) (by omega) (by simp; omega)
    rw [dX]
    simp only [bndD]
    rw [decide_eq_true (by omega),dO,hj,aF1 hcw,bnoS,decide_eq_false (by omega),cK,w64 (by omega) (by omega),Int.add_zero]
    rw [aFV (p:=w) (r:=c :: kS c (v :: ws)) rfl,bnoS]
    have hl2 : (done ++ List.replicate (w :: v :: ws).length ([] : List UInt8)) = done ++ [] :: List.replicate (v :: ws).length []:=rfl
    have hg : (done ++ List.replicate (w :: v :: ws).length ([] : List UInt8))[((done.length : Nat) : Int).toNat]? = some []:=by
      rw [Int.toNat_natCast,hl2,List.getElem?_append_right (Nat.le_refl _)]; simp
    rw [lG hl2,bnoS,hg,bnoS]
    have hs : (done ++ List.replicate (w :: v :: ws).length ([] : List UInt8)).set (((done.length : Nat) : Int).toNat) w = (done ++ [w]) ++ List.replicate (v :: ws).length []:=by
      rw [Int.toNat_natCast,hl2,List.set_append_right _ _ (Nat.le_refl _)]; simp
    rw [hs,w64 (by simp; omega) (by simp; omega),show ((w.length : Int) + ((([c] : List UInt8).length : Nat) : Int)) = ((w ++ [c]).length : Int) by simp,
      yE (p:=w ++ [c]) (r:=kS c (v :: ws)) (by simp),bnoS,w64 (by omega) (by omega)]
    rw [show ((done.length : Int) + 1) = ((done ++ [w]).length : Int) by simp]
    rw [hrec,List.append_assoc]; rfl
theorem aCO {c : UInt8} {ws : List (List UInt8)} (h0 : ws ≠ []) (hc : ∀ w ∈ ws,c ∉ w) (hl : (kS c ws).length ≤ 900000) : jJ (kS c ws) [c] = some ws:=by
  have hcnt:=wM h0 hc
  have hcl : (kS c ws).count c ≤ (kS c ws).length:=List.count_le_length
  have hw : 0 < ws.length:=List.length_pos_iff.2 h0
  have hL:=aES (N:=ws.length) (by omega) ws [] fuel h0 hc (by simp) (by omega) (fB (by omega))
  unfold jJ lI
  rw [bndD,show decide ((-1 : Int) = 0) = false from rfl,cK,bndD,decide_eq_false (by simp),cK,bndD,show decide ((-1 : Int) < 0) = true from rfl,dO]
  have hC : lY (kS c ws) [c] = some ((ws.length : Int) - 1):=by
    unfold lY
    rw [bndD,List.length_singleton,show decide (((1 : Nat) : Int) = 0) = false from rfl,cK,bndD,show decide (((1 : Nat) : Int) = 1) = true from rfl,dO,show gix [c] 0 = some c from rfl,bnoS,bndD]
    unfold cntB Lib.countByte
    rw [aGu]
    congr 1; omega
  rw [hC,bnoS,bndD,w64 (by omega) (by omega)]
  unfold gT
  rw [bndD,bndD,w64 (by omega) (by omega),show min ((ws.length : Int) - 1 + 1) (((kS c ws).length : Int) + 1) = (ws.length : Int) by omega,aCi (by omega) (by omega) (by omega),bnoS,bndD,w64 (by omega) (by omega),Int.toNat_natCast]
  have hL : dX [c] 0 ((ws.length : Int) - 1) fuel (kS c ws) (List.replicate ws.length []) 0 = some ws:=hL
  rw [hL,bnoS]
end Go.Fn
open Go Go.IL
namespace Go.Fn
theorem num_L {s : List UInt8} (hs : s.length ≤ 10) (hd : ∀ b ∈ s,aFA b) : ∀ (r p : List UInt8) (f : Nat),s = p ++ r → r.length < f → valS p < 10 ^ p.length → fI s f (valS p : Int) (p.length : Int) = some ((valS s : Int),true)
  | [], p, f + 1, h, _, _ => by
    rw [List.append_nil] at h
    rw [fI]
    simp only [bndD,h,vB,cK]
  | b :: r, p, f + 1, h, hf, hv => by
    have hb:=hd b (by rw [h]; simp)
    obtain ⟨b0,b1⟩:=hb
    have hpl : p.length + 1 ≤ 10:=by rw [h] at hs; simp at hs; omega
    have hp10 : 10 ^ p.length ≤ 10 ^ 9:=Nat.pow_le_pow_right (by decide) (by omega)
    have hp9 : 10 ^ 9 = 1000000000:=by decide
    have e1 : IntKind.wrap .u8 ((b.toNat : Int) - 48) = (b.toNat : Int) - 48:=by rw [IntKind.wrap_u8,Int.emod_eq_of_lt (by omega) (by omega)]
    have hvs : (valS (p ++ [b]) : Int) = 10 * (valS p : Int) + ((b.toNat : Int) - 48):=by rw [aAl]; omega
    have hrec:=num_L hs hd r (p ++ [b]) f (jZ h) (by simpa using hf) (by
      rw [List.length_append,List.length_singleton,Nat.pow_succ,aAl]; omega)
    rw [fI]
    simp only [bndD,tT h,dO,lG h,bnoS,decide_eq_false (show ¬ (b.toNat : Int) < 48 by omega),decide_eq_false (show ¬ (57 : Int) < (b.toNat : Int) by omega),Bool.or_self,cK,e1,w64 (show -9223372036854775808 ≤ 10 * (valS p : Int) by omega) (by omega),w64 (show -9223372036854775808 ≤ (b.toNat : Int) - 48 by omega) (by omega),w_at h (show s.length ≤ 1000000 by omega)]
    rw [w64 (by omega) (by omega),← hvs]
    exact hrec
theorem aGB {n : Int} (h0 : 0 ≤ n) (h1 : n ≤ 4294967295) : mQ (kT n) = some (n,true):=by
  have hp : 10 ^ (9 + 1) = 10000000000:=by decide
  have hb : n.toNat < 10 ^ (9 + 1):=by rw [hp]; omega
  have hlen:=yD 9 n.toNat
  have hne:=aFU 9 n.toNat
  rw [aGI h0 9 hb (by decide)]
  have hL:=num_L (s:=decF 9 n.toNat) (by omega) (aBQ 9 n.toNat hb) (decF 9 n.toNat) [] fuel rfl (fB (by omega)) (by decide)
  rw [aDK 9 n.toNat hb,show ((n.toNat : Nat) : Int) = n by omega] at hL
  unfold mQ
  simp only [bndD,decide_eq_false hne,decide_eq_false (show ¬ (10 : Int) < ((decF 9 n.toNat).length : Int) by omega),Bool.or_self]
  by_cases hl : 1 < (decF 9 n.toNat).length
  · have hn : 0 < n.toNat := by
      refine Nat.pos_of_ne_zero fun e=>?_
      rw [e,mP (by decide)] at hl
      simp at hl
    have hh:=aCH 9 n.toNat hn hb
    obtain ⟨x,r,hx⟩ : ∃ x r,decF 9 n.toNat = x :: r:=by
      cases hd : decF 9 n.toNat with
      | nil=>exact absurd hd hne
      | cons x r=>exact ⟨x,r,rfl⟩
    have hg : gix (decF 9 n.toNat) 0 = some x:=by rw [hx]; rfl
    have hx48 : ¬ (x.toNat : Int) = 48:=fun e=>hh (by
      rw [hx]
      show some x = some 48
      congr 1
      exact UInt8.toNat_inj.1 (by show x.toNat = 48; omega))
    simp only [decide_eq_true (show (1 : Int) < ((decF 9 n.toNat).length : Int) by omega),beq_self_eq_true,Bool.and_self,gdtt,hg,bnoS,decide_eq_false hx48,Bool.and_false,Bool.or_self,cK]
    exact hL
  · simp only [decide_eq_false (show ¬ (1 : Int) < ((decF 9 n.toNat).length : Int) by omega), ft, Bool.and_false, gdff, bnoS, Bool.false_and, Bool.or_self, cK]
    exact hL
theorem aG4 {l : List Int} (hl : l.length ≤ 10) (hr : ∀ n ∈ l,0 ≤ n ∧ n ≤ 4294967295) (many : Int) : ∀ (r p : List Int) (f : Nat),l = p ++ r → r.length < f → fA (l.map kT) many f p (p.length : Int) = some (l,decide ((l.length : Int) = many))
  | [], p, f + 1, h, _ => by
    rw [List.append_nil] at h
    rw [fA]
    have : decide ((p.length : Int) < ((p.map kT).length : Int)) = false:=by rw [List.length_map]; exact vB
    simp only [bndD,h,this,cK]
  | n :: r, p, f + 1, h, hf => by
    have hm : l.map kT = p.map kT ++ kT n :: r.map kT:=by rw [h]; simp
    have hp : p.length ≤ 10:=by rw [h] at hl; simp at hl; omega
    have hrec:=aG4 hl hr many r (p ++ [n]) f (jZ h) (by simpa using hf)
    have hn:=hr n (by rw [h]; simp)
    have h1:=tT hm
    have h2:=lG hm
    have h3:=w_at hm (by rw [List.length_map]; omega)
    rw [List.length_map] at h1 h2 h3
    rw [show (p.map kT ++ [kT n]).length = (p ++ [n]).length by simp] at h3
    rw [fA]
    simp only [bndD,h1,dO,h2,bnoS,aGB hn.1 hn.2,Bool.not_true,cK,pM (b:=8) (l:=p) (m:=[n]) (by simp; omega) (by simp; omega),h3]
    exact hrec
theorem aBt {l : List Int} (hl : l.length ≤ 10) (hr : ∀ n ∈ l,0 ≤ n ∧ n ≤ 4294967295) (many : Int) : nL (l.map kT) many = some (l,decide ((l.length : Int) = many)):=aG4 hl hr many l [] fuel rfl (fB (by omega))
theorem aAj (key : List UInt8) : ∀ l : List Int,key ++ mH l = kS 32 (key :: l.map kT)
  | []=>by simp [mH,kS]
  | n :: l => by
    have:=aAj (kT n) l
    rw [List.map_cons,aAb (by simp),← this]
    simp [mH]
theorem aBx {n : Int} (h : 0 ≤ n ∧ n ≤ 4294967295) {b : UInt8} (hb : b.toNat < 48) : b ∉ kT n:=fun hm=>by
  have:=(aE9 h.1 (by omega) b hm).1; omega
theorem pV {key : List UInt8} (hk : (32 : UInt8) ∉ key) (hkl : key.length ≤ 100) {l : List Int} (hl : l.length ≤ 10) (hr : ∀ n ∈ l,0 ≤ n ∧ n ≤ 4294967295) : jJ (key ++ mH l) [32] = some (key :: l.map kT):=by
  have hn:=sA l
  rw [aAj]
  refine aCO (by simp) (fun w hw=>?_) (by rw [← aAj,List.length_append]; omega)
  rcases List.mem_cons.1 hw with e | hw
  · rw [e]; exact hk
  · obtain ⟨n, hn, rfl⟩ := List.mem_map.1 hw
    exact aBx (hr n hn) (by decide)
abbrev Rd35:=dQ
theorem sI {w : List UInt8} {ws : List (List UInt8)} : cut (w :: ws) 1 ((w :: ws).length : Int) = some ws:=yE (p:=[w]) (r:=ws) rfl
theorem aEK {R : Rd35} {n : Int} (h : 0 ≤ n ∧ n ≤ 4294967295) (hs : R.seen.c0 = false) : cO (kP ++ mH [n]) R = some (0,⟨⟨n,R.Config.Values,R.Config.First⟩,⟨true,R.seen.c1,R.seen.c2,R.seen.c3,R.seen.c4⟩⟩):=by
  have hr : ∀ m ∈ [n],0 ≤ m ∧ m ≤ 4294967295:=fun m hm=>by rw [List.mem_singleton.1 hm]; exact h
  have hsp:=pV (key:=kP) (by decide) (by decide) (l:=[n]) (by simp) hr
  have hnu:=aBt (l:=[n]) (by simp) hr 1
  unfold cO
  rw [hsp,bnoS,show gix (kP :: [n].map kT) 0 = some kP from rfl,bnoS,bndD,show decide (kP = ([112,97,116,104,115] : List UInt8)) = true from rfl,dO]
  unfold dC
  rw [sI,bnoS,hnu,bnoS]
  simp only [bndD,List.length_singleton,show decide (((1 : Nat) : Int) = 1) = true from rfl,Bool.not_true,show decide ((1 : Int) < 1) = false from rfl,Bool.and_self,ft,Bool.and_false,Bool.false_and,gdff,bnoS,show decide ((1 : Int) = 2) = false from rfl,Bool.or_self,cK,show decide ((1 : Int) = 5) = false from rfl]
  unfold dB
  rw [rK (by decide),show gix [R.seen.c0,R.seen.c1,R.seen.c2,R.seen.c3,R.seen.c4] 0 = some R.seen.c0 from rfl,bnoS,hs,cK,rK (by decide)]
  rfl
theorem aEJ {R : Rd35} {v : Vl} (h : okV v) (hs : R.seen.c1 = false) : cO (kV ++ mH [0,v.Streams,v.Window,v.Whole,v.Chunk]) R = some (0,⟨⟨R.Config.Paths,⟨v,R.Config.Values.c1⟩,R.Config.First⟩,⟨R.seen.c0,true,R.seen.c2,R.seen.c3,R.seen.c4⟩⟩):=by
  have hr : ∀ m ∈ [0,v.Streams,v.Window,v.Whole,v.Chunk],0 ≤ m ∧ m ≤ 4294967295:=fun m hm=>by
    obtain ⟨h1,h2,h3,h4⟩:=h
    simp only [List.mem_cons,List.mem_nil_iff,or_false] at hm
    rcases hm with e | e | e | e | e <;> subst e <;> omega
  have hsp:=pV (key:=kV) (by decide) (by decide) (l:=[0,v.Streams,v.Window,v.Whole,v.Chunk]) (by simp) hr
  have hnu:=aBt (l:=[0,v.Streams,v.Window,v.Whole,v.Chunk]) (by simp) hr 5
  unfold cO
  rw [hsp,bnoS,show gix (kV :: [0,v.Streams,v.Window,v.Whole,v.Chunk].map kT) 0 = some kV from rfl,bnoS,bndD,show decide (kV = ([112,97,116,104,115] : List UInt8)) = false from rfl,cK,bndD,show decide (kV = ([102,105,114,115,116] : List UInt8)) = false from rfl,cK,bndD,show decide (kV = ([118,97,108,117,101,115] : List UInt8)) = true from rfl,dO]
  unfold dC
  rw [sI,bnoS,hnu,bnoS]
  simp only [bndD,show decide (((([0,v.Streams,v.Window,v.Whole,v.Chunk] : List Int).length : Nat) : Int) = 5) = true from rfl,Bool.not_true,show decide ((1 : Int) < 5) = true from rfl,beq_self_eq_true,Bool.and_self,gdtt,show gix [0,v.Streams,v.Window,v.Whole,v.Chunk] 0 = some 0 from rfl,bnoS,show decide ((1 : Int) < 0) = false from rfl,Bool.and_false,Bool.or_self,show decide ((5 : Int) = 2) = false from rfl,ft,gdff,Bool.false_and,cK,show decide ((5 : Int) = 5) = true from rfl,dO,show IntKind.wrap .i64 ((1 : Int) + 0) = 1 from rfl]
  unfold dB
  rw [rK (by decide),show gix [R.seen.c0,R.seen.c1,R.seen.c2,R.seen.c3,R.seen.c4] 1 = some R.seen.c1 from rfl,bnoS,hs,cK,rK (by decide)]
  rfl
theorem aEI {R : Rd35} {v : Vl} (h : okV v) (hs : R.seen.c2 = false) : cO (kV ++ mH [1,v.Streams,v.Window,v.Whole,v.Chunk]) R = some (0,⟨⟨R.Config.Paths,⟨R.Config.Values.c0,v⟩,R.Config.First⟩,⟨R.seen.c0,R.seen.c1,true,R.seen.c3,R.seen.c4⟩⟩):=by
  have hr : ∀ m ∈ [1,v.Streams,v.Window,v.Whole,v.Chunk],0 ≤ m ∧ m ≤ 4294967295:=fun m hm=>by
    obtain ⟨h1,h2,h3,h4⟩:=h
    simp only [List.mem_cons,List.mem_nil_iff,or_false] at hm
    rcases hm with e | e | e | e | e <;> subst e <;> omega
  have hsp:=pV (key:=kV) (by decide) (by decide) (l:=[1,v.Streams,v.Window,v.Whole,v.Chunk]) (by simp) hr
  have hnu:=aBt (l:=[1,v.Streams,v.Window,v.Whole,v.Chunk]) (by simp) hr 5
  unfold cO
  rw [hsp,bnoS,show gix (kV :: [1,v.Streams,v.Window,v.Whole,v.Chunk].map kT) 0 = some kV from rfl,bnoS,bndD,show decide (kV = ([112,97,116,104,115] : List UInt8)) = false from rfl,cK,bndD,show decide (kV = ([102,105,114,115,116] : List UInt8)) = false from rfl,cK,bndD,show decide (kV = ([118,97,108,117,101,115] : List UInt8)) = true from rfl,dO]
  unfold dC
  rw [sI,bnoS,hnu,bnoS]
  simp only [bndD,show decide (((([1,v.Streams,v.Window,v.Whole,v.Chunk] : List Int).length : Nat) : Int) = 5) = true from rfl,Bool.not_true,show decide ((1 : Int) < 5) = true from rfl,beq_self_eq_true,Bool.and_self,gdtt,show gix [1,v.Streams,v.Window,v.Whole,v.Chunk] 0 = some 1 from rfl,bnoS,show decide ((1 : Int) < 1) = false from rfl,Bool.and_false,Bool.or_self,show decide ((5 : Int) = 2) = false from rfl,ft,gdff,Bool.false_and,cK,show decide ((5 : Int) = 5) = true from rfl,dO,show IntKind.wrap .i64 ((1 : Int) + 1) = 2 from rfl]
  unfold dB
  rw [rK (by decide),show gix [R.seen.c0,R.seen.c1,R.seen.c2,R.seen.c3,R.seen.c4] 2 = some R.seen.c2 from rfl,bnoS,hs,cK,rK (by decide)]
  rfl
theorem wu32 {n : Int} (h : 0 ≤ n ∧ n ≤ 4294967295) : IntKind.wrap .u32 n = n:=by rw [IntKind.wrap_u32,Int.emod_eq_of_lt h.1 (by omega)]
theorem aEM {R : Rd35} {n : Int} (h : 0 ≤ n ∧ n ≤ 4294967295) (hs : R.seen.c3 = false) : cO (kF ++ mH [0,n]) R = some (0,⟨⟨R.Config.Paths,R.Config.Values,⟨n,R.Config.First.c1⟩⟩,⟨R.seen.c0,R.seen.c1,R.seen.c2,true,R.seen.c4⟩⟩):=by
  have hr : ∀ m ∈ [0,n],0 ≤ m ∧ m ≤ 4294967295:=fun m hm=>by
    simp only [List.mem_cons,List.mem_nil_iff,or_false] at hm
    rcases hm with e | e <;> subst e <;> omega
  have hsp:=pV (key:=kF) (by decide) (by decide) (l:=[0,n]) (by simp) hr
  have hnu:=aBt (l:=[0,n]) (by simp) hr 2
  unfold cO
  rw [hsp,bnoS,show gix (kF :: [0,n].map kT) 0 = some kF from rfl,bnoS,bndD,show decide (kF = ([112,97,116,104,115] : List UInt8)) = false from rfl,cK,bndD,show decide (kF = ([102,105,114,115,116] : List UInt8)) = true from rfl,dO]
  unfold dC
  rw [sI,bnoS,hnu,bnoS]
  simp only [bndD,show decide (((([0,n] : List Int).length : Nat) : Int) = 2) = true from rfl,Bool.not_true,show decide ((1 : Int) < 2) = true from rfl,beq_self_eq_true,Bool.and_self,gdtt,show gix [0,n] 0 = some 0 from rfl,show gix [0,n] 1 = some n from rfl,bnoS,show decide ((1 : Int) < 0) = false from rfl,Bool.and_false,Bool.or_self,decide_true,decide_eq_false (show ¬ (4294967295 : Int) < n by omega),cK,dO,show IntKind.wrap .i64 ((3 : Int) + 0) = 3 from rfl]
  unfold dB
  rw [rK (by decide),show gix [R.seen.c0,R.seen.c1,R.seen.c2,R.seen.c3,R.seen.c4] 3 = some R.seen.c3 from rfl,bnoS,hs,cK,rK (by decide)]
  simp only [bndD,show decide ((2 : Int) = 1) = false from rfl,cK,decide_true,dO,show gix [0,n] 0 = some 0 from rfl,show gix [0,n] 1 = some n from rfl,bnoS,wu32 h]
  rw [rK (by decide)]
  rfl
theorem aEL {R : Rd35} {n : Int} (h : 0 ≤ n ∧ n ≤ 4294967295) (hs : R.seen.c4 = false) : cO (kF ++ mH [1,n]) R = some (0,⟨⟨R.Config.Paths,R.Config.Values,⟨R.Config.First.c0,n⟩⟩,⟨R.seen.c0,R.seen.c1,R.seen.c2,R.seen.c3,true⟩⟩):=by
  have hr : ∀ m ∈ [1,n],0 ≤ m ∧ m ≤ 4294967295:=fun m hm=>by
    simp only [List.mem_cons,List.mem_nil_iff,or_false] at hm
    rcases hm with e | e <;> subst e <;> omega
  have hsp:=pV (key:=kF) (by decide) (by decide) (l:=[1,n]) (by simp) hr
  have hnu:=aBt (l:=[1,n]) (by simp) hr 2
  unfold cO
  rw [hsp,bnoS,show gix (kF :: [1,n].map kT) 0 = some kF from rfl,bnoS,bndD,show decide (kF = ([112,97,116,104,115] : List UInt8)) = false from rfl,cK,bndD,show decide (kF = ([102,105,114,115,116] : List UInt8)) = true from rfl,dO]
  unfold dC
  rw [sI,bnoS,hnu,bnoS]
  simp only [bndD,show decide (((([1,n] : List Int).length : Nat) : Int) = 2) = true from rfl,Bool.not_true,show decide ((1 : Int) < 2) = true from rfl,beq_self_eq_true,Bool.and_self,gdtt,show gix [1,n] 0 = some 1 from rfl,show gix [1,n] 1 = some n from rfl,bnoS,show decide ((1 : Int) < 1) = false from rfl,Bool.and_false,Bool.or_self,decide_true,decide_eq_false (show ¬ (4294967295 : Int) < n by omega),cK,dO,show IntKind.wrap .i64 ((3 : Int) + 1) = 4 from rfl]
  unfold dB
  rw [rK (by decide),show gix [R.seen.c0,R.seen.c1,R.seen.c2,R.seen.c3,R.seen.c4] 4 = some R.seen.c4 from rfl,bnoS,hs,cK,rK (by decide)]
  simp only [bndD,show decide ((2 : Int) = 1) = false from rfl,cK,decide_true,dO,show gix [1,n] 0 = some 1 from rfl,show gix [1,n] 1 = some n from rfl,bnoS,wu32 h]
  rw [rK (by decide)]
  rfl
def parL (a0 : List UInt8) (x : List (List UInt8)) (f : Nat) (i : Int) (R : Rd35) : Option (Cf × Int × Int):=eS a0 x f i R.Config.Paths R.Config.Values.c0.Streams R.Config.Values.c0.Window R.Config.Values.c0.Whole R.Config.Values.c0.Chunk R.Config.Values.c1.Streams R.Config.Values.c1.Window R.Config.Values.c1.Whole R.Config.Values.c1.Chunk R.Config.First.c0 R.Config.First.c1 R.seen.c0 R.seen.c1 R.seen.c2 R.seen.c3 R.seen.c4
def Line (w : List UInt8) (R R' : Rd35) : Prop:=(w = [] ∧ R' = R) ∨ ∃ b l,w = b :: l ∧ ((b = 35 ∧ R' = R) ∨ (b ≠ 35 ∧ cO w R = some (0,R')))
theorem aC8 {a0 : List UInt8} {x p r : List (List UInt8)} {w : List UInt8} {R R' : Rd35} (hx : x = p ++ w :: r) (hl : x.length ≤ 1000000) (h : Line w R R') (f : Nat) : parL a0 x (f + 1) (p.length : Int) R = parL a0 x f ((p ++ [w]).length : Int) R':=by
  unfold parL
  rw [eS]
  simp only [bndD,tT hx,dO,lG hx,bnoS,w_at hx hl]
  rcases h with ⟨e,e2⟩ | ⟨b,l,e,h⟩
  · subst e2; rw [e]
    simp only [decide_true,Bool.not_true,ft,gdff,bnoS,Bool.false_and,cK]
  · rw [e]
    have hne : decide (b :: l = ([] : List UInt8)) = false:=rfl
    have hg : gix (b :: l) 0 = some b:=rfl
    simp only [hne,Bool.not_false,beq_self_eq_true,gdtt,hg,bnoS,Bool.true_and]
    rcases h with ⟨e1,e2⟩ | ⟨e1,e2⟩
    · subst e2; rw [e1]
      rfl
    · have hb : ¬ (b.toNat : Int) = 35 := fun hh => e1 (UInt8.toNat_inj.1 (by show b.toNat = 35; omega))
      rw [e] at e2
      simp only [decide_eq_false hb,Bool.not_false,beq_self_eq_true,dO]
      show bno (cO (b :: l) R) _ = _
      rw [e2,bnoS]
      simp only [bndD,decide_true,Bool.not_true,cK]
theorem par_end {t : List UInt8} {x : List (List UInt8)} {R : Rd35} (ht : t.length ≤ 1000000) (h : okC R.Config) (f : Nat) : parL (t ++ [10]) x (f + 1) (x.length : Int) R = some (R.Config,0,0):=by
  have hsuf : fO (t ++ [10]) [10] = some true:=by
    unfold fO dU
    have e2 : (((t ++ [10]).length : Int) - (([10] : List UInt8).length : Int)) = (t.length : Int):=by simp
    have e3 : decide ((([10] : List UInt8).length : Int) ≤ ((t ++ [10]).length : Int)) = true:=decide_eq_true (by simp; omega)
    rw [bndD,bndD,e2,w64 (by omega) (by omega),e3,beq_self_eq_true,gdtt,yE (p:=t) (r:=[10]) rfl,bnoS]
    rfl
  unfold parL
  rw [eS]
  simp only [bndD,vB,cK,decide_eq_false (show ¬ (t ++ [10] : List UInt8) = [] by simp),Bool.not_false,beq_self_eq_true,gdtt,hsuf,bnoS,Bool.not_true,Bool.and_false]
  show bno (gR R.Config) _ = _
  rw [vO,if_pos h,bnoS]
  rfl
def aEP : Rd35:=⟨⟨2,⟨⟨8,256,4096,32⟩,⟨8,256,4096,32⟩⟩,⟨1,2⟩⟩,⟨false,false,false,false,false⟩⟩
inductive Lines : List (List UInt8) → Rd35 → Rd35 → Prop
  | nil (R) : Lines [] R R
  | cons {w ws R R' R''} (h : Line w R R') (t : Lines ws R' R'') : Lines (w :: ws) R R''
theorem aEr {t : List UInt8} (ht : t.length ≤ 800000) {x : List (List UInt8)} (hl : x.length ≤ 800000) : ∀ {r : List (List UInt8)} {R R' : Rd35},Lines r R R' → ∀ (p : List (List UInt8)) (f : Nat),x = p ++ r → r.length < f → okC R'.Config → parL (t ++ [10]) x f (p.length : Int) R = some (R'.Config,0,0)
  | _, R, _, .nil _, p, f + 1, hx, _, hk => by
    rw [List.append_nil] at hx
    rw [← hx]
    exact par_end (by omega) hk f
  | _, R, R', .cons (w := w) (ws := ws) h tl, p, f + 1, hx, hf, hk => by
    rw [aC8 hx (by omega) h]
    exact aEr ht hl tl (p ++ [w]) f (jZ hx) (by simpa using hf) hk
theorem parse35 {ws : List (List UInt8)} {R : Rd35} (h0 : ws ≠ []) (hf : ∀ w ∈ ws, (10 : UInt8) ∉ w) (hl : (kS 10 (ws ++ [[]])).length ≤ 700000) (h : Lines (ws ++ [[]]) aEP R) (hk : okC R.Config) : eN (kS 10 (ws ++ [[]])) = some (R.Config, 0, 0) := by
  have hfree : ∀ w ∈ ws ++ [[]],(10 : UInt8) ∉ w:=fun w hw=>by
    rcases List.mem_append.1 hw with hw | hw
    · exact hf w hw
    · rw [List.mem_singleton.1 hw]; simp
  have hsp:=aCO (c:=10) (ws:=ws ++ [[]]) (by simp) hfree (by omega)
  have hc:=wM (c:=10) (ws:=ws ++ [[]]) (by simp) hfree
  have hcl : (kS 10 (ws ++ [[]])).count 10 ≤ (kS 10 (ws ++ [[]])).length:=List.count_le_length
  obtain ⟨t,ht⟩ : ∃ t,kS 10 (ws ++ [[]]) = t ++ [10]:=by
    have : ∀ ws : List (List UInt8),ws ≠ [] → ∃ t,kS 10 (ws ++ [[]]) = t ++ [10]:=by
      intro ws
      induction ws with
      | nil=>exact fun h=>absurd rfl h
      | cons w ws ih =>
        intro _
        cases ws with
        | nil=>exact ⟨w,rfl⟩
        | cons v ws =>
          obtain ⟨t,ht⟩:=ih (by simp)
          refine ⟨w ++ 10 :: t,?_⟩
          show w ++ 10 :: kS 10 ((v :: ws) ++ [[]]) = _
          rw [ht]; simp
    exact this ws h0
  have htl : t.length + 1 = (kS 10 (ws ++ [[]])).length:=by rw [ht]; simp
  unfold eN
  rw [aFO,bnoS,hsp,bnoS]
  rw [ht]
  exact aEr (by omega) (by omega) h [] fuel rfl (fB (by omega)) hk
end Go.Fn
open Go Go.IL
namespace Go.Fn
def pLn (n : Int) : List UInt8:=kP ++ mH [n]
def vLn (i : Int) (v : Vl) : List UInt8:=kV ++ mH [i,v.Streams,v.Window,v.Whole,v.Chunk]
def fLn (i n : Int) : List UInt8:=kF ++ mH [i,n]
theorem tQ (c : Cf) : uD c = pLn c.Paths ++ [10] ++ (vLn 0 c.Values.c0 ++ [10]) ++ (vLn 1 c.Values.c1 ++ [10]) ++ (fLn 0 c.First.c0 ++ [10]) ++ (fLn 1 c.First.c1 ++ [10]):=by
  unfold uD valL fstL oD pLn vLn fLn
  simp only [List.append_assoc]
theorem aAD {b : UInt8} (hb : b.toNat < 48) (hb2 : b ≠ 32) {l : List Int} (h : ∀ n ∈ l,0 ≤ n ∧ n ≤ 4294967295) : b ∉ mH l:=by
  intro hm
  obtain ⟨n,hn,hx⟩:=List.mem_flatMap.1 hm
  rcases List.mem_cons.1 hx with e | hx
  · exact hb2 e
  · exact aBx (h n hn) hb hx
theorem r_val {i : Int} {v : Vl} (hi : 0 ≤ i ∧ i ≤ 1) (h : okV v) : ∀ n ∈ [i,v.Streams,v.Window,v.Whole,v.Chunk],0 ≤ n ∧ n ≤ 4294967295:=by
  obtain ⟨h1,h2,h3,h4⟩:=h
  intro n hn
  simp only [List.mem_cons,List.mem_nil_iff,or_false] at hn
  rcases hn with e | e | e | e | e <;> subst e <;> omega
theorem r_fst {i n : Int} (hi : 0 ≤ i ∧ i ≤ 1) (h : 0 ≤ n ∧ n ≤ 4294967295) : ∀ m ∈ [i,n],0 ≤ m ∧ m ≤ 4294967295:=by
  intro m hm
  simp only [List.mem_cons,List.mem_nil_iff,or_false] at hm
  rcases hm with e | e <;> subst e <;> omega
theorem r_path {n : Int} (h : 1 ≤ n ∧ n ≤ 4) : ∀ m ∈ [n],0 ≤ m ∧ m ≤ 4294967295:=by
  intro m hm
  rw [List.mem_singleton.1 hm]; omega
theorem aBM {b : UInt8} {k l : List UInt8} (h1 : b ∉ k) (h2 : b ∉ l) : b ∉ k ++ l:=fun h=>(List.mem_append.1 h).elim h1 h2
theorem aDA {n : Int} (h : 1 ≤ n ∧ n ≤ 4) : (10 : UInt8) ∉ pLn n:=aBM (by decide) (aAD (by decide) (by decide) (r_path h))
theorem xS {i : Int} {v : Vl} (hi : 0 ≤ i ∧ i ≤ 1) (h : okV v) : (10 : UInt8) ∉ vLn i v:=aBM (by decide) (aAD (by decide) (by decide) (r_val hi h))
theorem vL {i n : Int} (hi : 0 ≤ i ∧ i ≤ 1) (h : 0 ≤ n ∧ n ≤ 4294967295) : (10 : UInt8) ∉ fLn i n:=aBM (by decide) (aAD (by decide) (by decide) (r_fst hi h))
theorem aEz {R : Rd35} {n : Int} (h : 1 ≤ n ∧ n ≤ 4) (hs : R.seen.c0 = false) : Line (pLn n) R ⟨⟨n,R.Config.Values,R.Config.First⟩,⟨true,R.seen.c1,R.seen.c2,R.seen.c3,R.seen.c4⟩⟩ :=
  .inr ⟨112,_,rfl,.inr ⟨by decide,aEK ⟨by omega,by omega⟩ hs⟩⟩
theorem aEy {R : Rd35} {v : Vl} (h : okV v) (hs : R.seen.c1 = false) : Line (vLn 0 v) R ⟨⟨R.Config.Paths,⟨v,R.Config.Values.c1⟩,R.Config.First⟩,⟨R.seen.c0,true,R.seen.c2,R.seen.c3,R.seen.c4⟩⟩ :=
  .inr ⟨118,_,rfl,.inr ⟨by decide,aEJ h hs⟩⟩
theorem aEx {R : Rd35} {v : Vl} (h : okV v) (hs : R.seen.c2 = false) : Line (vLn 1 v) R ⟨⟨R.Config.Paths,⟨R.Config.Values.c0,v⟩,R.Config.First⟩,⟨R.seen.c0,R.seen.c1,true,R.seen.c3,R.seen.c4⟩⟩ :=
  .inr ⟨118,_,rfl,.inr ⟨by decide,aEI h hs⟩⟩
theorem aE1 {R : Rd35} {n : Int} (h : 0 ≤ n ∧ n ≤ 4294967295) (hs : R.seen.c3 = false) : Line (fLn 0 n) R ⟨⟨R.Config.Paths,R.Config.Values,⟨n,R.Config.First.c1⟩⟩,⟨R.seen.c0,R.seen.c1,R.seen.c2,true,R.seen.c4⟩⟩ :=
  .inr ⟨102,_,rfl,.inr ⟨by decide,aEM h hs⟩⟩
theorem aE0 {R : Rd35} {n : Int} (h : 0 ≤ n ∧ n ≤ 4294967295) (hs : R.seen.c4 = false) : Line (fLn 1 n) R ⟨⟨R.Config.Paths,R.Config.Values,⟨R.Config.First.c0,n⟩⟩,⟨R.seen.c0,R.seen.c1,R.seen.c2,R.seen.c3,true⟩⟩ :=
  .inr ⟨102,_,rfl,.inr ⟨by decide,aEL h hs⟩⟩
theorem ln_nil (R : Rd35) : Line [] R R:=.inl ⟨rfl,rfl⟩
theorem back35 (c : Cf) : lK c = some c:=rfl
theorem conf35 (c : Cf) : lL c = some c:=rfl
end Go.Fn
open Go Go.IL
namespace Go.Fn
theorem rA {α : Type} {c : Bool} {x y : Option α} (hx : ∃ e,x = some e) (hy : ∃ e,y = some e) : ∃ e,(bif c then x else y) = some e:=by
  cases c
  · exact hy
  · exact hx
theorem aAn (a : cF) (b : Bool) : ∃ e,gM a b = some e:=by
  unfold gM
  simp only [bndD]
  exact rA ⟨_,rfl⟩ (rA ⟨_,rfl⟩ (rA ⟨_,rfl⟩ ⟨_,rfl⟩))
theorem aGv (a : cF) : ∃ e,nB a = some e:=by
  unfold nB
  simp only [bndD]
  exact rA (aAn _ _) (rA (aAn _ _) (rA (aAn _ _) (aAn _ _)))
theorem aF8 (a b c : Int) : ∃ e,uM a b c = some e:=by
  obtain ⟨e,he⟩:=aGv ⟨0,a,b,c,0⟩
  unfold uM uG
  simp only [bnoS,he,bndD]
  exact rA ⟨_,rfl⟩ ⟨_,rfl⟩
theorem ask_tot (a : cF) : ∃ e,rS a = some e:=by
  obtain ⟨e,he⟩:=aGv a
  unfold rS nI
  simp only [bnoS,he,bndD]
  refine rA ⟨_,rfl⟩ ?_
  cases decide (e = 0)
  · exact ⟨_,rfl⟩
  · exact ⟨_,rfl⟩
theorem aEn (a : bI) : ∃ e,rU a = some e:=by
  obtain ⟨e,he⟩:=ask_tot a.Shake
  unfold rU
  simp only [bnoS,he,bndD]
  exact rA ⟨_,rfl⟩ ⟨_,rfl⟩
theorem stid8 (b : Bool) : ∃ e,uF b 8 8 = some e:=by
  have h : (uF b 8 8).isSome = true:=by cases b <;> kernel_rfl
  exact Option.isSome_iff_exists.1 h
theorem aFY {n : Int} (h : 1 ≤ n) (h2 : n ≤ 1048576) : kX n = some (⟨n,n,0,0⟩,0):=by
  unfold kX pL
  simp only [bndD,decide_eq_true (show (0 : Int) ≤ n by omega),decide_eq_true (show n ≤ 1099511627776 by omega),decide_eq_false (show ¬ n < 1 by omega),decide_eq_false (show ¬ 1048576 < n by omega),show decide ((0 : Int) ≤ 0) = true from rfl,Bool.and_self,Bool.not_true,Bool.or_self,cK,bnoS,decide_true]
def vl0 : Vl:=⟨8,256,4096,32⟩
theorem tfirst : pT = some vl0:=by kernel_rfl
def rV (v : Vl) : List aT:=[⟨1,v.Streams⟩,⟨2,v.Window⟩,⟨3,v.Whole⟩,⟨4,v.Chunk⟩]
theorem aGA (v : Vl) : sM v = some (rV v):=by kernel_rfl
theorem aFT (x7 : dN) {l : List aT} (hl : l.length ≤ 4) (hq : ∀ q ∈ l,1 ≤ q.ID ∧ q.ID ≤ 4) : ∀ (r p acc : List aT) (f : Nat),l = p ++ r → r.length < f → acc.length ≤ p.length →
    ∃ s,s.Sublist r ∧ hG x7 l f acc (p.length : Int) = some (acc ++ s)
  | [], p, acc, f + 1, h, _, _ => by
    refine ⟨[],.slnil,?_⟩
    rw [hG]
    simp only [bndD,zQ h,cK,List.append_nil]
  | x :: r, p, acc, f + 1, h, hf, ha => by
    have hx:=hq x (by rw [h]; simp)
    have hpl : p.length + r.length + 1 ≤ 4:=by rw [h] at hl; simpa [Nat.add_assoc] using hl
    have hw : IntKind.wrap .i64 (x.ID - 1) = x.ID - 1:=by
      unfold IntKind.wrap; simp only [IntKind.signed,IntKind.bits]; simp; omega
    obtain ⟨y,hy⟩ : ∃ y,gix ([x7.c0,x7.c1,x7.c2,x7.c3] : List Int) (x.ID - 1) = some y:=by
      have : x.ID = 1 ∨ x.ID = 2 ∨ x.ID = 3 ∨ x.ID = 4:=by omega
      rcases this with e | e | e | e <;> rw [e] <;> exact ⟨_,rfl⟩
    have hc : (0 ≤ x.ID - 1 ∧ x.ID - 1 < 4):=by omega
    rw [hG]
    simp only [bndD,tT h,dO,lG h,bnoS,hw,rK hc,hy]
    cases hb : decide (y = x.Value)
    · simp only [Bool.not_false, dO, pM (b := 16) (l := acc) (m := [x]) (by simp; omega) (by simp; omega), bnoS, w_at h (show l.length ≤ 1000000 by omega)]
      obtain ⟨s,h1,h2⟩:=aFT x7 hl hq r (p ++ [x]) (acc ++ [x]) f (jZ h) (by simpa using hf) (by simp; omega)
      exact ⟨x :: s,h1.cons_cons x,by rw [h2,List.append_assoc]; rfl⟩
    · simp only [Bool.not_true, cK, w_at h (show l.length ≤ 1000000 by omega)]
      obtain ⟨s,h1,h2⟩:=aFT x7 hl hq r (p ++ [x]) acc f (jZ h) (by simpa using hf) (by simp; omega)
      exact ⟨s,h1.cons x,h2⟩
theorem diff_ok {v : Vl} (h : okV v) : ∃ s,s.Sublist (rV v) ∧ pU vl0 v = some s:=by
  obtain ⟨s,h1,h2⟩:=aFT ⟨8,256,4096,32⟩ (l:=rV v) (Nat.le_refl 4) (fun q hq=>by
    simp only [rV,List.mem_cons,List.mem_nil_iff,or_false] at hq
    rcases hq with e | e | e | e <;> rw [e] <;> exact ⟨by simp,by simp⟩) (rV v) [] [] fuel rfl (fB (by show 4 < _; decide)) (Nat.le_refl _)
  refine ⟨s,h1,?_⟩
  have hk : kN vl0 = some 0:=by kernel_rfl
  unfold pU
  simp only [hk,bnoS,bndD,decide_true,Bool.not_true,beq_self_eq_true,gdtt,aC1,if_pos h,Bool.or_self,cK,aGA,show gS vl0 = some ⟨8,256,4096,32⟩ from rfl]
  rw [show ((([] : List aT).length : Nat) : Int) = 0 from rfl,List.nil_append] at h2
  exact h2
def fr4 (s : List aT) : Fr:=⟨4,false,0,0,0,0,0,0,s,[]⟩
def fr8 (n : Int) : Fr:=⟨8,false,0,0,0,0,n,0,[],[]⟩
theorem aHB {v : Vl} (h : okV v) {s : List aT} (hs : s.Sublist (rV v)) : chkF (fr4 s) = 0:=by
  have h4 : s.length ≤ 4:=hs.length_le
  have hp : s.all oE = true:=by
    rw [List.all_eq_true]
    intro q hq
    have:=hs.subset hq
    obtain ⟨h1,h2,h3,h5⟩:=h
    simp only [rV,List.mem_cons,List.mem_nil_iff,or_false] at this
    unfold oE inb
    rcases this with e | e | e | e <;> rw [e] <;> simp <;> omega
  have hr : rng (fr4 s) = true:=by
    show rngs (fr4 s) 0 1099511627776 255 = true
    unfold rngs
    show (s.all oE && _ && _ && _ && _ && _) = true
    rw [hp]; rfl
  unfold chkF
  rw [if_neg (by show ¬ pA 4 = false; decide),hr,if_neg (by decide),if_neg (by show ¬ (32 < 0 ∨ 4 < s.length); omega),if_neg (by
    have : spr (fr4 s) = false:=rfl
    rw [this]; decide)]
theorem fr8_ok {n : Int} (h1 : 1 ≤ n) (h2 : n ≤ 1099511627776) : chkF (fr8 n) = 0:=by
  have hr : rng (fr8 n) = true:=by
    show rngs (fr8 n) 1 1099511627776 255 = true
    show ([].all oE && inb 0 0 1048576 && inb 0 0 1099511627776 && inb 0 0 1048576 && inb n 1 1099511627776 && inb 0 0 255) = true
    have : inb n 1 1099511627776 = true:=by unfold inb; simp; omega
    rw [this]; rfl
  unfold chkF
  rw [if_neg (by show ¬ pA 8 = false; decide),hr,if_neg (by decide),if_neg (by show ¬ (32 < 0 ∨ 4 < 0); omega),if_neg (by
    have : spr (fr8 n) = false:=rfl
    rw [this]; decide)]
theorem aEa {st : Ct} (hck : iG st = some 0) (hg : G st.Send) (hc : st.Send.Closed = false) (hd : st.Send.Data.length ≤ 100) (hn : endS st.Send ≤ 1000) {f : Fr} (h0 : 0 ≤ f.Kind) (h1 : f.Kind ≤ 255) (hl : Lite f) (hf : chkF f = 0) (hk : carB f.Kind = true) :
    gP st f = some (⟨rM st.Send (putF f).1,st.Recv,st.In⟩,0):=by
  have hF : Fine f:=⟨h0,h1,hf⟩
  have hp:=aEl hF
  have hz : (putF f).2 = 0:=by unfold putF; rw [if_pos hf]
  have hro : sY st.Send = 4096 - st.Send.Data.length:=by
    unfold sY; rw [if_neg (by rw [hc]; decide)]
  unfold gP
  simp only [hck,bnoS,bndD,decide_true,Bool.not_true,cK,aD5,hk,put_F h0 h1 hl,hz,aGy hg,write23 hg (putF f).1 (by omega)]
  rw [decide_eq_false (by omega),cK,decide_eq_false (by unfold writeN; split <;> omega),cK]
theorem aGx (a0 : aD) (a17 : Bool) (a18 : Int) (a19 : Int) (a20 : (List Int)) (a21 : (List Int)) (a22 : Int) (a23 : Int) (a24 : Int) (a25 : Int) (a26 : (List bU)) (a27 : (List bZ)) (a28 : (List Int)) (a29 : (List bP)) (a30 : Bool) (a31 : Bool) (a32 : Int) (a33 : Int) (a34 : Bool) (a35 : Bool) (a36 : Int) (a37 : Int) (a38 : Bool) (a39 : Bool) (a40 : Int) (a41 : Int) (a42 : Bool) (a43 : Bool) (a44 : Int) (a45 : Int) (a46 : Int) (a47 : (List cR)) (a48 : (List bI)) (a49 : (List UInt8)) (a50 : Int) (a51 : Int) (a52 : (List UInt8)) (a53 : Int) (a54 : Int) (a55 : (List UInt8)) (a56 : Int) (a57 : Int) (a58 : (List UInt8)) (a59 : Int) (a60 : Int) (a61 : Int) (a62 : Int) (a63 : Int) (a64 : Int) (a65 : Int) (a66 : Int) (a67 : Int) (a68 : Int) (a69 : Int) (a70 : Int) (a71 : Int) (a72 : Int) (a73 : Int) (a74 : Int) (a75 : Int) (a76 : Int) (a77 : (List aM)) (a78 : (List bC)) (a79 : (List Int)) (a80 : (List aD)) (a81 : (List aM)) (a82 : (List bD)) (a83 : Int) (a84 : Int) (a85 : Int) (a86 : Int) (a87 : Int) (a88 : Bool) (a89 : Bool) (a90 : Int) (a91 : Int) (a92 : Int) (a93 : Int) (a94 : Int) (a95 : Int) (a96 : Int) (a97 : Int) (a98 : (List fY)) (a99 : Int) (a100 : Int) (a101 : (List dA)) (a102 : Int) (a103 : (List Int)) (st c : Ct) (h : gP st a0 = some (c,0)) :
    eH a0 st.Send.Base st.Send.Data st.Send.Next st.Send.Pieces st.Send.Lost st.Send.Closed st.Send.Sent st.Send.Again st.Send.Done st.Recv.Recv.Base st.Recv.Recv.Ready st.Recv.Recv.Parts st.Recv.End st.In.Buf st.In.Bad st.In.Seen a17 a18 a19 a20 a21 a22 a23 a24 a25 a26 a27 a28 a29 a30 a31 a32 a33 a34 a35 a36 a37 a38 a39 a40 a41 a42 a43 a44 a45 a46 a47 a48 a49 a50 a51 a52 a53 a54 a55 a56 a57 a58 a59 a60 a61 a62 a63 a64 a65 a66 a67 a68 a69 a70 a71 a72 a73 a74 a75 a76 a77 a78 a79 a80 a81 a82 a83 a84 a85 a86 a87 a88 a89 a90 a91 a92 a93 a94 a95 a96 a97 a98 a99 a100 a101 a102 a103 = some (c.Send.Base,c.Send.Data,c.Send.Next,c.Send.Pieces,c.Send.Lost,c.Send.Closed,c.Send.Sent,c.Send.Again,c.Send.Done,c.Recv.Recv.Base,c.Recv.Recv.Ready,c.Recv.Recv.Parts,c.Recv.End,c.In.Buf,c.In.Bad,c.In.Seen,a17,a18,a19,a20,a21,a22,a23,a24,a25,a26,a27,a28,a29,a30,a31,a32,a33,a34,a35,a36,a37,a38,a39,a40,a41,a42,a43,a44,a45,a46,a47,a48,a49,a50,a51,a52,a53,a54,a55,a56,a57,a58,a59,a60,a61,a62,a63,a64,a65,a66,a67,a68,a69,a70,a71,a72,a73,a74,a75,a76,a77,a78,a79,a80,a81,a82,a83,a84,a85,a86,a87,a88,a89,a90,a91,a92,a93,a94,a95):=by
  unfold eH fS
  show bno (bno (gP st a0) _) _ = _
  rw [h]
  rfl
end Go.Fn
open Go Go.IL
namespace Go.Fn
theorem aF0 {a : fK} (hv : okV a.Values) (p0 : jO) (f : Nat) (l : List bI) (hl : l.length = 4) : fC a vl0 ct0 p0 (f + 1) a.Paths l = some (true,0):=by
  obtain ⟨d,hd⟩:=stid8 a.Odd
  obtain ⟨h1,h2,h3,h4⟩:=hv
  obtain ⟨s,hs1,hs2⟩:=diff_ok ⟨h1,h2,h3,h4⟩
  have hmax : 1 ≤ max a.Values.Whole 4096 ∧ max a.Values.Whole 4096 ≤ 1048576:=by omega
  have hc1:=aFY hmax.1 hmax.2
  have hc2 : kX 4096 = some (⟨4096,4096,0,0⟩,0):=aFY (by decide) (by decide)
  have hsl:=hs1.length_le
  have hl4 : Lite (fr4 s):=⟨by show s.length ≤ 1000; have : (rV a.Values).length = 4:=rfl; omega,by show 0 ≤ 1000; decide⟩
  have k1:=aEa (st:=ct0) chk0 g_new rfl (by decide) (by decide) (f:=fr4 s) (by show (0 : Int) ≤ 4; decide) (by show (4 : Int) ≤ 255; decide) hl4 (aHB ⟨h1,h2,h3,h4⟩ hs1) rfl
  have hp:=aEl (f:=fr4 s) ⟨by show (0 : Int) ≤ 4; decide,by show (4 : Int) ≤ 255; decide,aHB ⟨h1,h2,h3,h4⟩ hs1⟩
  have hg:=g_write g_new (putF (fr4 s)).1
  have hck : iG ⟨rM ct0.Send (putF (fr4 s)).1,ct0.Recv,ct0.In⟩ = some 0:=aDQ (W:=[]) (I:=[]) (s:=[]) hg rfl (rq0 (by decide)) rfl rfl st0 (by rw [aBP rfl]) (by decide)
  have hcl : (rM ct0.Send (putF (fr4 s)).1).Closed = false:=rfl
  have hdl : (rM ct0.Send (putF (fr4 s)).1).Data.length ≤ 100:=by
    show ([] ++ (putF (fr4 s)).1.take _).length ≤ 100
    rw [List.nil_append,List.length_take]; omega
  have hen : endS (rM ct0.Send (putF (fr4 s)).1) ≤ 1000:=by
    show (0 : Int) + (([] ++ (putF (fr4 s)).1.take _).length : Int) ≤ 1000
    rw [List.nil_append,List.length_take]; omega
  obtain ⟨c1,hc1e⟩ : ∃ c1 : Ct,c1 = ⟨rM ct0.Send (putF (fr4 s)).1,ct0.Recv,ct0.In⟩:=⟨_,rfl⟩
  rw [← hc1e] at k1 hck
  have hg : G c1.Send:=by rw [hc1e]; exact hg
  have hcl : c1.Send.Closed = false:=by rw [hc1e]; exact hcl
  have hdl : c1.Send.Data.length ≤ 100:=by rw [hc1e]; exact hdl
  have hen : endS c1.Send ≤ 1000:=by rw [hc1e]; exact hen
  rw [fC]
  simp only [bndD,decide_eq_false (show ¬ a.Paths < a.Paths by omega),cK,hd,bnoS,show sP 24 1 24 = some true from rfl,show sP 8 0 24 = some true from rfl,Bool.not_true,beq_self_eq_true,gdtt,Bool.or_self,show vQ = some ⟨[],(-1),0⟩ from rfl,rK hl,show vl0.Whole = 4096 from rfl,hc1,hc2,hs2]
  have k1' : gP ct0 ⟨4,false,0,0,0,0,0,0,s,[]⟩ = some (c1,0):=k1
  rw [aGx (h:=k1')]
  simp only [bnoS,rK hl]
  rw [w64 (by show _ ≤ max a.Values.Whole 4096 - 4096; omega) (by show max a.Values.Whole 4096 - 4096 ≤ _; omega)]
  cases hb : decide (0 < max a.Values.Whole 4096 - 4096)
  · rfl
  · have hpos : 0 < max a.Values.Whole 4096 - 4096 := of_decide_eq_true hb
    have k2:=aEa hck hg hcl hdl hen (f:=fr8 (max a.Values.Whole 4096 - 4096)) (by show (0 : Int) ≤ 8; decide) (by show (8 : Int) ≤ 255; decide) ⟨by show 0 ≤ 1000; decide,by show 0 ≤ 1000; decide⟩ (fr8_ok (by omega) (by omega)) rfl
    rw [dO]
    have k2' : gP c1 ⟨8,false,0,0,0,0,max a.Values.Whole 4096 - 4096,0,[],[]⟩ = some _:=k2
    rw [aGx (h:=k2')]
    rfl
theorem aEU {a : fK} (hv : okV a.Values) (hp : a.Paths ≤ 4) (p0 : jO) : ∀ (k : Nat) (i : Int) (l : List bI) (f : Nat),i + k = a.Paths → 0 ≤ i → l.length = 4 → k < f → fC a vl0 ct0 p0 f i l = some (true,0)
  | 0, i, l, f + 1, h, h0, hl, _ => by
    obtain rfl : i = a.Paths:=by omega
    exact aF0 hv p0 f l hl
  | k + 1, i, l, f + 1, h, h0, hl, hf => by
    obtain ⟨e,he⟩:=aF8 i 0 (IntKind.wrap .u32 (a.First + IntKind.wrap .u32 i))
    have hi : i.toNat < l.length:=by omega
    have hi2 : i.toNat < (l.set i.toNat e.1).length:=by rw [List.length_set]; exact hi
    obtain ⟨q,hq⟩:=aEn (l.set i.toNat e.1)[i.toNat]
    rw [fC]
    simp only [bndD,decide_eq_true (show i < a.Paths by omega),dO,he,bnoS,wJ h0 hi,rK hl,List.getElem?_eq_getElem hi,w64 (show -9223372036854775808 ≤ i + 1 by omega) (show i + 1 ≤ 9223372036854775807 by omega)]
    cases a.Odd
    · rw [cK]
      exact aEU hv hp p0 k (i + 1) _ f (by omega) (by omega) (by rw [List.length_set]; exact hl) (by omega)
    · rw [dO]
      simp only [wJ h0 hi2,bnoS,List.getElem?_eq_getElem hi2,hq]
      exact aEU hv hp p0 k (i + 1) _ f (by omega) (by omega) (by rw [List.length_set,List.length_set]; exact hl) (by omega)
theorem aET {a : fK} (hv : okV a.Values) (hp : 1 ≤ a.Paths ∧ a.Paths ≤ 4) : oT a = some (true,0):=by
  unfold oT
  simp only [aC1,if_pos hv,bnoS,bndD,decide_true,Bool.not_true,cK,decide_eq_false (show ¬ a.Paths < 1 by omega),decide_eq_false (show ¬ 4 < a.Paths by omega),Bool.or_self,tfirst,new29,show uN = some _ from rfl]
  exact aEU hv hp.2 _ a.Paths.toNat 0 _ fuel (by omega) (by omega) List.length_replicate (fB (by omega))
theorem wnew_ok {c : Cf} (h : okC c) : rN c = some (true,0):=by
  obtain ⟨m,hm⟩ : ∃ m,fuel = m + 1 + 1 + 1:=⟨2 ^ 64 - 3,by show 2 ^ 64 = _; omega⟩
  obtain ⟨h1,h2,h3⟩:=h
  unfold rN
  rw [hm,jE]
  simp only [bndD,show decide ((0 : Int) < 2) = true from rfl,dO,rK (show (0 : Int) ≤ 0 ∧ (0 : Int) < 2 by decide),show gix [c.Values.c0,c.Values.c1] 0 = some c.Values.c0 from rfl,show gix [c.First.c0,c.First.c1] 0 = some c.First.c0 from rfl,bnoS,
    aET (a:=⟨_,c.Paths,c.Values.c0,c.First.c0⟩) h2 h1,decide_true,Bool.not_true,cK,show IntKind.wrap .i64 ((0 : Int) + 1) = 1 from rfl]
  rw [jE]
  simp only [bndD,show decide ((1 : Int) < 2) = true from rfl,dO,rK (show (0 : Int) ≤ 1 ∧ (1 : Int) < 2 by decide),show gix [c.Values.c0,c.Values.c1] 1 = some c.Values.c1 from rfl,show gix [c.First.c0,c.First.c1] 1 = some c.First.c1 from rfl,bnoS,
    aET (a:=⟨_,c.Paths,c.Values.c1,c.First.c1⟩) h3 h1,decide_true,Bool.not_true,cK,show IntKind.wrap .i64 ((1 : Int) + 1) = 2 from rfl]
  rw [jE]
  rfl
theorem suf_no {t : List UInt8} (ht : t.length ≤ 1000000) {b : UInt8} (hb : b ≠ 10) : fO (t ++ [b]) [10] = some false:=by
  unfold fO dU
  have e2 : (((t ++ [b]).length : Int) - (([10] : List UInt8).length : Int)) = (t.length : Int):=by simp
  have e3 : decide ((([10] : List UInt8).length : Int) ≤ ((t ++ [b]).length : Int)) = true:=decide_eq_true (by simp; omega)
  have e4 : decide (([b] : List UInt8) = [10]) = false:=decide_eq_false (by simpa using hb)
  rw [bndD,bndD,e2,w64 (by omega) (by omega),e3,beq_self_eq_true,gdtt,yE (p:=t) (r:=[b]) rfl,bnoS]
  simp only [bndD,e4,Bool.and_false]
  rfl
theorem aF9 {t : List UInt8} {b : UInt8} (hb : b ≠ 10) {x : List (List UInt8)} {R : Rd35} (ht : t.length ≤ 1000000) (f : Nat) : ∃ y,parL (t ++ [b]) x (f + 1) (x.length : Int) R = some (y,0,3):=by
  unfold parL
  rw [eS]
  simp only [bndD,vB,cK,decide_eq_false (show ¬ (t ++ [b] : List UInt8) = [] by simp),Bool.not_false,beq_self_eq_true,gdtt,suf_no ht hb,bnoS,Bool.and_self,dO]
  exact ⟨_,rfl⟩
theorem aC9 {t : List UInt8} {b : UInt8} (hb : b ≠ 10) (ht : t.length ≤ 800000) {x : List (List UInt8)} (hl : x.length ≤ 800000) : ∀ {r : List (List UInt8)} {R R' : Rd35},Lines r R R' → ∀ (p : List (List UInt8)) (f : Nat),x = p ++ r → r.length < f → ∃ y,parL (t ++ [b]) x f (p.length : Int) R = some (y,0,3)
  | _, R, _, .nil _, p, f + 1, hx, _ => by
    rw [List.append_nil] at hx
    rw [← hx]
    exact aF9 hb (by omega) f
  | _, R, R', .cons (w := w) (ws := ws) h tl, p, f + 1, hx, hf => by
    rw [aC8 hx (by omega) h]
    exact aC9 hb ht hl tl (p ++ [w]) f (jZ hx) (by simpa using hf)
theorem aEq {c : Cf} (h : okC c) (hf : F32 c) {s : List UInt8} (hs : uD c = s ++ [10]) : ∃ y,eN s = some (y,0,3):=by
  obtain ⟨h1,h2,h3⟩:=h
  obtain ⟨f1,f2⟩:=hf
  have htl:=rQ c
  have hj : s = kS 10 [pLn c.Paths,vLn 0 c.Values.c0,vLn 1 c.Values.c1,fLn 0 c.First.c0,fLn 1 c.First.c1]:=by
    have : s ++ [10] = kS 10 [pLn c.Paths,vLn 0 c.Values.c0,vLn 1 c.Values.c1,fLn 0 c.First.c0,fLn 1 c.First.c1] ++ [10]:=by
      rw [← hs,tQ]
      simp only [kS,List.cons_append,List.nil_append,List.append_assoc]
    exact List.append_cancel_right this
  have hfree : ∀ w ∈ [pLn c.Paths,vLn 0 c.Values.c0,vLn 1 c.Values.c1,fLn 0 c.First.c0,fLn 1 c.First.c1],(10 : UInt8) ∉ w:=fun w hw=>by
    simp only [List.mem_cons,List.mem_nil_iff,or_false] at hw
    rcases hw with e | e | e | e | e
    · rw [e]; exact aDA h1
    · rw [e]; exact xS (by decide) h2
    · rw [e]; exact xS (by decide) h3
    · rw [e]; exact vL (by decide) f1
    · rw [e]; exact vL (by decide) f2
  have hlen : s.length ≤ 410:=by rw [hs] at htl; simp at htl; omega
  have hsp:=aCO (c:=10) (ws:=[pLn c.Paths,vLn 0 c.Values.c0,vLn 1 c.Values.c1,fLn 0 c.First.c0,fLn 1 c.First.c1]) (by simp) hfree (by rw [← hj]; omega)
  obtain ⟨t,b,ht,hb⟩ : ∃ t b,s = t ++ [b] ∧ b ≠ 10:=by
    have hne : fLn 1 c.First.c1 ≠ []:=by unfold fLn kF; simp
    have e1 : fLn 1 c.First.c1 = (fLn 1 c.First.c1).dropLast ++ [(fLn 1 c.First.c1).getLast hne]:=(List.dropLast_concat_getLast hne).symm
    refine ⟨pLn c.Paths ++ 10 :: (vLn 0 c.Values.c0 ++ 10 :: (vLn 1 c.Values.c1 ++ 10 :: (fLn 0 c.First.c0 ++ 10 :: (fLn 1 c.First.c1).dropLast))),(fLn 1 c.First.c1).getLast hne,?_,fun e=>?_⟩
    · rw [hj]
      simp only [kS,List.append_assoc,List.cons_append,← e1]
    · exact vL (i:=1) (by decide) f2 (e ▸ List.getLast_mem hne)
  unfold eN
  rw [aFO,bnoS,hj,hsp,bnoS,← hj,ht]
  have htl2 : t.length ≤ 800000:=by have:=congrArg List.length ht; simp at this; omega
  exact aC9 hb htl2 (by simp) (R:=aEP) (.cons (aEz h1 rfl) (.cons (aEy h2 rfl) (.cons (aEx h3 rfl) (.cons (aE1 f1 rfl) (.cons (aE0 f2 rfl) (.nil _)))))) [] fuel rfl (fB (by show 5 < _; decide))
theorem aCT {c : Cf} (h : okC c) (hf : F32 c) : eN (uD c) = some (c,0,0):=by
  obtain ⟨h1,h2,h3⟩:=h
  obtain ⟨f1,f2⟩:=hf
  have htl:=rQ c
  have hj : uD c = kS 10 ([pLn c.Paths,vLn 0 c.Values.c0,vLn 1 c.Values.c1,fLn 0 c.First.c0,fLn 1 c.First.c1] ++ [[]]):=by
    rw [tQ]
    simp only [kS,List.cons_append,List.nil_append,List.append_assoc]
  rw [hj] at htl ⊢
  refine parse35 (R:=⟨c,⟨true,true,true,true,true⟩⟩) (by simp) (fun w hw=>?_) (by omega) ?_ ⟨h1,h2,h3⟩
  · simp only [List.mem_cons, List.mem_nil_iff, or_false] at hw
    rcases hw with e | e | e | e | e
    · rw [e]; exact aDA h1
    · rw [e]; exact xS (by decide) h2
    · rw [e]; exact xS (by decide) h3
    · rw [e]; exact vL (by decide) f1
    · rw [e]; exact vL (by decide) f2
  · exact .cons (aEz h1 rfl) (.cons (aEy h2 rfl) (.cons (aEx h3 rfl) (.cons (aE1 f1 rfl) (.cons (aE0 f2 rfl) (.cons (ln_nil _) (.nil _))))))
theorem aCp {c : Cf} (h : okC c) (hf : F32 c) : ∃ d,iI c = some d:=by
  obtain ⟨d,h1,_⟩:=dg_L (s:=uD c) (e:=0) (by have:=rQ c; omega) (uD c) [] fuel 2166136261 rfl (fB (by have:=rQ c; omega))
  unfold iI
  rw [aHD hf h,bnoS]
  exact ⟨_,h1⟩
theorem aD2 {c : Cf} (hf : F32 c) : fM c = some true:=by
  unfold fM
  rw [conf35,bnoS]
  by_cases h : okC c
  · obtain ⟨s, hs⟩ : ∃ s, uD c = s ++ [10] := ⟨_, by rw [tQ]; simp only [← List.append_assoc]; rfl⟩
    have hne : decide (uD c = ([] : List UInt8)) = false:=decide_eq_false (by rw [hs]; simp)
    obtain ⟨y,hy⟩:=aEq h hf hs
    obtain ⟨d,hd⟩:=aCp h hf
    have htl:=rQ c
    have hsl : ((uD c).length : Int) - 1 = (s.length : Int):=by rw [hs]; simp
    have hcut : cut (uD c) 0 (s.length : Int) = some s:=by
      rw [hs]; exact aFV (p:=s) (r:=[10]) rfl
    rw [aHD hf h,bnoS]
    simp only [vO,if_pos h,bnoS,bndD,decide_true,Bool.not_true,cK,hne,Bool.or_self,aCT h hf,hsl,w64 (show -9223372036854775808 ≤ (s.length : Int) by omega) (show (s.length : Int) ≤ 9223372036854775807 by omega),hcut,hy,wnew_ok h,back35,Bool.and_self,beq_self_eq_true,gdtt,hd,aFi]
  · have pc : iH c = some ([], 8) := by unfold iH; rw [vO, if_neg h]; rfl
    rw [pc,bnoS]
    simp only [vO,if_neg h,bnoS,bndD,show decide ((8 : Int) = 0) = false from rfl,Bool.not_false,dO,decide_true,Bool.and_self,beq_self_eq_true,gdtt,aFi]
end Go.Fn
