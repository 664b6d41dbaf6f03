/-
  A part of the proof: rules and plain facts. No condition.
-/
import Derived.Test.YtfaflcdfgaoehaaGreatIlA29D
import Derived.Test.YtfaflcdfgaoehaaGreatIlTr
import Derived.KernelRfl
set_option linter.all false
open Go Go.IL
namespace Go.Fn

set_option maxRecDepth 20000 in
theorem lenJ2 {a c : Int} (h0 : 0 ≤ a) (h1 : a < 256) (h2 : 0 ≤ c) (h3 : c ≤ 56) : fZ a c = some (c + (blen a.toNat : Int)):=by
  have hb:=aEi (n:=a.toNat) (by omega)
  unfold fZ
  rw [gE,wU8 h0 h1]
  have e:=len8_at h0 h1
  rw [zT _ h0]
  have e2 : ∀ l : List UInt8,l = len8 → l[a.toNat]? = some (UInt8.ofNat (blen a.toNat)):=fun l hl=>hl ▸ e
  refine (congrArg (fun o=>bno o _) (e2 _ (by rfl))).trans ?_
  rw [dH,gE,gE]
  have hn : (UInt8.ofNat (blen a.toNat)).toNat = blen a.toNat:=by
    rw [UInt8.toNat_ofNat']; exact Nat.mod_eq_of_lt (by omega)
  rw [hn,w64 (n:=(blen a.toNat : Int)) (by omega) (by omega),w64 (by omega) (by omega)]
theorem zI {a : Int} {k : Nat} (h0 : 0 ≤ a) (h : (2 : Int) ^ k ≤ a) : (blen a.toNat : Int) = k + (blen (a / 2 ^ k).toNat : Int):=by
  have e : (a / 2 ^ k).toNat = a.toNat / 2 ^ k:=by
    obtain ⟨x,rfl⟩:=Int.eq_ofNat_of_zero_le h0
    rw [show (2 : Int) ^ k = ((2 ^ k : Nat) : Int) by simp,← Int.natCast_ediv]; simp only [Int.toNat_natCast]
  have hh : 2 ^ k ≤ a.toNat:=by
    have : ((2 ^ k : Nat) : Int) = (2 : Int) ^ k:=by simp
    omega
  rw [e,aEj hh]; omega
theorem lenJ1 {a c : Int} (h0 : 0 ≤ a) (h1 : a < 65536) (h2 : 0 ≤ c) (h3 : c ≤ 48) : gA a c = some (c + (blen a.toNat : Int)):=by
  unfold gA
  rw [gE]
  by_cases h : 256 ≤ a
  · have e := zI (k := 8) h0 (by omega)
    rw [decide_eq_true h,cond_true,vY (k:=.u64) (b:=8) 8 rfl (by decide),dH,gE,w64 (by omega) (by omega),lenJ2 (by omega) (by omega) (by omega) (by omega),e]
    congr 1; omega
  · rw [decide_eq_false h,cond_false,lenJ2 h0 (by omega) h2 (by omega)]
theorem lenJ0 {a c : Int} (h0 : 0 ≤ a) (h1 : a < 4294967296) (h2 : 0 ≤ c) (h3 : c ≤ 32) : gB a c = some (c + (blen a.toNat : Int)):=by
  unfold gB
  rw [gE]
  by_cases h : 65536 ≤ a
  · have e := zI (k := 16) h0 (by omega)
    rw [decide_eq_true h,cond_true,vY (k:=.u64) (b:=16) 16 rfl (by decide),dH,gE,w64 (by omega) (by omega),lenJ1 (by omega) (by omega) (by omega) (by omega),e]
    congr 1; omega
  · rw [decide_eq_false h,cond_false,lenJ1 h0 (by omega) h2 (by omega)]
theorem aEG {a : Int} (h0 : 0 ≤ a) (h1 : a < 18446744073709551616) : kH a = some (blen a.toNat : Int):=by
  unfold kH
  rw [gE]
  by_cases h : 4294967296 ≤ a
  · have e := zI (k := 32) h0 (by omega)
    rw [decide_eq_true h,cond_true,vY (k:=.u64) (b:=32) 32 rfl (by decide),dH,lenJ0 (by omega) (by omega) (by omega) (by omega),e]
    congr 1
  · rw [decide_eq_false h, cond_false, lenJ0 h0 (by omega) (by omega) (by omega)]
    congr 1; omega
theorem len_is {a : Int} (h0 : 0 ≤ a) (h1 : a < 18446744073709551616) : lS a = some (blen a.toNat : Int):=by
  unfold lS; rw [aEG h0 h1]; rfl

theorem aDE {n : Int} (hb : ¬ vbad n) : ∀ (k : Nat) (i : Int),(4 - i).toNat < k → 0 ≤ i → i ≤ gU n → iT n k i = some (gU n):=by
  have hn : 0 ≤ n ∧ n ≤ 4611686018427387903:=by unfold vbad at hb; omega
  have hr:=pN n
  intro k
  induction k with
  | zero=>intro i h; omega
  | succ k ih =>
    intro i h h0 hi
    unfold iT
    have hs:=aDD hn.1 hn.2 h0 (show i < 4 by omega)
    have hr2:=aCs h0 (show i < 4 by omega)
    simp only [gE,decide_eq_true (show i < 4 by omega),cond_true,wU64 hn.1 (show n < 18446744073709551616 by omega),len_is hn.1 (show n < 18446744073709551616 by omega),dH,aCt (vZ (.inl rfl) h0 (show i < 4 by omega))]
    rw [w64 (by omega) (by omega),w64 (by omega) (by omega)]
    by_cases hc : (blen n.toNat : Int) ≤ 8 * 2 ^ i.toNat - 2
    · rw [decide_eq_true hc,cond_true]; congr 1; have:=hs.1 hc; omega
    · rw [decide_eq_false hc,cond_false]; exact ih _ (by omega) (by omega) (by have:=mt hs.2 hc; omega)
theorem aDF (n : Int) : mB n = some (gU n):=by
  unfold mB
  simp only [gE]
  by_cases hb : vbad n
  · rw [aCl hb]
    have : (decide (n < 0) || decide (4611686018427387903 < n)) = true:=by simpa [vbad] using hb
    rw [this,cond_true]
  · have : (decide (n < 0) || decide (4611686018427387903 < n)) = false := by simpa [vbad] using hb
    have hk : 0 ≤ gU n:=by rcases rJ n with h | h; exact absurd h.1 hb; exact h.2.1
    rw [this,cond_false,aDE hb _ _ (fF (by decide)) (by omega) hk]

theorem aEA {n : Int} {m : Nat} (hb : ¬ vbad n) (hm : (mX n).toNat = m + 1) (hk : 0 ≤ gU n) : ∀ (k j : Nat), m + 1 - j < k → j ≤ m + 1 →
    jH (gU n) k (n / 256 ^ j) (List.replicate (m + 1 - j) 0 ++ beb n j) ((m : Int) - j) = some (vput n,0):=by
  have hk3:=(pN n).2
  have hm7 : m ≤ 7:=by have:=pM n; omega
  intro k
  induction k with
  | zero=>intro j h; omega
  | succ k ih =>
    intro j h hj
    unfold jH
    simp only [gE]
    by_cases hc : j = m + 1
    · subst hc
      have ht:=aAN hb hm
      rw [decide_eq_false (by omega),cond_false]
      simp only [Nat.sub_self,List.replicate_zero,List.nil_append]
      have eb : beb n (m + 1) = by8 (n / 256 ^ m) :: beb n m:=rfl
      rw [eb]
      simp only [zT _ (Int.le_refl 0),Int.toNat_zero,List.getElem?_cons_zero,dH,aCt (aCI hk (show gU n < 4 by omega)),List.set_cons_zero]
      rw [wU8 (by omega) (by omega),aBC]
      have e4 : n / 256 ^ m % 256 = n / 256 ^ m:=Int.emod_eq_of_lt ht.1 (by omega)
      have e3 : orI .u8 (n / 256 ^ m) (64 * gU n) = n / 256 ^ m + 64 * gU n:=int_e (or_mark (by omega) (by omega) hk (by omega)) rfl
      rw [e4,e3,aBF (by omega) (by omega),dH,aBE hm,e4]
      congr 4; omega
    · have hq0 : 0 ≤ n / 256 ^ j := Int.ediv_nonneg (by unfold vbad at hb; omega) (Int.le_of_lt (Int.pow_pos (by decide)))
      obtain ⟨q,hq⟩ : ∃ q,m + 1 - j = q + 1:=⟨m - j,by omega⟩
      have hmj : (m : Int) - j = (q : Int):=by omega
      rw [hmj,decide_eq_true (by omega),cond_true,aCj,hq]
      have e1 : (List.replicate (q + 1) (0 : UInt8) ++ beb n j)[q]? = some 0:=by
        rw [List.getElem?_append_left (by simp),List.getElem?_replicate,if_pos (by omega)]
      simp only [lV,e1,dH,Int.toNat_natCast]
      rw [aBF (by omega) (by omega),dH,aCu,vY (k:=.i64) (b:=8) 8 rfl (by decide),dH,w64 (by omega) (by omega)]
      have:=ih (j + 1) (by omega) (by omega)
      rw [show m + 1 - (j + 1) = q by omega,show (m : Int) - ((j + 1 : Nat) : Int) = (q : Int) - 1 by omega,← aB0] at this
      exact this
theorem aE4 (n : Int) : nK n = some (vput n,if vbad n then 8 else 0):=by
  unfold nK
  rw [aDF,dH,gE]
  by_cases hb : vbad n
  · rw [decide_eq_true (vU.2 hb),cond_true,aDz hb,if_pos hb]
  · have hk : 0 ≤ gU n := by rcases rJ n with h | h; exact absurd h.1 hb; exact h.2.1
    obtain ⟨m,hm7,hm,hp,_⟩:=aBj hk
    have hk3:=(pN n).2
    rw [decide_eq_false (by omega),cond_false,if_neg hb,aCt (vZ (.inr (.inl rfl)) hk (by omega)),dH,Int.one_mul,hp,aDB (by omega) (by omega) (by omega),dH,gE]
    simp only [Int.toNat_natCast,List.length_replicate]
    rw [w64 (by omega) (by omega)]
    have:=aEA hb hm hk fuel 0 (fF (by omega)) (by omega)
    simp only [beb,Int.pow_zero,Int.ediv_one,List.append_nil,Nat.sub_zero,Int.natCast_zero,Int.sub_zero] at this
    rw [show ((m + 1 : Nat) : Int) - 1 = (m : Int) by omega]
    exact this
theorem aEW {b : UInt8} {q : List UInt8} {x6 : Int} (hq : q.length ≤ 7) : ∀ (k j : Nat), q.length - j < k → j ≤ q.length →
    jI ((b.toNat / 64 : Nat) : Int) x6 q k (beN (b.toNat % 64) (q.take j)) (j : Int) = some (if gU (beN (b.toNat % 64) q) = ((b.toNat / 64 : Nat) : Int) then (beN (b.toNat % 64) q,x6,0) else (0,0,4)):=by
  intro k
  induction k with
  | zero=>intro j h; omega
  | succ k ih =>
    intro j h hj
    unfold jI
    simp only [gE]
    have ha:=get_acc (b:=b) (l:=q) j hj (by omega)
    by_cases hc : j = q.length
    · subst hc
      rw [decide_eq_false (by omega),cond_false,aDF,dH,List.take_length]
      by_cases hv : gU (beN (b.toNat % 64) q) = ((b.toNat / 64 : Nat) : Int)
      · rw [decide_eq_true hv,if_pos hv]; rfl
      · rw [decide_eq_false hv,if_neg hv]; rfl
    · have hlt : j < q.length := by omega
      have hc8:=(q[j]).toNat_lt
      have h6:=ha.2.2 (by omega)
      rw [decide_eq_true (by omega),cond_true,lV,List.getElem?_eq_getElem hlt,dH,aCt (shl_8 ha.1 (by omega)),dH,w64 (n:=((q[j]).toNat : Int)) (by omega) (by omega)]
      have e : orI .i64 (beN (b.toNat % 64) (q.take j) * 256) ((q[j]).toNat : Int) = beN (b.toNat % 64) (q.take (j + 1)):=by
        rw [aEm (List.getElem?_eq_getElem hlt)]
        exact int_e (or_low ha.1 (by omega) (by omega) (by omega)) rfl
      rw [e,w64 (by omega) (by omega)]
      exact ih (j + 1) (by omega) (by omega)
theorem aDd (s : List UInt8) : mD s = some (vget s):=by
  unfold mD
  simp only [gE]
  cases s with
  | nil=>rfl
  | cons b r =>
    have hb:=b.toNat_lt
    have hk:=Go.IL.k4 b
    have hp:=zA hk
    rw [decide_eq_false (by simp),cond_false]
    simp only [zT _ (Int.le_refl 0),Int.toNat_zero,List.getElem?_cons_zero,dH]
    rw [vY (k:=.u8) (b:=6) 6 rfl (by decide),dH]
    have e1 : ((b.toNat : Int) / 2 ^ 6) = ((b.toNat / 64 : Nat) : Int):=rfl
    rw [e1,w64 (by omega) (by omega),aCt (vZ (.inr (.inl rfl)) (by omega) (by omega)),dH,Int.one_mul,Int.toNat_natCast]
    have e2 : (2 : Int) ^ (b.toNat / 64) = ((2 ^ (b.toNat / 64) : Nat) : Int):=by simp
    rw [e2]
    by_cases hh : (b :: r).length < 2 ^ (b.toNat / 64)
    · rw [decide_eq_true (by omega),cond_true,oS hh]
    · rw [decide_eq_false (by omega), cond_false]
      have e3 : andI .u8 (b.toNat : Int) 63 = (b.toNat : Int) % 64:=int_e (and63 b) rfl
      rw [e3,w64 (by omega) (by omega),aDk (by omega) (by omega) (by omega),dH,aCH hp.1]
      have hl:=aDc hh
      have:=aEW (b:=b) (x6:=((2 ^ (b.toNat / 64) : Nat) : Int)) (q:=r.take (2 ^ (b.toNat / 64) - 1)) (by omega) fuel 0 (fF (by omega)) (by omega)
      simp only [List.take_zero,beN,List.foldl_nil,Int.natCast_zero] at this
      rw [this]
      simp only [vget,if_neg hh,beN]
end Go.Fn
open Go Go.IL
namespace Go.Fn
theorem fuel_is (k : Nat) (h : k < 100) : ∃ m,fuel = m + k:=⟨2 ^ 64 - k,by show 2 ^ 64 = _; omega⟩
theorem sX {i : Nat} {n : Nat} (h : i < n) (hn : n ≤ 1000000) : IntKind.wrap .i64 ((i : Int) + 1) = ((i + 1 : Nat) : Int):=by rw [w64 (by omega) (by omega)]; omega

def inb (n a b : Int) : Bool:=decide (a ≤ n) && decide (n ≤ b)
theorem in_is (n a b : Int) : lW n a b = some (inb n a b):=rfl
def qG (p : bK) : Bool:=inb p.ID 0 1099511627776 && inb p.Value 0 1099511627776
theorem aEp (p : bK) : gJ p = some (!qG p):=by
  unfold gJ qG
  simp only [in_is,dH,gE]
  cases inb p.ID 0 1099511627776 <;> simp [gd,dH]
theorem aET {l : List bK} (hl : l.length ≤ 1000000) : ∀ (k i : Nat), l.length - i < k → i ≤ l.length → (∀ x ∈ l.take i, qG x = true) →
    ∃ n,cE l k (i : Int) = some n ∧ decide (0 ≤ n) = !l.all qG:=by
  intro k
  induction k with
  | zero=>intro i h; omega
  | succ k ih =>
    intro i h hi ha
    unfold cE
    simp only [gE]
    by_cases hc : i < l.length
    · rw [decide_eq_true (by omega), cond_true, lV, List.getElem?_eq_getElem hc, dH, aEp, dH]
      cases hp : qG l[i] with
      | false =>
        refine ⟨i,rfl,?_⟩
        have : l.all qG = false:=by
          rw [List.all_eq_false]; exact ⟨l[i],List.getElem_mem hc,by simp [hp]⟩
        rw [this]; simp
      | true =>
        simp only [Bool.not_true,cond_false]
        rw [sX hc hl]
        exact ih (i + 1) (by omega) (by omega) (by
          rw [List.take_succ_eq_append_getElem hc]
          intro x hx
          rcases List.mem_append.1 hx with h | h
          · exact ha x h
          · simp at h; subst h; exact hp)
    · rw [decide_eq_false (by omega), cond_false]
      refine ⟨-1,rfl,?_⟩
      have : i = l.length:=by omega
      subst this
      rw [List.take_length] at ha
      rw [List.all_eq_true.2 ha]; rfl
theorem aBg {l : List bK} (hl : l.length ≤ 1000000) : cV l = some (!l.all qG):=by
  unfold cV dL
  obtain ⟨n,h1,h2⟩:=aET hl fuel 0 (fF (by omega)) (Nat.zero_le _) (by simp)
  rw [show ((0 : Nat) : Int) = 0 from rfl] at h1
  rw [h1,dH,gE,h2]

def rngs (f : aH) (a b c : Int) : Bool :=
  f.Pairs.all qG && inb f.Stream 0 1048576 && inb f.Offset 0 1099511627776 && inb f.Dep 0 1048576 && inb f.N a b && inb f.Code 0 c
def rng (f : aH) : Bool :=
  if f.Kind = 8 then rngs f 1 1099511627776 255 else if f.Kind = 10 then rngs f 0 3 1 else
  if f.Kind = 1 ∨ f.Kind = 2 then inb f.Weight 1 256 && rngs f 0 1099511627776 255 else rngs f 0 1099511627776 255
theorem rJ1 {f : aH} (hl : f.Pairs.length ≤ 1000000) (a b c : Int) : eB f a b c = some (rngs f a b c):=by
  unfold eB rngs
  simp only [aBg hl,in_is,dH,gE]
  cases f.Pairs.all qG <;> cases inb f.N a b <;> cases inb f.Code 0 c <;> cases inb f.Stream 0 1048576 <;> cases inb f.Dep 0 1048576 <;> cases inb f.Offset 0 1099511627776 <;> rfl
theorem aC3 {f : aH} (hl : f.Pairs.length ≤ 1000000) : iS f = some (rng f):=by
  unfold iS rng fY
  simp only [rJ1 hl,in_is,dH,gE]
  by_cases h8 : f.Kind = 8
  · simp [h8]
  by_cases h10 : f.Kind = 10
  · simp [h10]
  by_cases h1 : f.Kind = 1
  · simp [h1]; cases inb f.Weight 1 256 <;> simp
  by_cases h2 : f.Kind = 2
  · simp [h2]; cases inb f.Weight 1 256 <;> simp
  simp [h8,h10,h1,h2]
theorem eq_loop {p q : List bK} (hp : p.length ≤ 1000000) (hq : p.length = q.length) : ∀ (k i : Nat), p.length - i < k → i ≤ p.length → p.take i = q.take i → cZ p q k (i : Int) = some (decide (p = q)) := by
  intro k
  induction k with
  | zero=>intro i h; omega
  | succ k ih =>
    intro i h hi ha
    unfold cZ
    simp only [gE]
    by_cases hc : i < p.length
    · have hc2 : i < q.length := by omega
      rw [decide_eq_true (by omega),cond_true,lV,List.getElem?_eq_getElem hc,dH,lV,List.getElem?_eq_getElem hc2,dH]
      have e : (decide ((p[i]).ID = (q[i]).ID) && (decide ((p[i]).Value = (q[i]).Value) && true)) = decide (p[i] = q[i]):=by
        cases hp2 : p[i]; cases hq2 : q[i]; simp [bK.mk.injEq,Bool.decide_and]
      rw [e]
      by_cases hx : p[i] = q[i]
      · rw [decide_eq_true hx]; simp only [Bool.not_true, cond_false]
        rw [sX hc hp]
        exact ih (i + 1) (by omega) (by omega) (by rw [List.take_succ_eq_append_getElem hc,List.take_succ_eq_append_getElem hc2,ha,hx])
      · have hne : p ≠ q := fun h => hx (by subst h; rfl)
        rw [decide_eq_false hx,decide_eq_false hne]; rfl
    · rw [decide_eq_false (by omega), cond_false]
      have : i = p.length:=by omega
      subst this
      rw [List.take_length,hq,List.take_length] at ha
      rw [decide_eq_true ha]
theorem aEc {p q : List bK} (hp : p.length ≤ 1000000) (hq : q.length ≤ 1000000) : eA p q = some (decide (p = q)):=by
  unfold eA
  simp only [gE]
  by_cases h : p.length = q.length
  · rw [decide_eq_true (by omega)]; simp only [Bool.not_true, cond_false]
    exact eq_loop hp h fuel 0 (fF (by omega)) (Nat.zero_le _) (by simp)
  · rw [decide_eq_false (by omega)]
    have : p ≠ q:=fun e=>h (by rw [e])
    rw [decide_eq_false this]; rfl
theorem aDe {a b : aH} : a = b ↔ a.Kind = b.Kind ∧ a.Flag = b.Flag ∧ a.Stream = b.Stream ∧ a.Offset = b.Offset ∧ a.Dep = b.Dep ∧ a.Weight = b.Weight ∧ a.N = b.N ∧ a.Code = b.Code ∧ a.Pairs = b.Pairs ∧ a.Data = b.Data:=by
  cases a; cases b; simp
theorem xG (a b : aH) : decide (a = b) = (decide (a.Kind = b.Kind) && (a.Flag == b.Flag) && decide (a.Pairs = b.Pairs) && (decide (a.Stream = b.Stream) && decide (a.Offset = b.Offset) && decide (a.Dep = b.Dep) && decide (a.Weight = b.Weight) && decide (a.N = b.N) && decide (a.Code = b.Code) && decide (a.Data = b.Data))):=by
  rw [Bool.eq_iff_iff]
  simp only [decide_eq_true_eq,Bool.and_eq_true,beq_iff_eq,aDe]
  constructor
  · rintro ⟨h1,h2,h3,h4,h5,h6,h7,h8,h9,h10⟩; exact ⟨⟨⟨h1,h2⟩,h9⟩,⟨⟨⟨⟨⟨h3,h4⟩,h5⟩,h6⟩,h7⟩,h8⟩,h10⟩
  · rintro ⟨⟨⟨h1,h2⟩,h9⟩,⟨⟨⟨⟨⟨h3,h4⟩,h5⟩,h6⟩,h7⟩,h8⟩,h10⟩; exact ⟨h1,h2,h3,h4,h5,h6,h7,h8,h9,h10⟩
theorem same_is {a b : aH} (ha : a.Pairs.length ≤ 1000000) (hb : b.Pairs.length ≤ 1000000) : pG a b = some (decide (a = b)):=by
  unfold pG
  simp only [gE]
  rw [xG,aEc ha hb]
  generalize (decide (a.Stream = b.Stream) && decide (a.Offset = b.Offset) && decide (a.Dep = b.Dep) && decide (a.Weight = b.Weight) && decide (a.N = b.N) && decide (a.Code = b.Code) && decide (a.Data = b.Data)) = z
  cases decide (a.Kind = b.Kind) <;> cases (a.Flag == b.Flag) <;> cases decide (a.Pairs = b.Pairs) <;> simp [gd,dH]
theorem aCL {a b : aH} (ha : a.Pairs.length ≤ 1000000) (hq : a.Pairs.length = b.Pairs.length) : ∀ (k i : Nat), a.Pairs.length - i < k → i ≤ a.Pairs.length → a.Pairs.take i = b.Pairs.take i → fA a b k (i : Int) = some (decide (a = b)) := by
  intro k
  induction k with
  | zero=>intro i h; omega
  | succ k ih =>
    intro i h hi hta
    unfold fA
    simp only [gE]
    by_cases hc : i < a.Pairs.length
    · have hc2 : i < b.Pairs.length := by omega
      rw [decide_eq_true (by omega),cond_true,lV,List.getElem?_eq_getElem hc,dH,lV,List.getElem?_eq_getElem hc2,dH]
      have e : (decide ((a.Pairs[i]).ID = (b.Pairs[i]).ID) && (decide ((a.Pairs[i]).Value = (b.Pairs[i]).Value) && true)) = decide (a.Pairs[i] = b.Pairs[i]):=by
        cases hp2 : a.Pairs[i]; cases hq2 : b.Pairs[i]; simp [bK.mk.injEq,Bool.decide_and]
      rw [e]
      by_cases hx : a.Pairs[i] = b.Pairs[i]
      · rw [decide_eq_true hx]; simp only [Bool.not_true, cond_false]
        rw [sX hc ha]
        exact ih (i + 1) (by omega) (by omega) (by rw [List.take_succ_eq_append_getElem hc,List.take_succ_eq_append_getElem hc2,hta,hx])
      · have hne : a ≠ b := fun h => hx (by subst h; rfl)
        rw [decide_eq_false hx,decide_eq_false hne]; rfl
    · rw [decide_eq_false (by omega), cond_false]
      have : i = a.Pairs.length:=by omega
      subst this
      rw [List.take_length,hq,List.take_length] at hta
      rw [xG,decide_eq_true hta]
      simp only [Bool.and_true,Bool.and_assoc]
theorem aD7 {a b : aH} (ha : a.Pairs.length ≤ 1000000) (hb : b.Pairs.length ≤ 1000000) : jS a b = some (decide (a = b)):=by
  unfold jS
  simp only [gE]
  by_cases h : a.Pairs.length = b.Pairs.length
  · rw [decide_eq_true (by omega)]; simp only [Bool.not_true, cond_false]
    exact aCL ha h fuel 0 (fF (by omega)) (Nat.zero_le _) (by simp)
  · rw [decide_eq_false (by omega)]
    have : a ≠ b:=fun e=>h (by rw [e])
    rw [decide_eq_false this]; rfl
end Go.Fn
open Go Go.IL
namespace Go.Fn

def lR (k : Int) : List Nat :=
  if k = 0 then [2,3] else if k = 9 then [2,3] else if k = 1 then [2,4,5] else if k = 2 then [2,4,5] else if k = 3 then [2,6,7] else if k = 7 then [2,7] else
  if k = 8 then [2,6] else if k = 6 then [6] else if k = 10 then [6,7] else []
def oF (k : Int) : Bool:=decide (k ≤ 10) && !decide (k = 5)
def flgK (k : Int) : Bool:=decide (k = 0) || decide (k = 1) || decide (k = 2) || decide (k = 4) || decide (k = 6) || decide (k = 9)
def nv (f : aH) (o : Nat) : Int:=if o = 2 then f.Stream else if o = 3 then f.Offset else if o = 4 then f.Dep else if o = 5 then f.Weight else if o = 6 then f.N else f.Code
def zr (f : aH) (o : Nat) : Bool:=(lR f.Kind).contains o || decide (nv f o = 0)
def spr (f : aH) : Bool :=
  !(zr f 2 && zr f 3 && zr f 4 && zr f 5 && zr f 6 && zr f 7) || (!decide (f.Kind = 0) && !decide (f.Data = [])) || (!decide (f.Kind = 4) && !decide (f.Pairs = [])) || (f.Flag && (!flgK f.Kind || !decide (f.Pairs = [])))
def chkF (f : aH) : Int :=
  if oF f.Kind = false then 12 else if rng f = false then 8 else if 32 < f.Data.length ∨ 4 < f.Pairs.length then 5 else if spr f then 4 else 0

theorem uM (f : aH) : eP f = some (lR f.Kind):=by
  have a3 : ∀ l : List Nat,l.length ≤ 3 → app 8 [] l = some l:=fun l hl=>kV (by simp; omega) (by simp; omega)
  unfold eP lR fE
  simp only [gE]
  by_cases h0 : f.Kind = 0
  · simp [h0,a3,dH]
  by_cases h9 : f.Kind = 9
  · simp [h9,a3,dH]
  by_cases h1 : f.Kind = 1
  · simp [h1,a3,dH]
  by_cases h2 : f.Kind = 2
  · simp [h2,a3,dH]
  by_cases h3 : f.Kind = 3
  · simp [h3,a3,dH]
  by_cases h7 : f.Kind = 7
  · simp [h7,a3,dH]
  by_cases h8 : f.Kind = 8
  · simp [h8,a3,dH,app]
  by_cases h6 : f.Kind = 6
  · simp [h6,a3,dH]
  by_cases h10 : f.Kind = 10
  · simp [h10,a3,dH]
  simp [h0,h9,h1,h2,h3,h7,h8,h6,h10]
theorem aCc (k : Int) : lX k = some (flgK k):=by
  unfold lX flgK
  simp only [gE]
  by_cases h0 : k = 0
  · simp [h0]
  by_cases h1 : k = 1
  · simp [h1]
  by_cases h2 : k = 2
  · simp [h2]
  by_cases h4 : k = 4
  · simp [h4]
  by_cases h6 : k = 6
  · simp [h6]
  by_cases h9 : k = 9
  · simp [h9]
  simp [h0,h1,h2,h4,h6,h9]
theorem aBs (k : Int) : nW k = some (oF k):=rfl

theorem bare_J (f : aH) (a b c d e g : Int) (p : List bK) (q : List UInt8) : eQ f a b c d e g p q = some ⟨f.Kind,!flgK f.Kind && f.Flag,a,b,c,d,e,g,p,q⟩:=by
  unfold eQ
  rw [aCc,dH]
  cases flgK f.Kind <;> simp
def aDt (f : aH) : List bK:=if f.Kind = 4 ∧ f.Flag = false then [] else f.Pairs
def aDv (f : aH) : List UInt8:=if f.Kind = 0 then [] else f.Data
def bz (l : List Nat) (o : Nat) (v : Int) : Int:=bif l.contains o then 0 else v
theorem aEo (f : aH) (l : List Nat) (k i : Nat) (h : i = l.length) (a b c d e g : Int) : eD f l (k + 1) (i : Int) a b c d e g = some ⟨f.Kind,!flgK f.Kind && f.Flag,a,b,c,d,e,g,aDt f,aDv f⟩:=by
  unfold eD aDt aDv
  simp only [gE]
  rw [decide_eq_false (by omega),cond_false]
  simp only [bare_J]
  by_cases h0 : f.Kind = 0
  · simp [h0]
  by_cases h4 : f.Kind = 4
  · cases hf : f.Flag <;> simp [h4,hf]
  simp [h0,h4]
theorem aEU {a b c d e g : Int} {o : Nat} (h : 2 ≤ o) (h2 : o ≤ 7) : ∃ x,zS [none,none,some a,some b,some c,some d,some e,some g,none,none] o = some x:=by
  obtain rfl | rfl | rfl | rfl | rfl | rfl : o = 2 ∨ o = 3 ∨ o = 4 ∨ o = 5 ∨ o = 6 ∨ o = 7:=by omega
  all_goals exact ⟨_,rfl⟩
theorem aDs (f : aH) (l : List Nat) (hl : l.length ≤ 1000) (hr : ∀ o ∈ l, 2 ≤ o ∧ o ≤ 7) : ∀ (k i : Nat) (a b c d e g : Int), l.length - i < k → i ≤ l.length →
    eD f l k (i : Int) a b c d e g = some ⟨f.Kind,!flgK f.Kind && f.Flag,bz (l.drop i) 2 a,bz (l.drop i) 3 b,bz (l.drop i) 4 c,bz (l.drop i) 5 d,bz (l.drop i) 6 e,bz (l.drop i) 7 g,aDt f,aDv f⟩:=by
  intro k
  induction k with
  | zero=>intro i _ _ _ _ _ _ h; omega
  | succ k ih =>
    intro i a b c d e g h hi
    by_cases hc : i = l.length
    · rw [aEo f l k i hc,hc,List.drop_length]; rfl
    · have hlt : i < l.length := by omega
      unfold eD
      simp only [gE]
      have hx:=hr _ (List.getElem_mem hlt)
      obtain ⟨x,hxx⟩:=aEU (a:=a) (b:=b) (c:=c) (d:=d) (e:=e) (g:=g) hx.1 hx.2
      rw [decide_eq_true (by omega),cond_true,lV,Int.toNat_natCast,List.getElem?_eq_getElem hlt,dH,dH,hxx,dH,sX hlt (by omega),ih (i + 1) _ _ _ _ _ _ (by omega) (by omega)]
      rw [List.drop_eq_getElem_cons hlt]
      have z : ∀ (o : Nat) (v : Int),bz (l.drop (i + 1)) o (bif Nat.beq l[i] o then 0 else v) = bz (l[i] :: l.drop (i + 1)) o v:=by
        intro o v
        unfold bz
        rw [List.contains_cons]
        by_cases ho : l[i] = o
        · subst ho; simp [Nat.beq_refl]
        · rw [aDp ho,show (o == l[i]) = false by simp; exact fun h=>ho h.symm]; simp
      simp only [z]
theorem kG (k : Int) : (lR k).length ≤ 3 ∧ ∀ o ∈ lR k,2 ≤ o ∧ o ≤ 7:=by
  unfold lR; (repeat' split) <;> decide
def aDu (f : aH) : aH :=
  ⟨f.Kind,!flgK f.Kind && f.Flag,bz (lR f.Kind) 2 f.Stream,bz (lR f.Kind) 3 f.Offset,bz (lR f.Kind) 4 f.Dep,bz (lR f.Kind) 5 f.Weight,bz (lR f.Kind) 6 f.N,bz (lR f.Kind) 7 f.Code,aDt f,aDv f⟩
theorem bare_is (f : aH) : jU f = some (aDu f):=by
  unfold jU
  rw [uM,dH]
  have hb:=kG f.Kind
  have:=aDs f (lR f.Kind) (by omega) hb.2 fuel 0 f.Stream f.Offset f.Dep f.Weight f.N f.Code (fF (by omega)) (Nat.zero_le _)
  unfold aDu
  simpa using this
theorem uQ (f : aH) (o : Nat) : decide (bz (lR f.Kind) o (nv f o) = 0) = zr f o:=by
  unfold bz zr; cases (lR f.Kind).contains o <;> simp
theorem aEn (f : aH) : decide (aDu f = ⟨f.Kind,false,0,0,0,0,0,0,[],[]⟩) = !spr f:=by
  rw [xG]
  unfold aDu spr
  simp only
  have e2:=uQ f 2
  have e3:=uQ f 3
  have e4:=uQ f 4
  have e5:=uQ f 5
  have e6:=uQ f 6
  have e7:=uQ f 7
  simp only [nv] at e2 e3 e4 e5 e6 e7
  simp only [if_true,show (3 = 2) = False by simp,show (4 = 2) = False by simp,show (4 = 3) = False by simp,show (5 = 2) = False by simp,show (5 = 3) = False by simp,show (5 = 4) = False by simp,show (6 = 2) = False by simp,show (6 = 3) = False by simp,show (6 = 4) = False by simp,show (6 = 5) = False by simp,show (7 = 2) = False by simp,show (7 = 3) = False by simp,show (7 = 4) = False by simp,show (7 = 5) = False by simp,show (7 = 6) = False by simp,if_false] at e2 e3 e4 e5 e6 e7
  rw [e2,e3,e4,e5,e6,e7]
  generalize (zr f 2 && zr f 3 && zr f 4 && zr f 5 && zr f 6 && zr f 7) = z
  unfold aDt aDv
  by_cases h0 : f.Kind = 0
  · have : flgK f.Kind = true := by rw [h0]; rfl
    cases z <;> by_cases hp : f.Pairs = [] <;> simp [h0,hp,this,show flgK 0 = true from rfl]
  by_cases h4 : f.Kind = 4
  · cases z <;> by_cases hp : f.Pairs = [] <;> by_cases hd : f.Data = [] <;> cases hf : f.Flag <;> simp [h4,hp,hf,hd,show flgK 4 = true from rfl]
  · cases z <;> by_cases hp : f.Pairs = [] <;> by_cases hd : f.Data = [] <;> cases hf : f.Flag <;> cases hg : flgK f.Kind <;> simp [h0,h4,hp,hf,hg,hd]
theorem aB3 {f : aH} (hl : f.Pairs.length ≤ 1000000) : mJ f = some (chkF f) := by
  have hJ : ∀ b,jY f b = some (if b then 5 else if spr f then 4 else 0):=by
    intro b
    unfold jY
    cases b with
    | true=>rfl
    | false =>
      have hb : (aDu f).Pairs.length ≤ 1000000:=by
        show (if f.Kind = 4 ∧ f.Flag = false then [] else f.Pairs).length ≤ _
        split
        · simp
        · exact hl
      rw [cond_false,bare_is,dH,same_is hb (by simp),dH,aEn]
      cases spr f <;> rfl
  unfold mJ chkF
  simp only [aBs,dH,gE,aC3 hl,hJ]
  cases hk : oF f.Kind with
  | false=>rfl
  | true =>
    simp only [Bool.not_true,cond_false]
    cases hr : rng f with
    | false=>rfl
    | true =>
      simp only [Bool.not_true,cond_false]
      by_cases h1 : 32 < f.Data.length
      · have : (32 : Int) < f.Data.length := by omega
        simp [h1,this]
      · have : ¬ (32 : Int) < f.Data.length := by omega
        by_cases h2 : 4 < f.Pairs.length
        · have h3 : (4 : Int) < f.Pairs.length := by omega
          simp [h1,this,h2,h3]
        · have h3 : ¬ (4 : Int) < f.Pairs.length := by omega
          simp [h1,this,h2,h3]
end Go.Fn
open Go Go.IL
namespace Go.Fn
end Go.Fn
open Go Go.IL
namespace Go.Fn
theorem aDH {l : List Int} (hl : l.length ≤ 1000000) : ∀ (k i : Nat), l.length - i < k → i ≤ l.length → (∀ x ∈ l.take i, ¬ vbad x) → iU l k ((l.take i).flatMap vput) (i : Int) = some (vG l) := by
  intro k
  induction k with
  | zero=>intro i h; omega
  | succ k ih =>
    intro i h hi ha
    unfold iU
    simp only [gE]
    by_cases hc : i < l.length
    · rw [decide_eq_true (by omega), cond_true, lV, List.getElem?_eq_getElem hc, dH, aE4, dH]
      have hq : l[i]? = some l[i]:=List.getElem?_eq_getElem hc
      have h8:=sU l[i]
      have hfl:=aA2 (l:=l) i (by omega)
      by_cases hb : vbad l[i]
      · rw [if_pos hb,aCm hq hb]; rfl
      · simp only [if_neg hb, decide_true, Bool.not_true, cond_false]
        rw [kV (by omega) (by omega),dH,sX hc (by omega),← flat_take hq]
        exact ih (i + 1) (by omega) (by omega) (aEr ha hq hb)
    · have : i = l.length := by omega
      subst this
      rw [decide_eq_false (by omega),cond_false,List.take_length]
      rw [List.take_length] at ha
      rw [yP ha]
theorem join_is {l : List Int} (hl : l.length ≤ 1000000) : mC l = some (vG l):=by
  unfold mC pO
  have:=aDH hl fuel 0 (fF (by omega)) (Nat.zero_le _) (by simp)
  simp only [List.take_zero,List.flatMap_nil] at this
  rw [show (0 : Int) = ((0 : Nat) : Int) from rfl,this,dH]
theorem aAJ (l : List Int) : (vG l).1.length ≤ 8 * l.length:=by
  unfold vG; split
  · exact qC l
  · simp
def pl (l : List bK) : List Int:=l.flatMap fun p=>[p.ID,p.Value]
theorem yA : ∀ (l : List bK),(pl l).length = 2 * l.length
  | []=>rfl
  | p :: l => by
    have:=yA l
    simp only [pl,List.flatMap_cons,List.length_append,List.length_cons,List.length_nil] at this ⊢
    omega
def vals (f : aH) : List Int:=(lR f.Kind).map (nv f) ++ pl f.Pairs
def pay (f : aH) : List UInt8:=(vG (vals f)).1 ++ f.Data
def Lite (f : aH) : Prop:=f.Pairs.length ≤ 1000 ∧ f.Data.length ≤ 1000
theorem aD0 (f : aH) : (vals f).length ≤ 3 + 2 * f.Pairs.length:=by
  unfold vals
  rw [List.length_append,List.length_map,yA]
  have:=(kG f.Kind).1; omega
theorem pay_end {f : aH} (h : Lite f) (l : List Int) (hl : l.length ≤ 3000) : (bno (mC l) fun x42=>bno (cat x42.1 f.Data) fun x43=>some x43) = some ((vG l).1 ++ f.Data):=by
  rw [join_is (by omega),dH]
  have:=aAJ l
  rw [vE (by have:=h.2; omega),dH]
theorem pl_step {l : List bK} {i : Nat} (hc : i < l.length) : pl (l.take (i + 1)) = pl (l.take i) ++ [l[i].ID,l[i].Value]:=by
  unfold pl; rw [List.take_succ_eq_append_getElem hc,List.flatMap_append]; rfl
theorem pay_L1 {f : aH} (h : Lite f) (a : List Int) (ha : a.length ≤ 3) : ∀ (k i : Nat),f.Pairs.length - i < k → i ≤ f.Pairs.length → eI f k (a ++ pl (f.Pairs.take i)) (i : Int) = some ((vG (a ++ pl f.Pairs)).1 ++ f.Data):=by
  have hp:=h.1
  intro k
  induction k with
  | zero=>intro i h; omega
  | succ k ih =>
    intro i hk hi
    unfold eI
    simp only [gE]
    by_cases hc : i < f.Pairs.length
    · have hpl := yA (f.Pairs.take i)
      rw [List.length_take] at hpl
      rw [decide_eq_true (by omega),cond_true,lV,List.getElem?_eq_getElem hc,dH,kV (by simp only [List.length_append,List.length_cons,List.length_nil]; omega) (by simp only [List.length_append,List.length_cons,List.length_nil]; omega),dH,sX hc (by omega),List.append_assoc,← pl_step hc]
      exact ih (i + 1) (by omega) (by omega)
    · have : i = f.Pairs.length := by omega
      subst this
      rw [decide_eq_false (by omega),cond_false,List.take_length]
      exact pay_end h _ (by rw [List.length_append,yA]; omega)
theorem aBy (f : aH) {o : Nat} (h : 2 ≤ o) (h2 : o ≤ 7) : zS [none,none,some f.Stream,some f.Offset,some f.Dep,some f.Weight,some f.N,some f.Code,none,none] o = some (nv f o):=by
  obtain rfl | rfl | rfl | rfl | rfl | rfl : o = 2 ∨ o = 3 ∨ o = 4 ∨ o = 5 ∨ o = 6 ∨ o = 7:=by omega
  all_goals rfl
theorem aED {α β : Type} {l : List α} {g : α → β} {i : Nat} (hc : i < l.length) : (l.take (i + 1)).map g = (l.take i).map g ++ [g l[i]]:=by
  rw [List.take_succ_eq_append_getElem hc,List.map_append]; rfl
theorem pay_L0 {f : aH} (h : Lite f) {l : List Nat} (hl : l.length ≤ 3) (hr : ∀ o ∈ l,2 ≤ o ∧ o ≤ 7) : ∀ (k i : Nat),l.length - i < k → i ≤ l.length → eJ f l k ((l.take i).map (nv f)) (i : Int) = some ((vG (l.map (nv f) ++ pl f.Pairs)).1 ++ f.Data):=by
  intro k
  induction k with
  | zero=>intro i h; omega
  | succ k ih =>
    intro i hk hi
    unfold eJ
    simp only [gE]
    by_cases hc : i < l.length
    · have hx := hr _ (List.getElem_mem hc)
      rw [decide_eq_true (by omega),cond_true,lV,Int.toNat_natCast,List.getElem?_eq_getElem hc,dH,dH,aBy f hx.1 hx.2,dH,kV (by simp; omega) (by simp; omega),dH,sX hc (by omega),← aED hc]
      exact ih (i + 1) (by omega) (by omega)
    · have : i = l.length := by omega
      subst this
      rw [decide_eq_false (by omega),cond_false,List.take_length]
      have:=pay_L1 h (l.map (nv f)) (by simp; omega) fuel 0 (fF (by have:=h.1; omega)) (Nat.zero_le _)
      simpa [pl] using this
theorem pay_is {f : aH} (h : Lite f) : gY f = some (pay f):=by
  unfold gY pay vals
  rw [uM,dH]
  have hb:=kG f.Kind
  have:=pay_L0 h hb.1 hb.2 fuel 0 (fF (by omega)) (Nat.zero_le _)
  simpa using this
theorem aC6 {f : aH} (h : Lite f) : (pay f).length ≤ 20000:=by
  unfold pay
  have h1:=aAJ (vals f)
  have h2:=aD0 f
  have:=h.1; have:=h.2
  rw [List.length_append]; omega

theorem aEg {l : List UInt8} (hl : l.length ≤ 1000000) : fB l = some l:=by
  unfold fB
  rw [kV (by simp; omega) (by simp; omega)]
  exact rT (fun h=>by subst h; rfl)
theorem aE6 {l : List UInt8} {n : Int} (hl : l.length ≤ 1000) (h0 : 0 ≤ n) (h1 : n < 256) : nN l n 1 = some (l ++ [UInt8.ofNat n.toNat]):=by
  unfold nN
  rw [aEg (by omega),dH]
  have hf : nX n 1 = some true:=by
    unfold nX
    simp only [gE]
    rw [decide_eq_true h0,w64 (by decide) (by decide)]
    simp only [decide_true,show decide ((1 : Int) ≤ 7) = true from rfl,show decide ((1 : Int) ≤ 1) = true from rfl,Bool.and_self,beq_self_eq_true,gd,cond_true]
    rw [vY (k:=.i64) (b:=8 * 1) 8 rfl (by decide),dH]
    have : n / 2 ^ 8 = 0:=by omega
    rw [this]; rfl
  rw [hf,dH]
  obtain ⟨m,hm⟩:=fuel_is 2 (by decide)
  rw [hm]
  simp only [Bool.not_true,cond_false,kT,gE]
  rw [show decide ((0 : Int) < 1) = true from rfl,cond_true,w64 (n:=1 - 1) (by decide) (by decide),w64 (n:=1 - 1 - 0) (by decide) (by decide),w64 (n:=8 * (1 - 1 - 0)) (by decide) (by decide),vY (k:=.i64) (b:=8 * (1 - 1 - 0)) 0 rfl (by decide),dH,w64 (n:=0 + 1) (by decide) (by decide)]
  rw [Int.pow_zero,Int.ediv_one,wU8 h0 h1,aBF h0 h1,dH,kV (by simp; omega) (by simp; omega),dH]
  rfl
def putF (f : aH) : List UInt8 × Int:=if chkF f = 0 then ([UInt8.ofNat f.Kind.toNat,if f.Flag then 1 else 0] ++ vput (pay f).length ++ pay f,0) else ([],chkF f)
theorem aEF {f : aH} (h : Lite f) : ¬ vbad ((pay f).length : Int):=by
  have:=aC6 h
  unfold vbad; omega
theorem put_F {f : aH} (hk0 : 0 ≤ f.Kind) (hk1 : f.Kind ≤ 255) (h : Lite f) : rE f = some (putF f):=by
  have hJ : ∀ v : Int,0 ≤ v → v < 2 → lL f v = some ([UInt8.ofNat f.Kind.toNat,UInt8.ofNat v.toNat] ++ vput (pay f).length ++ pay f,0):=by
    intro v h0 h1
    unfold lL
    have h8:=sU ((pay f).length : Int)
    have hp:=aC6 h
    rw [pay_is h,dH,aE4,dH]
    simp only [if_neg (aEF h),gE,decide_true,Bool.not_true,cond_false]
    rw [w64 (by omega) (by omega),aE6 (by simp) hk0 (by omega),dH,aE6 (by simp) h0 (by omega),dH,vE (by simp; omega),dH,vE (by simp; omega),dH]
    rfl
  unfold rE putF
  rw [aB3 (by have:=h.1; omega),dH,gE]
  by_cases hc : chkF f = 0
  · rw [decide_eq_true hc, if_pos hc, hJ 1 (by decide) (by decide), hJ 0 (by decide) (by decide)]
    cases f.Flag <;> rfl
  · rw [decide_eq_false hc,if_neg hc]; rfl
end Go.Fn

namespace Go.Fn
open Go Go.IL
theorem aEE (f : aH) : kO f = some (decide ((f.Pairs.length : Int) ≤ 10) && decide ((f.Data.length : Int) ≤ 100)):=rfl
end Go.Fn
open Go Go.IL
namespace Go.Fn

def zF : aH:=⟨0,false,0,0,0,0,0,0,[],[]⟩
def setv (g : aH) (o : Nat) (v : Int) : aH :=
  ⟨g.Kind,g.Flag,bif Nat.beq o 2 then v else g.Stream,bif Nat.beq o 3 then v else g.Offset,bif Nat.beq o 4 then v else g.Dep,bif Nat.beq o 5 then v else g.Weight,bif Nat.beq o 6 then v else g.N,bif Nat.beq o 7 then v else g.Code,g.Pairs,g.Data⟩
def rd : List Nat → List UInt8 → aH → Option (List UInt8 × aH)
  | [],s,g=>some (s,g)
  | o :: os,s,g=>if (vget s).2.2 = 0 then rd os (s.drop (vget s).2.1.toNat) (setv g o (vget s).1) else none
def qF : List Int → List bK
  | a :: b :: l=>⟨a,b⟩ :: qF l
  | _=>[]
def setS (s : List UInt8) : Option (List bK):=if (vall s).2 = 0 ∧ (vall s).1.length % 2 = 0 then some (qF (vall s).1) else none
def body (s : List UInt8) (g : aH) : Option aH :=
  if g.Kind = 0 then some ⟨g.Kind,g.Flag,g.Stream,g.Offset,g.Dep,g.Weight,g.N,g.Code,g.Pairs,s⟩
  else if g.Kind = 4 then (setS s).map fun p=>⟨g.Kind,g.Flag,g.Stream,g.Offset,g.Dep,g.Weight,g.N,g.Code,p,g.Data⟩
  else if s = [] then some g else none
def rU (s : List UInt8) (g : aH) : Option aH:=(rd (lR g.Kind) s g).bind fun q=>body q.1 q.2
def getF : List UInt8 → aH × Int × Int
  | []=>(zF,0,3)
  | k :: r => if oF k.toNat = false then (zF, 0, 12) else match r with
    | []=>(zF,0,3)
    | b :: t => if 1 < b.toNat then (zF, 0, 4) else if (vget t).2.2 ≠ 0 then (zF, 0, (vget t).2.2) else if 64 < (vget t).1 then (zF, 0, 5)
      else if (t.length : Int) - (vget t).2.1 < (vget t).1 then (zF,0,3)
      else match rU ((t.drop (vget t).2.1.toNat).take (vget t).1.toNat) ⟨k.toNat,decide ((b.toNat : Int) = 1),0,0,0,0,0,0,[],[]⟩ with
        | none=>(zF,0,4)
        | some g=>if chkF g = 0 then (g,2 + (vget t).2.1 + (vget t).1,0) else (zF,0,chkF g)

theorem sJ {s : List UInt8} : 0 ≤ (vget s).1 ∧ (vget s).1 ≤ 4611686018427387903 := by
  cases s with
  | nil=>exact ⟨by decide,by decide⟩
  | cons b r =>
    by_cases h1 : (b :: r).length < 2 ^ (b.toNat / 64)
    · rw [oS h1]; exact ⟨by decide,by decide⟩
    · by_cases h2 : gU (beN (b.toNat % 64) (r.take (2 ^ (b.toNat / 64) - 1))) = ((b.toNat / 64 : Nat) : Int)
      · rw [sI h1 h2]
        have h3 : ¬ vbad (beN (b.toNat % 64) (r.take (2 ^ (b.toNat / 64) - 1))):=by rw [← vU,h2]; omega
        unfold vbad at h3; exact ⟨by simp only; omega,by simp only; omega⟩
      · rw [oT h1 h2]; exact ⟨by decide,by decide⟩
theorem aAM : ∀ (f : Nat) (s : List UInt8) (acc : List Int), s.length ≤ f → (pP f s acc).1.length ≤ acc.length + s.length
  | 0,s,acc,_=>by simp [pP]
  | f + 1, s, acc, h => by
    unfold pP
    split
    · simp
    · split
      · rename_i h1 h2
        have h3:=lM h2
        have:=aAM f (s.drop (vget s).2.1.toNat) (acc ++ [(vget s).1]) (by rw [List.length_drop]; omega)
        rw [List.length_append,List.length_drop] at this
        simp only [List.length_cons,List.length_nil] at this
        omega
      · simp
theorem aEs : ∀ (k f : Nat) (s : List UInt8) (acc : List Int), s.length < k → s.length ≤ f → acc.length + s.length ≤ 1000000 → jJ k s acc = some (pP f s acc) := by
  intro k
  induction k with
  | zero=>intro f s acc h; omega
  | succ k ih =>
    intro f s acc hk hf hl
    unfold jJ
    simp only [gE]
    by_cases hs : s = []
    · subst hs; rw [aAL]; rfl
    · rw [decide_eq_false hs, Bool.not_false, cond_true, aDd, dH]
      by_cases h : (vget s).2.2 = 0
      · have h3 := lM h
        obtain ⟨f',hf',he⟩:=aCB (acc:=acc) hs hf h
        rw [decide_eq_true h,Bool.not_true,cond_false,kV (by simp; omega) (by simp; omega),dH,aA8 (by omega) (by omega),dH,he]
        exact ih f' _ _ (by rw [List.length_drop]; omega) hf' (by rw [List.length_append,List.length_drop]; simp; omega)
      · rw [decide_eq_false h,Bool.not_false,cond_true,aCn hs hf h]
theorem all_is {s : List UInt8} (h : s.length ≤ 1000000) : oU s = some (vall s):=by
  unfold oU vall
  exact aEs fuel _ s [] (fF (by omega)) (Nat.le_refl _) (by simpa using h)
theorem aBl (s : List UInt8) : (vall s).1.length ≤ s.length:=by
  have:=aAM s.length s [] (Nat.le_refl _)
  simpa [vall] using this

theorem yT : ∀ (k : Nat) (l : List Int) (acc : List bK),l.length < k → l.length % 2 = 0 → acc.length + l.length ≤ 1000000 → fR k l acc = some (acc ++ qF l,true):=by
  intro k
  induction k with
  | zero=>intro l acc h; omega
  | succ k ih =>
    intro l acc hk h2 hl
    unfold fR
    simp only [gE]
    match l,hk,h2,hl with
    | [],_,_,_=>simp [qF]
    | [a],_,h2,_=>simp at h2
    | a :: b :: l, hk, h2, hl =>
      simp only [List.length_cons] at hk h2 hl
      rw [decide_eq_true (by simp; omega),cond_true,zU (by decide) (by simp),dH,zU (by decide) (by simp),dH,kV (by simp; omega) (by simp; omega),dH,aA8 (by decide) (by simp; omega),dH]
      have:=ih l (acc ++ [⟨a,b⟩]) (by omega) (by omega) (by simp; omega)
      rw [List.append_assoc] at this
      exact this
theorem aBI {s : List UInt8} (h : s.length ≤ 1000000) : ∃ x,jX s = some (x,(setS s).isSome) ∧ ∀ p,setS s = some p → x = p:=by
  unfold jX setS
  rw [all_is h,dH]
  simp only [gE]
  have hl:=aBl s
  by_cases h0 : (vall s).2 = 0
  · rw [decide_eq_true h0, show ((!true) == false) = true from rfl, gd_tt, aE0 (by omega) (by decide), dH]
    by_cases h2 : (vall s).1.length % 2 = 0
    · rw [decide_eq_false (by omega), if_pos ⟨h0, h2⟩]
      simp only [Bool.not_true,Bool.or_false,cond_false]
      rw [yT fuel _ [] (fF (by omega)) h2 (by simp; omega)]
      exact ⟨_,rfl,fun p hp=>by simpa using hp⟩
    · rw [decide_eq_true (by omega), if_neg (fun h => h2 h.2)]
      exact ⟨_,rfl,fun p hp=>by cases hp⟩
  · rw [decide_eq_false h0, if_neg (fun h => h0 h.1)]
    exact ⟨_,rfl,fun p hp=>by cases hp⟩

theorem aCf {f : aH} {s : List UInt8} (h : s.length ≤ 1000000) : ∃ x, (bnd (decide (f.Kind = 0)) fun x40 =>
      bif x40 then (
        some (true,(⟨f.Kind,f.Flag,f.Stream,f.Offset,f.Dep,f.Weight,f.N,f.Code,f.Pairs,s⟩ : aH))
      ) else (
        bnd (decide (f.Kind = 4)) fun x42 =>
        bif x42 then (
          bno (jX s) fun x44 =>
          some (x44.2,(⟨f.Kind,f.Flag,f.Stream,f.Offset,f.Dep,f.Weight,f.N,f.Code,x44.1,f.Data⟩ : aH))
        ) else (
          bnd (decide (s = ([] : List UInt8))) fun x45 =>
          some (x45,(⟨f.Kind,f.Flag,f.Stream,f.Offset,f.Dep,f.Weight,f.N,f.Code,f.Pairs,f.Data⟩ : aH))
        )
      )) = some ((body s f).isSome,x) ∧ ∀ y,body s f = some y → x = y:=by
  unfold body
  simp only [gE]
  by_cases h0 : f.Kind = 0
  · rw [decide_eq_true h0,if_pos h0]; exact ⟨_,rfl,fun y hy=>by simpa using hy⟩
  · rw [decide_eq_false h0, if_neg h0, cond_false]
    by_cases h4 : f.Kind = 4
    · rw [decide_eq_true h4, if_pos h4, cond_true]
      obtain ⟨x,hx,hp⟩:=aBI h
      rw [hx,dH]
      cases hs : setS s with
      | none=>exact ⟨_,rfl,fun y hy=>by cases hy⟩
      | some p=>rw [hp p hs]; exact ⟨_,rfl,fun y hy=>by simpa using hy⟩
    · rw [decide_eq_false h4, if_neg h4, cond_false]
      by_cases hs : s = []
      · rw [decide_eq_true hs,if_pos hs]; exact ⟨_,rfl,fun y hy=>by simpa using hy⟩
      · rw [decide_eq_false hs,if_neg hs]; exact ⟨f,rfl,fun y hy=>by cases hy⟩
theorem aCw {g : aH} {l : List Nat} (hr : ∀ o ∈ l, 2 ≤ o ∧ o ≤ 7) (hll : l.length ≤ 3) : ∀ (k i : Nat) (s : List UInt8) (a b c d e f : Int), l.length - i < k → i ≤ l.length → s.length ≤ 1000000 →
    ∃ x,eO g l k s (i : Int) a b c d e f = some (((rd (l.drop i) s ⟨g.Kind,g.Flag,a,b,c,d,e,f,g.Pairs,g.Data⟩).bind fun q=>body q.1 q.2).isSome,x) ∧ ∀ y,((rd (l.drop i) s ⟨g.Kind,g.Flag,a,b,c,d,e,f,g.Pairs,g.Data⟩).bind fun q=>body q.1 q.2) = some y → x = y:=by
  intro k
  induction k with
  | zero=>intro i s a b c d e f h; omega
  | succ k ih =>
    intro i s a b c d e f hk hi hs
    unfold eO
    by_cases hc : i < l.length
    · have hx := hr _ (List.getElem_mem hc)
      rw [List.drop_eq_getElem_cons hc]
      unfold rd
      simp only [gE]
      rw [decide_eq_true (by omega),cond_true,lV,Int.toNat_natCast,List.getElem?_eq_getElem hc,dH,dH,aDd,dH]
      by_cases h : (vget s).2.2 = 0
      · have h3 := lM h
        have hic:=aBy ⟨g.Kind,g.Flag,a,b,c,d,e,f,g.Pairs,g.Data⟩ hx.1 hx.2
        simp only at hic
        rw [decide_eq_true h,Bool.not_true,cond_false,hic,dH,aA8 (by omega) (by omega),dH,sX hc (by omega),if_pos h]
        exact ih (i + 1) _ _ _ _ _ _ _ (by omega) (by omega) (by rw [List.length_drop]; omega)
      · rw [decide_eq_false h, Bool.not_false, cond_true, if_neg h]
        exact ⟨_,rfl,fun y hy=>by cases hy⟩
    · have : i = l.length := by omega
      subst this
      rw [List.drop_length]
      unfold rd
      simp only [gE,Option.bind_some]
      rw [decide_eq_false (by omega),cond_false]
      exact aCf (f:=⟨g.Kind,g.Flag,a,b,c,d,e,f,g.Pairs,g.Data⟩) hs
theorem read_is {s : List UInt8} {g : aH} (h : s.length ≤ 1000000) : ∃ x,iR s g = some ((rU s g).isSome,x) ∧ ∀ y,rU s g = some y → x = y:=by
  unfold iR rU
  rw [uM,dH]
  have hb:=kG g.Kind
  exact aCw hb.2 hb.1 fuel 0 s _ _ _ _ _ _ (fF (by omega)) (Nat.zero_le _) h
theorem yW : ∀ (os : List Nat) (s t : List UInt8) (g y : aH),rd os s g = some (t,y) → t.length ≤ s.length ∧ y.Pairs = g.Pairs ∧ y.Data = g.Data ∧ y.Kind = g.Kind ∧ y.Flag = g.Flag
  | [],s,t,g,y,h=>by simp only [rd,Option.some.injEq,Prod.mk.injEq] at h; obtain ⟨rfl,rfl⟩:=h; exact ⟨Nat.le_refl _,rfl,rfl,rfl,rfl⟩
  | o :: os, s, t, g, y, h => by
    unfold rd at h
    split at h
    · have := yW os _ t _ y h
      rw [List.length_drop] at this
      exact ⟨by omega,this.2⟩
    · cases h
theorem yB : ∀ (l : List Int),(qF l).length ≤ l.length
  | []=>by simp [qF]
  | [a]=>by simp [qF]
  | a :: b :: l=>by have:=yB l; simp [qF]; omega
theorem wF {s : List UInt8} {g y : aH} (h : rU s g = some y) : y.Pairs.length ≤ g.Pairs.length + s.length ∧ y.Data.length ≤ g.Data.length + s.length ∧ y.Kind = g.Kind ∧ y.Flag = g.Flag := by
  unfold rU at h
  cases hr : rd (lR g.Kind) s g with
  | none=>rw [hr] at h; cases h
  | some q =>
    obtain ⟨t,z⟩:=q
    rw [hr] at h
    obtain ⟨h1,h2,h3,h4,h5⟩:=yW _ _ _ _ _ hr
    simp only [Option.bind_some] at h
    unfold body at h
    split at h
    · simp only [Option.some.injEq] at h; subst h; simp only; rw [h2]; exact ⟨by omega,by omega,h4,h5⟩
    · split at h
      · cases hs : setS t with
        | none=>rw [hs] at h; cases h
        | some p =>
          rw [hs] at h; simp only [Option.map_some,Option.some.injEq] at h; subst h
          unfold setS at hs
          split at hs
          · simp only [Option.some.injEq] at hs; subst hs
            have:=yB (vall t).1
            have:=aBl t
            simp only; rw [h3]; exact ⟨by omega,by omega,h4,h5⟩
          · cases hs
      · split at h
        · simp only [Option.some.injEq] at h; subst h; rw [h2,h3]; exact ⟨by omega,by omega,h4,h5⟩
        · cases h
theorem rP {k : UInt8} {r : List UInt8} (h : oF k.toNat = false) : getF (k :: r) = (zF,0,12):=by
  unfold getF; simp only; rw [if_pos h]
theorem vQ {k : UInt8} (h : oF k.toNat = true) : getF [k] = (zF,0,3):=by
  unfold getF; simp only; rw [if_neg (by rw [h]; decide)]
theorem oK {k b : UInt8} {t : List UInt8} (h : oF k.toNat = true) : getF (k :: b :: t) = if 1 < b.toNat then (zF, 0, 4) else if (vget t).2.2 ≠ 0 then (zF, 0, (vget t).2.2) else if 64 < (vget t).1 then (zF, 0, 5)
      else if (t.length : Int) - (vget t).2.1 < (vget t).1 then (zF,0,3)
      else match rU ((t.drop (vget t).2.1.toNat).take (vget t).1.toNat) ⟨k.toNat,decide ((b.toNat : Int) = 1),0,0,0,0,0,0,[],[]⟩ with
        | none=>(zF,0,4)
        | some g=>if chkF g = 0 then (g,2 + (vget t).2.1 + (vget t).1,0) else (zF,0,chkF g):=by
  rw [getF]; rw [if_neg (by rw [h]; decide)]
theorem get_F {s : List UInt8} (hs : s.length ≤ 1000000) : pH s = some (getF s) := by
  unfold pH rQ
  match s,hs with
  | [],_=>rfl
  | k :: r, hs =>
    simp only [gE,zU (l:=k :: r) (i:=0) (by decide) (by simp),dH,aBs]
    rw [decide_eq_false (by simp),cond_false]
    simp only [List.getElem_cons_zero,Int.toNat_zero]
    cases hk : oF (k.toNat : Int) with
    | false=>rw [rP hk]; rfl
    | true =>
      match r,hs with
      | [],_=>rw [vQ hk]; rfl
      | b :: t, hs =>
        rw [oK hk]
        simp only [List.length_cons] at hs
        simp only [Bool.not_true,cond_false,zU (l:=k :: b :: t) (i:=1) (by decide) (by simp),dH,Int.toNat_one,List.getElem_cons_succ,List.getElem_cons_zero]
        rw [decide_eq_false (by simp; omega),cond_false]
        by_cases hb : 1 < b.toNat
        · rw [decide_eq_true (by omega),if_pos hb]; rfl
        · rw [decide_eq_false (by omega), if_neg hb, cond_false, aA8 (by decide) (by simp; omega), dH]
          rw [show (2 : Int).toNat = 2 from rfl,List.drop_succ_cons,List.drop_succ_cons,List.drop_zero,aDd,dH]
          by_cases hv : (vget t).2.2 = 0
          · rw [decide_eq_true hv, if_neg (fun h => h hv)]
            have h3:=lM hv
            simp only [Bool.not_true,cond_false]
            by_cases h64 : 64 < (vget t).1
            · rw [decide_eq_true h64,if_pos h64]; rfl
            · rw [decide_eq_false h64, if_neg h64, cond_false, w64 (n := ((k :: b :: t).length : Int) - 2) (by simp; omega) (by simp; omega), w64 (by simp; omega) (by simp; omega)]
              have hlen : ((k :: b :: t).length : Int) - 2 - (vget t).2.1 = (t.length : Int) - (vget t).2.1:=by simp; omega
              rw [hlen]
              by_cases hl : (t.length : Int) - (vget t).2.1 < (vget t).1
              · rw [decide_eq_true hl,if_pos hl]; rfl
              · have h5 := sJ (s := t)
                rw [decide_eq_false hl,if_neg hl,cond_false,w64 (n:=2 + (vget t).2.1) (by omega) (by omega),w64 (by omega) (by omega),dH]
                simp only [show decide ((0 : Int) = 0) = true from rfl,Bool.not_true,cond_false]
                rw [aDk (by omega) (by omega) (by simp; omega),dH]
                have ecut : ((k :: b :: t).take (2 + (vget t).2.1 + (vget t).1).toNat).drop (2 + (vget t).2.1).toNat = (t.drop (vget t).2.1.toNat).take (vget t).1.toNat:=by
                  have e1 : (2 + (vget t).2.1 + (vget t).1).toNat = ((vget t).2.1.toNat + (vget t).1.toNat) + 1 + 1:=by omega
                  have e2 : (2 + (vget t).2.1).toNat = (vget t).2.1.toNat + 1 + 1:=by omega
                  rw [e1,e2,List.take_succ_cons,List.take_succ_cons,List.drop_succ_cons,List.drop_succ_cons,List.take_drop]
                rw [ecut]
                obtain ⟨x,hx,hy⟩:=read_is (s:=(t.drop (vget t).2.1.toNat).take (vget t).1.toNat) (g:=⟨k.toNat,decide ((b.toNat : Int) = 1),0,0,0,0,0,0,[],[]⟩) (by rw [List.length_take,List.length_drop]; omega)
                rw [hx,dH]
                cases hR : rU ((t.drop (vget t).2.1.toNat).take (vget t).1.toNat) ⟨k.toNat,decide ((b.toNat : Int) = 1),0,0,0,0,0,0,[],[]⟩ with
                | none=>rfl
                | some g =>
                  obtain rfl:=hy g hR
                  have hb:=wF hR
                  rw [List.length_take,List.length_drop] at hb
                  simp only [Option.isSome_some,Bool.not_true,cond_false]
                  rw [aB3 (by have:=hb.1; simp at this; omega),dH]
                  by_cases hc : chkF x = 0
                  · rw [decide_eq_true hc,if_pos hc]; rfl
                  · rw [decide_eq_false hc,if_neg hc]; rfl
          · rw [decide_eq_false hv, if_pos hv]
            simp only [Bool.not_false,cond_true,dH]
            rw [decide_eq_false hv]; rfl

theorem aCa (s : List UInt8) : (getF s).1.Pairs.length ≤ s.length ∧ (getF s).1.Data.length ≤ s.length := by
  match s with
  | []=>exact ⟨by simp [getF,zF],by simp [getF,zF]⟩
  | k :: r =>
    cases hk : oF (k.toNat : Int) with
    | false=>rw [rP hk]; simp [zF]
    | true =>
      match r with
      | []=>rw [vQ hk]; simp [zF]
      | b :: t =>
        rw [oK hk]
        split
        · simp [zF]
        · split
          · simp [zF]
          · split
            · simp [zF]
            · split
              · simp [zF]
              · cases hR : rU ((t.drop (vget t).2.1.toNat).take (vget t).1.toNat) ⟨k.toNat, decide ((b.toNat : Int) = 1), 0, 0, 0, 0, 0, 0, [], []⟩ with
                | none=>simp [zF]
                | some g =>
                  have hb:=wF hR
                  rw [List.length_take,List.length_drop] at hb
                  simp only
                  split
                  · have h1 := hb.1; have h2 := hb.2.1
                    simp only [List.length_nil] at h1 h2
                    simp only [List.length_cons]
                    constructor <;> omega
                  · simp [zF]
end Go.Fn
open Go Go.IL
namespace Go.Fn

theorem aDq (n : Int) : ∀ (m : Nat) (a : Int), beN a (beb n m) = a * 256 ^ m + n % 256 ^ m
  | 0,a=>by simp [beb,beN]
  | m + 1, a => by
    have ih:=aDq n m (a * 256 + n / 256 ^ m % 256)
    simp only [beb,beN,List.foldl_cons,aBC] at ih ⊢
    rw [ih]
    have hP : (0 : Int) < 256 ^ m:=Int.pow_pos (by decide)
    have e1:=Int.mul_ediv_add_emod n (256 ^ m)
    have e2:=Int.mul_ediv_add_emod (n / 256 ^ m) 256
    have r0:=Int.emod_nonneg n (b:=256 ^ m) (by omega)
    have r1:=Int.emod_lt_of_pos n hP
    have q0:=Int.emod_nonneg (n / 256 ^ m) (b:=256) (by decide)
    have q1:=Int.emod_lt_of_pos (n / 256 ^ m) (b:=256) (by decide)
    have key : n % 256 ^ (m + 1) = 256 ^ m * (n / 256 ^ m % 256) + n % 256 ^ m:=by
      have e3 : n = 256 ^ m * (n / 256 ^ m % 256) + n % 256 ^ m + 256 ^ (m + 1) * (n / 256 ^ m / 256):=by
        rw [Int.pow_succ]
        have : 256 ^ m * 256 * (n / 256 ^ m / 256) = 256 ^ m * (256 * (n / 256 ^ m / 256)):=Int.mul_assoc ..
        rw [this]
        have : 256 ^ m * (n / 256 ^ m) = 256 ^ m * (256 * (n / 256 ^ m / 256)) + 256 ^ m * (n / 256 ^ m % 256):=by rw [← Int.mul_add,e2]
        omega
      have h0 : 0 ≤ 256 ^ m * (n / 256 ^ m % 256):=Int.mul_nonneg (by omega) q0
      have h1 : 256 ^ m * (n / 256 ^ m % 256) ≤ 256 ^ m * 255:=Int.mul_le_mul_of_nonneg_left (by omega) (by omega)
      have:=congrArg (fun x=>x % (256 : Int) ^ (m + 1)) e3
      simp only [Int.add_mul_emod_self_left] at this
      rw [this]
      apply Int.emod_eq_of_lt
      · omega
      · rw [Int.pow_succ]; omega
    rw [key,Int.add_mul,Int.pow_succ,Int.mul_assoc,Int.mul_comm 256 (256 ^ m),Int.mul_comm (n / 256 ^ m % 256)]
    omega
theorem vV {n : Int} (h : ¬ vbad n) (t : List UInt8) : vget (vput n ++ t) = (n,mX n,0):=by
  have hk : 0 ≤ gU n:=by rcases rJ n with h' | h'; exact absurd h'.1 h; exact h'.2.1
  have hk3:=(pN n).2
  obtain ⟨m,hm7,hm,hp,_⟩:=aBj hk
  have ht:=aAN h hm
  have hmod : n / 256 ^ m % 256 = n / 256 ^ m:=Int.emod_eq_of_lt ht.1 (by omega)
  rw [aBE hm,hmod,List.cons_append]
  have hb : (UInt8.ofNat ((n / 256 ^ m).toNat + 64 * (gU n).toNat)).toNat = (n / 256 ^ m).toNat + 64 * (gU n).toNat:=by simp; omega
  have hd : (UInt8.ofNat ((n / 256 ^ m).toNat + 64 * (gU n).toNat)).toNat / 64 = (gU n).toNat:=by rw [hb]; omega
  have hr : ((UInt8.ofNat ((n / 256 ^ m).toNat + 64 * (gU n).toNat)).toNat : Int) % 64 = ((n / 256 ^ m).toNat : Int):=by rw [hb]; omega
  have hp2 : 2 ^ (gU n).toNat = m + 1:=by exact_mod_cast hp
  have hlen:=uR n m
  have hval : beN ((n / 256 ^ m).toNat : Int) (beb n m) = n:=by
    rw [aDq,Int.toNat_of_nonneg ht.1,Int.mul_comm]
    exact Int.mul_ediv_add_emod n (256 ^ m)
  have htk : (beb n m ++ t).take m = beb n m:=by rw [List.take_append_of_le_length (by omega),List.take_of_length_le (by omega)]
  rw [sI (by rw [hd,hp2]; simp; omega) ?_]
  · rw [hd, hr, hp2, Nat.add_sub_cancel, htk]
    have hc : ((((n / 256 ^ m).toNat : Nat) : Int)) = ((n / 256 ^ m).toNat : Int):=rfl
    rw [hval]
    have : mX n = ((m + 1 : Nat) : Int):=by have:=pM n; omega
    rw [this]
  · rw [hd,hr,hp2,Nat.add_sub_cancel,htk,hval]; omega
theorem aB5 : ∀ (q : List UInt8) (a : Int), 0 ≤ a → beN a q / 256 ^ q.length = a ∧ beb (beN a q) q.length = q
  | [],a,h=>by simp [beN,beb]
  | c :: q, a, h => by
    have hc:=c.toNat_lt
    have ih:=aB5 q (a * 256 + c.toNat) (by omega)
    have e : beN a (c :: q) = beN (a * 256 + c.toNat) q:=rfl
    rw [e,List.length_cons]
    constructor
    · rw [← aDj,ih.1]; omega
    · rw [beb, ih.2, ih.1]
      have : by8 (a * 256 + c.toNat) = c:=by
        unfold by8
        have : (a * 256 + (c.toNat : Int)) % 256 = c.toNat:=by omega
        rw [this]; simp
      rw [this]
theorem sT {s : List UInt8} (h : (vget s).2.2 = 0) : ¬ vbad (vget s).1 ∧ vput (vget s).1 = s.take (vget s).2.1.toNat := by
  cases s with
  | nil=>exact absurd h (by decide)
  | cons b r =>
    by_cases h1 : (b :: r).length < 2 ^ (b.toNat / 64)
    · rw [oS h1] at h; exact absurd h (by decide)
    · by_cases h2 : gU (beN (b.toNat % 64) (r.take (2 ^ (b.toNat / 64) - 1))) = ((b.toNat / 64 : Nat) : Int)
      · rw [sI h1 h2]
        simp only
        have hlen:=aDc h1
        have hk4:=k4 b
        have hpk:=zA hk4
        generalize hv : beN (b.toNat % 64) (r.take (2 ^ (b.toNat / 64) - 1)) = v at h2
        have hnb : ¬ vbad v:=by rw [← vU,h2]; omega
        have hsz : mX v = ((2 ^ (b.toNat / 64) : Nat) : Int):=(aCk hk4).2 h2
        have hm : (mX v).toNat = (2 ^ (b.toNat / 64) - 1) + 1:=by rw [hsz]; omega
        have hbk:=aB5 (r.take (2 ^ (b.toNat / 64) - 1)) ((b.toNat : Int) % 64) (by omega)
        rw [hlen] at hbk
        rw [hv] at hbk
        refine ⟨hnb,?_⟩
        rw [aBE hm,hbk.1,hbk.2,h2]
        have e1 : UInt8.ofNat (((b.toNat : Int) % 64 % 256).toNat + 64 * (((b.toNat / 64 : Nat) : Int)).toNat) = b:=by
          have hb:=b.toNat_lt
          have : (((b.toNat : Int) % 64 % 256).toNat + 64 * (((b.toNat / 64 : Nat) : Int)).toNat) = b.toNat:=by omega
          rw [this]; simp
        rw [e1,Int.toNat_natCast]
        obtain ⟨p,hp⟩ : ∃ p,2 ^ (b.toNat / 64) = p + 1:=⟨2 ^ (b.toNat / 64) - 1,by omega⟩
        rw [hp,List.take_succ_cons,Nat.add_sub_cancel]
      · rw [oT h1 h2] at h; exact absurd h (by decide)
theorem aBD {n : Int} (h : ¬ vbad n) : 1 ≤ (vput n).length ∧ ((vput n).length : Int) = mX n:=by
  rw [aBk]
  have:=pM n
  have h2:=aCA (n:=n)
  have : mX n ≠ 0:=fun e=>h (h2.1 e)
  omega

theorem zH {g : aH} {o p : Nat} (h : 2 ≤ o) (h2 : o ≤ 7) (h3 : 2 ≤ p) (h4 : p ≤ 7) (v : Int) : nv (setv g o v) p = if p = o then v else nv g p:=by
  obtain rfl | rfl | rfl | rfl | rfl | rfl : o = 2 ∨ o = 3 ∨ o = 4 ∨ o = 5 ∨ o = 6 ∨ o = 7:=by omega
  all_goals
    obtain rfl | rfl | rfl | rfl | rfl | rfl : p = 2 ∨ p = 3 ∨ p = 4 ∨ p = 5 ∨ p = 6 ∨ p = 7:=by omega
    all_goals rfl
theorem aE1 (h : Nat → Int) : ∀ (os : List Nat) (t : List UInt8) (g : aH), (∀ o ∈ os, ¬ vbad (h o)) → (∀ o ∈ os, 2 ≤ o ∧ o ≤ 7) →
    ∃ g',rd os ((os.map h).flatMap vput ++ t) g = some (t,g') ∧ (∀ o ∈ os,nv g' o = h o) ∧ ∀ p,2 ≤ p → p ≤ 7 → p ∉ os → nv g' p = nv g p
  | [],t,g,_,_=>⟨g,rfl,by simp,fun _ _ _ _=>rfl⟩
  | o :: os, t, g, hb, hr => by
    have ho:=hr o (by simp)
    have hn:=hb o (by simp)
    obtain ⟨g',h1,h2,h3⟩:=aE1 h os t (setv g o (h o)) (fun p hp=>hb p (by simp [hp])) (fun p hp=>hr p (by simp [hp]))
    refine ⟨g',?_,?_,?_⟩
    · rw [List.map_cons, List.flatMap_cons, List.append_assoc]
      unfold rd
      rw [vV hn]
      simp only [if_true]
      rw [← (aBD hn).2,Int.toNat_natCast,List.drop_left]
      exact h1
    · intro p hp
      by_cases hpo : p ∈ os
      · exact h2 p hpo
      · have : p = o := by simpa [hpo] using hp
        subst this
        rw [h3 p ho.1 ho.2 hpo,zH ho.1 ho.2 ho.1 ho.2,if_pos rfl]
    · intro p hp2 hp7 hp
      rw [List.mem_cons,not_or] at hp
      rw [h3 p hp2 hp7 hp.2,zH ho.1 ho.2 hp2 hp7,if_neg hp.1]
theorem aE2 : ∀ (os : List Nat) (s t : List UInt8) (g g' : aH), os.Nodup → (∀ o ∈ os, 2 ≤ o ∧ o ≤ 7) → rd os s g = some (t, g') →
    s = (os.map (nv g')).flatMap vput ++ t ∧ (∀ o ∈ os,¬ vbad (nv g' o)) ∧ ∀ p,2 ≤ p → p ≤ 7 → p ∉ os → nv g' p = nv g p
  | [],s,t,g,g',_,_,h=>by simp only [rd,Option.some.injEq,Prod.mk.injEq] at h; obtain ⟨rfl,rfl⟩:=h; simp
  | o :: os, s, t, g, g', hd, hr, h => by
    have ho:=hr o (by simp)
    rw [List.nodup_cons] at hd
    unfold rd at h
    split at h
    · rename_i hz
      obtain ⟨h1,h2,h3⟩:=aE2 os _ t _ g' hd.2 (fun p hp=>hr p (by simp [hp])) h
      have hv:=sT hz
      have e : nv g' o = (vget s).1:=by rw [h3 o ho.1 ho.2 hd.1,zH ho.1 ho.2 ho.1 ho.2,if_pos rfl]
      refine ⟨?_,?_,?_⟩
      · rw [List.map_cons,List.flatMap_cons,List.append_assoc,← h1,e,hv.2,List.take_append_drop]
      · intro p hp
        by_cases hpo : p ∈ os
        · exact h2 p hpo
        · have : p = o := by simpa [hpo] using hp
          subst this; rw [e]; exact hv.1
      · intro p hp2 hp7 hp
        rw [List.mem_cons,not_or] at hp
        rw [h3 p hp2 hp7 hp.2,zH ho.1 ho.2 hp2 hp7,if_neg hp.1]
    · cases h
theorem aCR (k : Int) : (lR k).Nodup:=by unfold lR; (repeat' split) <;> decide
theorem xF {f g : aH} (h1 : f.Kind = g.Kind) (h2 : f.Flag = g.Flag) (h3 : ∀ p,2 ≤ p → p ≤ 7 → nv f p = nv g p) (h4 : f.Pairs = g.Pairs) (h5 : f.Data = g.Data) : f = g:=by
  have a2:=h3 2 (by decide) (by decide)
  have a3:=h3 3 (by decide) (by decide)
  have a4:=h3 4 (by decide) (by decide)
  have a5:=h3 5 (by decide) (by decide)
  have a6:=h3 6 (by decide) (by decide)
  have a7:=h3 7 (by decide) (by decide)
  simp only [nv] at a2 a3 a4 a5 a6 a7
  obtain ⟨⟩:=f; obtain ⟨⟩:=g
  simp_all

theorem xT : ∀ (l : List Int) (f : Nat) (acc : List Int),(l.flatMap vput).length ≤ f → (∀ x ∈ l,¬ vbad x) → pP f (l.flatMap vput) acc = (acc ++ l,0)
  | [],f,acc,_,_=>by simp [aAL]
  | x :: l, f, acc, hf, hb => by
    have hx:=hb x (by simp)
    have hv:=aBD hx
    rw [List.flatMap_cons,List.length_append] at hf
    rw [List.flatMap_cons]
    have hg:=vV hx (l.flatMap vput)
    have hne : vput x ++ l.flatMap vput ≠ []:=by intro e; have:=congrArg List.length e; simp at this; have:=hv.1; simp_all
    cases f with
    | zero=>omega
    | succ f =>
      rw [pP,if_neg hne,hg]
      simp only [if_true]
      rw [← hv.2,Int.toNat_natCast,List.drop_left,xT l f _ (by omega) (fun y hy=>hb y (by simp [hy])),List.append_assoc]
      rfl
theorem xU : ∀ (f : Nat) (s : List UInt8) (acc : List Int), s.length ≤ f → (pP f s acc).2 = 0 → ∃ l, (pP f s acc).1 = acc ++ l ∧ s = l.flatMap vput ∧ ∀ x ∈ l, ¬ vbad x
  | 0,s,acc,hf,h=>⟨[],by simp [pP],by simpa using hf,by simp⟩
  | f + 1, s, acc, hf, h => by
    rw [pP] at h ⊢
    by_cases hs : s = []
    · rw [if_pos hs]; exact ⟨[],by simp,by simpa using hs,by simp⟩
    · rw [if_neg hs] at h ⊢
      by_cases hz : (vget s).2.2 = 0
      · rw [if_pos hz] at h ⊢
        have hsz:=lM hz
        obtain ⟨l,h1,h2,h3⟩:=xU f (s.drop (vget s).2.1.toNat) (acc ++ [(vget s).1]) (by rw [List.length_drop]; omega) h
        have hv:=sT hz
        refine ⟨(vget s).1 :: l,by rw [h1,List.append_assoc]; rfl,?_,?_⟩
        · rw [List.flatMap_cons,← h2,hv.2,List.take_append_drop]
        · intro x hx
          rcases List.mem_cons.1 hx with rfl | hx
          · exact hv.1
          · exact h3 x hx
      · rw [if_neg hz] at h; exact absurd h hz
theorem aAZ : ∀ (l : List bK),qF (pl l) = l
  | []=>rfl
  | p :: l => by
    have:=aAZ l
    simp only [pl,List.flatMap_cons,List.cons_append,List.nil_append] at this ⊢
    rw [qF,this]
theorem aAY : ∀ (l : List Int),l.length % 2 = 0 → pl (qF l) = l
  | [],_=>rfl
  | [a],h=>by simp at h
  | a :: b :: l, h => by
    have:=aAY l (by simp only [List.length_cons] at h; omega)
    simp only [qF,pl,List.flatMap_cons,List.cons_append,List.nil_append] at this ⊢
    rw [this]

structure Good (f : aH) : Prop where
  known : oF f.Kind = true
  rng : rng f = true
  data : f.Data.length ≤ 32
  pairs : f.Pairs.length ≤ 4
  spr : spr f = false
theorem aB2 {f : aH} (h : chkF f = 0) : Good f := by
  unfold chkF at h
  cases hk : oF f.Kind with
  | false=>rw [hk] at h; simp at h
  | true =>
    rw [hk,if_neg (by decide)] at h
    cases hr : rng f with
    | false=>rw [hr] at h; simp at h
    | true =>
      rw [hr,if_neg (by decide)] at h
      by_cases hl : 32 < f.Data.length ∨ 4 < f.Pairs.length
      · rw [if_pos hl] at h; simp at h
      · rw [if_neg hl] at h
        cases hs : spr f with
        | true=>rw [hs] at h; simp at h
        | false=>exact ⟨hk,hr,by omega,by omega,hs⟩
theorem Good.zero {f : aH} (h : Good f) {p : Nat} (h2 : 2 ≤ p) (h7 : p ≤ 7) (hp : p ∉ lR f.Kind) : nv f p = 0:=by
  have hs:=h.spr
  have hz : zr f p = true:=by
    unfold Fn.spr at hs
    simp only [Bool.or_eq_false_iff,Bool.not_eq_false',Bool.and_eq_true] at hs
    obtain rfl | rfl | rfl | rfl | rfl | rfl : p = 2 ∨ p = 3 ∨ p = 4 ∨ p = 5 ∨ p = 6 ∨ p = 7:=by omega
    all_goals simp_all
  unfold zr at hz
  simpa [hp] using hz
theorem Good.nodata {f : aH} (h : Good f) (hk : f.Kind ≠ 0) : f.Data = []:=by
  have hs:=h.spr
  unfold Fn.spr at hs
  simp only [Bool.or_eq_false_iff] at hs
  have:=hs.1.1.2
  simpa [hk] using this
theorem Good.nopairs {f : aH} (h : Good f) (hk : f.Kind ≠ 4) : f.Pairs = []:=by
  have hs:=h.spr
  unfold Fn.spr at hs
  simp only [Bool.or_eq_false_iff] at hs
  have:=hs.1.2
  simpa [hk] using this
theorem lK {x a b : Int} (h : inb x a b = true) : a ≤ x ∧ x ≤ b:=by unfold inb at h; simpa using h
theorem pS {f : aH} {a b c : Int} (h : rngs f a b c = true) : (∀ p ∈ f.Pairs,qG p = true) ∧ (0 ≤ f.Stream ∧ f.Stream ≤ 1048576) ∧ (0 ≤ f.Offset ∧ f.Offset ≤ 1099511627776) ∧ (0 ≤ f.Dep ∧ f.Dep ≤ 1048576) ∧ (a ≤ f.N ∧ f.N ≤ b) ∧ 0 ≤ f.Code ∧ f.Code ≤ c:=by
  unfold rngs at h
  simp only [Bool.and_eq_true,List.all_eq_true] at h
  exact ⟨h.1.1.1.1.1,lK h.1.1.1.1.2,lK h.1.1.1.2,lK h.1.1.2,lK h.1.2,lK h.2⟩
theorem Good.vals {f : aH} (h : Good f) : ∀ x ∈ vals f, ¬ vbad x := by
  have hr:=h.rng
  have hR : (∀ p ∈ f.Pairs, qG p = true) ∧ (0 ≤ f.Stream ∧ f.Stream ≤ 1048576) ∧ (0 ≤ f.Offset ∧ f.Offset ≤ 1099511627776) ∧ (0 ≤ f.Dep ∧ f.Dep ≤ 1048576) ∧ (0 ≤ f.N ∧ f.N ≤ 1099511627776) ∧ (0 ≤ f.Code ∧ f.Code ≤ 255) ∧ (5 ∈ lR f.Kind → 0 ≤ f.Weight ∧ f.Weight ≤ 256) := by
    unfold Fn.rng at hr
    by_cases h8 : f.Kind = 8
    · rw [if_pos h8] at hr
      have:=pS hr
      exact ⟨this.1,this.2.1,this.2.2.1,this.2.2.2.1,by omega,by omega,by rw [h8]; intro h5; exact absurd h5 (by decide)⟩
    · rw [if_neg h8] at hr
      by_cases h10 : f.Kind = 10
      · rw [if_pos h10] at hr
        have:=pS hr
        exact ⟨this.1,this.2.1,this.2.2.1,this.2.2.2.1,by omega,by omega,by rw [h10]; intro h5; exact absurd h5 (by decide)⟩
      · rw [if_neg h10] at hr
        by_cases h12 : f.Kind = 1 ∨ f.Kind = 2
        · rw [if_pos h12, Bool.and_eq_true] at hr
          have:=pS hr.2
          have hw:=lK hr.1
          exact ⟨this.1,this.2.1,this.2.2.1,this.2.2.2.1,by omega,by omega,fun _=>by omega⟩
        · rw [if_neg h12] at hr
          have:=pS hr
          refine ⟨this.1,this.2.1,this.2.2.1,this.2.2.2.1,by omega,by omega,fun h5=>?_⟩
          unfold lR at h5
          rw [if_neg (c:=f.Kind = 1) (fun e=>h12 (.inl e)),if_neg (c:=f.Kind = 2) (fun e=>h12 (.inr e))] at h5
          revert h5
          (repeat' split) <;> intro h5 <;> exact absurd h5 (by decide)
  intro x hx
  unfold Fn.vals at hx
  rw [List.mem_append,List.mem_map] at hx
  rcases hx with ⟨o,ho,rfl⟩ | hx
  · have hb := (kG f.Kind).2 o ho
    unfold vbad
    obtain rfl | rfl | rfl | rfl | rfl | rfl : o = 2 ∨ o = 3 ∨ o = 4 ∨ o = 5 ∨ o = 6 ∨ o = 7:=by omega
    · simp only [nv]; simp; omega
    · simp only [nv]; simp; omega
    · simp only [nv]; simp; omega
    · have:=hR.2.2.2.2.2.2 ho; simp only [nv]; simp; omega
    · simp only [nv]; simp; omega
    · simp only [nv]; simp; omega
  · unfold pl at hx
    rw [List.mem_flatMap] at hx
    obtain ⟨p,hp,hx⟩:=hx
    have:=hR.1 p hp
    unfold qG at this
    rw [Bool.and_eq_true] at this
    have h1:=lK this.1
    have h2:=lK this.2
    unfold vbad
    simp at hx
    rcases hx with rfl | rfl <;> omega
theorem Good.pay {f : aH} (h : Good f) : pay f = ((lR f.Kind).map (nv f)).flatMap vput ++ ((pl f.Pairs).flatMap vput ++ f.Data):=by
  unfold Fn.pay
  rw [yP h.vals]
  unfold Fn.vals
  rw [List.flatMap_append,List.append_assoc]
theorem Good.pay_le {f : aH} (h : Good f) : (Fn.pay f).length ≤ 64:=by
  rw [h.pay]
  have h1:=qC ((lR f.Kind).map (nv f))
  have h2:=qC (pl f.Pairs)
  rw [yA] at h2
  have h3:=(kG f.Kind).1
  rw [List.length_map] at h1
  simp only [List.length_append]
  have hd:=h.data
  have hp:=h.pairs
  by_cases h4 : f.Kind = 4
  · have e : lR f.Kind = [] := by rw [h4]; rfl
    have hn:=h.nodata (by omega)
    rw [e] at h1
    simp only [List.length_nil] at h1
    rw [hn]; simp only [List.length_nil]
    rw [e]; omega
  · have hn := h.nopairs h4
    rw [hn] at h2 ⊢
    simp only [List.length_nil] at h2
    omega
theorem Good.read {f : aH} (h : Good f) : rU (Fn.pay f) ⟨f.Kind, f.Flag, 0, 0, 0, 0, 0, 0, [], []⟩ = some f := by
  have hb:=kG f.Kind
  obtain ⟨g,h1,h2,h3⟩:=aE1 (nv f) (lR f.Kind) ((pl f.Pairs).flatMap vput ++ f.Data) ⟨f.Kind,f.Flag,0,0,0,0,0,0,[],[]⟩
    (fun o ho=>h.vals _ (by unfold Fn.vals; rw [List.mem_append,List.mem_map]; exact .inl ⟨o,ho,rfl⟩)) hb.2
  obtain ⟨_,k1,k2,k3,k4⟩:=yW _ _ _ _ _ h1
  have hz : ∀ p,2 ≤ p → p ≤ 7 → nv ⟨f.Kind,f.Flag,0,0,0,0,0,0,[],[]⟩ p = 0:=by
    intro p h2 h7
    obtain rfl | rfl | rfl | rfl | rfl | rfl : p = 2 ∨ p = 3 ∨ p = 4 ∨ p = 5 ∨ p = 6 ∨ p = 7:=by omega
    all_goals rfl
  have hall : ∀ p,2 ≤ p → p ≤ 7 → nv g p = nv f p:=by
    intro p hp2 hp7
    by_cases hp : p ∈ lR f.Kind
    · exact h2 p hp
    · rw [h3 p hp2 hp7 hp,h.zero hp2 hp7 hp,hz p hp2 hp7]
  unfold rU
  rw [h.pay]
  simp only
  rw [h1,Option.bind_some]
  unfold body
  simp only at k1 k2 k3 k4
  have hnv : ∀ (P : List bK) (D : List UInt8) p,nv ⟨g.Kind,g.Flag,g.Stream,g.Offset,g.Dep,g.Weight,g.N,g.Code,P,D⟩ p = nv g p:=fun _ _ _=>rfl
  by_cases h0 : f.Kind = 0
  · rw [if_pos (by rw [k3]; exact h0)]
    have hp:=h.nopairs (by omega)
    rw [hp]
    congr 1
    refine xF (by simp only [k3]) (by simp only [k4]) (fun p a b=>by rw [hnv,hall p a b]) (by simp only [k1]; rw [hp]) ?_
    simp [pl]
  · rw [if_neg (by rw [k3]; exact h0)]
    have hd:=h.nodata h0
    rw [hd,List.append_nil]
    by_cases h4 : f.Kind = 4
    · rw [if_pos (by rw [k3]; exact h4)]
      have hv : vall ((pl f.Pairs).flatMap vput) = (pl f.Pairs,0):=by
        unfold vall
        rw [xT _ _ _ (Nat.le_refl _) (fun x hx=>h.vals x (by unfold Fn.vals; rw [List.mem_append]; exact .inr hx)),List.nil_append]
      have hl:=yA f.Pairs
      unfold setS
      rw [hv,if_pos ⟨rfl,by simp only; omega⟩,Option.map_some]
      congr 1
      exact xF (by simp only [k3]) (by simp only [k4]) (fun p a b=>by rw [hnv,hall p a b]) (by simp only [aAZ]) (by simp only [k2]; rw [hd])
    · rw [if_neg (by rw [k3]; exact h4)]
      have hp:=h.nopairs h4
      rw [hp]
      rw [if_pos (by simp [pl])]
      congr 1
      exact xF k3 k4 hall (by rw [k1,hp]) (by rw [k2,hd])
theorem Good.vpay {f : aH} (h : Good f) : ¬ vbad ((Fn.pay f).length : Int):=by have:=h.pay_le; unfold vbad; omega
theorem aEX {f : aH} (hk0 : 0 ≤ f.Kind) (hk1 : f.Kind ≤ 255) (hc : chkF f = 0) (rest : List UInt8) : getF ((putF f).1 ++ rest) = (f,((putF f).1.length : Int),0):=by
  have h:=aB2 hc
  have hl:=h.pay_le
  have hv:=aBD h.vpay
  unfold putF
  rw [if_pos hc]
  simp only [List.cons_append,List.nil_append,List.append_assoc]
  have hkk : (((UInt8.ofNat f.Kind.toNat).toNat : Nat) : Int) = f.Kind:=by simp; omega
  rw [oK (by rw [hkk]; exact h.known),vV h.vpay]
  simp only
  rw [if_neg (by cases f.Flag <;> decide),if_neg (by decide),if_neg (by omega),if_neg (by rw [← hv.2]; simp; omega),hkk,← hv.2,Int.toNat_natCast,Int.toNat_natCast,List.drop_left,List.take_left]
  have hfl : decide (((if f.Flag = true then 1 else 0 : UInt8).toNat : Int) = 1) = f.Flag:=by cases f.Flag <;> rfl
  rw [hfl,h.read]
  simp only [hc,if_true]
  congr 2
  simp; omega
theorem aCb (s : List UInt8) : (∃ c, c ≠ 0 ∧ getF s = (zF, 0, c)) ∨ ∃ k b t g, s = k :: b :: t ∧ ¬ 1 < b.toNat ∧ (vget t).2.2 = 0 ∧ ¬ (t.length : Int) - (vget t).2.1 < (vget t).1 ∧
    rU ((t.drop (vget t).2.1.toNat).take (vget t).1.toNat) ⟨k.toNat,decide ((b.toNat : Int) = 1),0,0,0,0,0,0,[],[]⟩ = some g ∧ chkF g = 0 ∧ getF s = (g,2 + (vget t).2.1 + (vget t).1,0):=by
  match s with
  | []=>exact .inl ⟨3,by decide,rfl⟩
  | k :: r =>
    cases hk : oF (k.toNat : Int) with
    | false=>exact .inl ⟨12,by decide,rP hk⟩
    | true =>
      match r with
      | []=>exact .inl ⟨3,by decide,vQ hk⟩
      | b :: t =>
        rw [oK hk]
        by_cases hb : 1 < b.toNat
        · rw [if_pos hb]; exact .inl ⟨4,by decide,rfl⟩
        · rw [if_neg hb]
          by_cases hv : (vget t).2.2 = 0
          · rw [if_neg (fun h => h hv)]
            by_cases h64 : 64 < (vget t).1
            · rw [if_pos h64]; exact .inl ⟨5,by decide,rfl⟩
            · rw [if_neg h64]
              by_cases hl : (t.length : Int) - (vget t).2.1 < (vget t).1
              · rw [if_pos hl]; exact .inl ⟨3,by decide,rfl⟩
              · rw [if_neg hl]
                cases hR : rU ((t.drop (vget t).2.1.toNat).take (vget t).1.toNat) ⟨k.toNat,decide ((b.toNat : Int) = 1),0,0,0,0,0,0,[],[]⟩ with
                | none=>exact .inl ⟨4,by decide,rfl⟩
                | some g =>
                  by_cases hc : chkF g = 0
                  · refine .inr ⟨k, b, t, g, rfl, hb, hv, hl, hR, hc, ?_⟩
                    simp only [hc,if_true]
                  · refine .inl ⟨chkF g, hc, ?_⟩
                    simp only [hc,if_false]
          · rw [if_pos hv]; exact .inl ⟨_,hv,rfl⟩
theorem aCx {p : List UInt8} {g0 g : aH} (hp0 : g0.Pairs = []) (hd0 : g0.Data = []) (h : rU p g0 = some g) : pay g = p := by
  unfold rU at h
  cases hr : rd (lR g0.Kind) p g0 with
  | none=>rw [hr] at h; cases h
  | some q =>
    obtain ⟨t,z⟩:=q
    rw [hr] at h
    simp only [Option.bind_some] at h
    have hb:=kG g0.Kind
    obtain ⟨h1,h2,h3⟩:=aE2 _ _ _ _ _ (aCR g0.Kind) hb.2 hr
    obtain ⟨_,k1,k2,k3,k4⟩:=yW _ _ _ _ _ hr
    have key : ∀ (l : List Int) (P : List bK) (D : List UInt8),pl P = l → (∀ x ∈ l,¬ vbad x) → t = l.flatMap vput ++ D → pay ⟨z.Kind,z.Flag,z.Stream,z.Offset,z.Dep,z.Weight,z.N,z.Code,P,D⟩ = p:=by
      intro l P D e hl ht
      unfold pay vals
      simp only
      have hnv : nv ⟨z.Kind,z.Flag,z.Stream,z.Offset,z.Dep,z.Weight,z.N,z.Code,P,D⟩ = nv z:=rfl
      rw [hnv,k3,e,yP,List.flatMap_append,List.append_assoc,← ht,← h1]
      intro x hx
      rw [List.mem_append,List.mem_map] at hx
      rcases hx with ⟨o,ho,rfl⟩ | hx
      · exact h2 o ho
      · exact hl x hx
    unfold body at h
    split at h
    · simp only [Option.some.injEq] at h; subst h
      exact key [] z.Pairs t (by rw [k1,hp0]; rfl) (by simp) (by simp)
    · split at h
      · cases hs : setS t with
        | none=>rw [hs] at h; cases h
        | some P =>
          rw [hs] at h; simp only [Option.map_some,Option.some.injEq] at h; subst h
          unfold setS at hs
          split at hs
          · rename_i hv
            simp only [Option.some.injEq] at hs; subst hs
            obtain ⟨l,e1,e2,e3⟩:=xU t.length t [] (Nat.le_refl _) hv.1
            have e4 : (vall t).1 = l:=by unfold vall; rw [e1,List.nil_append]
            refine key l _ _ ?_ e3 (by rw [k2,hd0,List.append_nil]; exact e2)
            rw [e4] at hv ⊢
            exact aAY l hv.2
          · cases hs
      · split at h
        · rename_i ht
          simp only [Option.some.injEq] at h; subst h
          exact key [] z.Pairs z.Data (by rw [k1,hp0]; rfl) (by simp) (by rw [k2,hd0]; simpa using ht)
        · cases h
theorem pF {s : List UInt8} (h : (getF s).2.2 = 0) : chkF (getF s).1 = 0 ∧ 0 < (getF s).2.1 ∧ (getF s).2.1 ≤ s.length ∧ putF (getF s).1 = (s.take (getF s).2.1.toNat, 0) ∧ 0 ≤ (getF s).1.Kind ∧ (getF s).1.Kind ≤ 255 := by
  rcases aCb s with ⟨c,hc,e⟩ | ⟨k,b,t,g,rfl,hb,hv,hl,hR,hc,e⟩
  · rw [e] at h; exact absurd h hc
  · rw [e]
    have h3:=lM hv
    have h4:=sJ (s:=t)
    have hkk:=(wF hR).2.2
    have hp:=aCx rfl rfl hR
    have hbt:=k.toNat_lt
    simp only at hkk ⊢
    have hk2 : g.Kind = (k.toNat : Int):=hkk.1
    refine ⟨hc,by omega,by simp; omega,?_,by omega,by omega⟩
    unfold putF
    rw [if_pos hc,hp]
    have hlen : (((t.drop (vget t).2.1.toNat).take (vget t).1.toNat).length : Int) = (vget t).1:=by rw [List.length_take,List.length_drop]; omega
    have hpv:=sT hv
    have e2 : (2 + (vget t).2.1 + (vget t).1).toNat = ((vget t).2.1.toNat + (vget t).1.toNat) + 1 + 1:=by omega
    have hfb : (if g.Flag = true then 1 else 0 : UInt8) = b:=by
      rw [hkk.2]
      have hbn : b.toNat = 0 ∨ b.toNat = 1:=by omega
      rcases hbn with hbn | hbn
      · have : b = 0 := UInt8.toNat_inj.1 hbn
        subst this; rfl
      · have : b = 1 := UInt8.toNat_inj.1 hbn
        subst this; rfl
    have hkb : UInt8.ofNat g.Kind.toNat = k:=by rw [hk2,Int.toNat_natCast]; simp
    rw [hlen,hpv.2,hfb,hkb,e2,List.take_succ_cons,List.take_succ_cons]
    congr 1
    simp only [List.cons_append,List.nil_append,List.append_assoc]
    congr 2
    rw [List.take_add]

end Go.Fn
open Go Go.IL
namespace Go.Fn

theorem aAK {s : List UInt8} (h : (vget s).2.2 ≠ 3) (t : List UInt8) : vget (s ++ t) = vget s:=by
  cases s with
  | nil=>exact absurd rfl h
  | cons b r =>
    by_cases h1 : (b :: r).length < 2 ^ (b.toNat / 64)
    · rw [oS h1] at h; exact absurd rfl h
    · have h1' : ¬ (b :: (r ++ t)).length < 2 ^ (b.toNat / 64) := by simp only [List.length_cons, List.length_append] at h1 ⊢; omega
      have htk : (r ++ t).take (2 ^ (b.toNat / 64) - 1) = r.take (2 ^ (b.toNat / 64) - 1):=List.take_append_of_le_length (by simp only [List.length_cons] at h1; omega)
      rw [List.cons_append]
      by_cases h2 : gU (beN (b.toNat % 64) (r.take (2 ^ (b.toNat / 64) - 1))) = ((b.toNat / 64 : Nat) : Int)
      · rw [sI h1 h2,sI h1' (by rw [htk]; exact h2),htk]
      · rw [oT h1 h2,oT h1' (by rw [htk]; exact h2)]
theorem aAz {s : List UInt8} (h : (getF s).2.2 ≠ 3) (t : List UInt8) : getF (s ++ t) = getF s := by
  match s with
  | []=>exact absurd rfl h
  | k :: r =>
    cases hk : oF (k.toNat : Int) with
    | false=>rw [List.cons_append,rP hk,rP hk]
    | true =>
      match r with
      | []=>rw [vQ hk] at h; exact absurd rfl h
      | b :: q =>
        rw [oK hk] at h
        rw [List.cons_append,List.cons_append,oK hk,oK hk]
        by_cases hb : 1 < b.toNat
        · rw [if_pos hb,if_pos hb]
        · rw [if_neg hb] at h; rw [if_neg hb, if_neg hb]
          by_cases hv : (vget q).2.2 = 0
          · have hm := aAK (s := q) (by rw [hv]; decide) t
            rw [if_neg (fun e=>e hv)] at h
            rw [hm,if_neg (c:=(vget q).2.2 ≠ 0) (fun e=>e hv),if_neg (c:=(vget q).2.2 ≠ 0) (fun e=>e hv)]
            by_cases h64 : 64 < (vget q).1
            · rw [if_pos h64,if_pos h64]
            · rw [if_neg h64] at h; rw [if_neg h64, if_neg h64]
              by_cases hl : (q.length : Int) - (vget q).2.1 < (vget q).1
              · rw [if_pos hl] at h; exact absurd rfl h
              · have h3 := lM hv
                have h4:=sJ (s:=q)
                rw [if_neg hl,if_neg (by rw [List.length_append]; omega)]
                have : ((q ++ t).drop (vget q).2.1.toNat).take (vget q).1.toNat = (q.drop (vget q).2.1.toNat).take (vget q).1.toNat:=by
                  rw [List.drop_append_of_le_length (by omega),List.take_append_of_le_length (by rw [List.length_drop]; omega)]
                rw [this]
          · rw [if_pos hv] at h
            have hm:=aAK (s:=q) h t
            rw [hm,if_pos hv,if_pos hv]
theorem aA0 {s : List UInt8} (h : (getF s).2.2 = 3) : s.length ≤ 80 := by
  match s with
  | []=>simp
  | k :: r =>
    cases hk : oF (k.toNat : Int) with
    | false=>rw [rP hk] at h; exact absurd h (by decide)
    | true =>
      match r with
      | []=>simp
      | b :: q =>
        rw [oK hk] at h
        by_cases hb : 1 < b.toNat
        · rw [if_pos hb] at h; exact absurd h (by decide)
        · rw [if_neg hb] at h
          by_cases hv : (vget q).2.2 = 0
          · rw [if_neg (fun e => e hv)] at h
            have h3:=lM hv
            have h8 : (vget q).2.1 ≤ 8:=by
              have:=sU (vget q).1
              rw [(sT hv).2,List.length_take] at this; omega
            by_cases h64 : 64 < (vget q).1
            · rw [if_pos h64] at h; exact absurd h (by decide)
            · rw [if_neg h64] at h
              by_cases hl : (q.length : Int) - (vget q).2.1 < (vget q).1
              · simp only [List.length_cons]; omega
              · rw [if_neg hl] at h
                exfalso
                revert h
                cases hR : rU ((q.drop (vget q).2.1.toNat).take (vget q).1.toNat) ⟨k.toNat,decide ((b.toNat : Int) = 1),0,0,0,0,0,0,[],[]⟩ with
                | none=>intro h; simp at h
                | some g =>
                  simp only
                  split
                  · intro h; simp at h
                  · rename_i hc
                    intro h
                    simp only at h
                    unfold chkF at h
                    (repeat' split at h) <;> simp at h
          · rw [if_pos hv] at h
            simp only at h
            cases q with
            | nil=>simp
            | cons c u =>
              by_cases h1 : (c :: u).length < 2 ^ (c.toNat / 64)
              · have := zA (k4 c)
                simp only [List.length_cons] at h1 ⊢; omega
              · by_cases h2 : gU (beN (c.toNat % 64) (u.take (2 ^ (c.toNat / 64) - 1))) = ((c.toNat / 64 : Nat) : Int)
                · rw [sI h1 h2] at h; simp at h
                · rw [oT h1 h2] at h; simp at h

def eatF : Nat → List UInt8 → List aH × List UInt8 × Int
  | 0,s=>([],s,0)
  | f + 1,s=>if (getF s).2.2 = 0 then ((getF s).1 :: (eatF f (s.drop (getF s).2.1.toNat)).1,(eatF f (s.drop (getF s).2.1.toNat)).2) else if (getF s).2.2 = 3 then ([],s,0) else ([],[],(getF s).2.2)
def eat (s : List UInt8) : List aH × List UInt8 × Int:=eatF (s.length + 1) s
theorem aA7 : ∀ (f g : Nat) (s : List UInt8),s.length < f → s.length < g → eatF f s = eatF g s
  | 0,_,s,h,_=>by omega
  | _,0,s,_,h=>by omega
  | f + 1, g + 1, s, h1, h2 => by
    unfold eatF
    by_cases h : (getF s).2.2 = 0
    · have h3 := pF h
      have hd : (s.drop (getF s).2.1.toNat).length = s.length - (getF s).2.1.toNat:=List.length_drop
      rw [if_pos h,if_pos h,aA7 f g _ (by omega) (by omega)]
    · rw [if_neg h,if_neg h]
theorem aA5 {s : List UInt8} (h : (getF s).2.2 = 0) : eat s = ((getF s).1 :: (eat (s.drop (getF s).2.1.toNat)).1,(eat (s.drop (getF s).2.1.toNat)).2):=by
  have h3:=pF h
  have hd : (s.drop (getF s).2.1.toNat).length = s.length - (getF s).2.1.toNat:=List.length_drop
  unfold eat
  rw [eatF,if_pos h,aA7 s.length _ _ (by omega) (Nat.lt_succ_self _)]
theorem qD {s : List UInt8} (h : (getF s).2.2 = 3) : eat s = ([],s,0):=by
  unfold eat; rw [eatF,if_neg (by rw [h]; decide),if_pos h]
theorem zY {s : List UInt8} (h : (getF s).2.2 ≠ 0) (h3 : (getF s).2.2 ≠ 3) : eat s = ([],[],(getF s).2.2):=by
  unfold eat; rw [eatF,if_neg h,if_neg h3]
theorem aDi {P : List UInt8 → Prop} (h : ∀ s,((getF s).2.2 = 0 → P (s.drop (getF s).2.1.toNat)) → P s) (s : List UInt8) : P s:=by
  have key : ∀ n (s : List UInt8),s.length < n → P s:=by
    intro n
    induction n with
    | zero=>intro s hs; omega
    | succ n ih =>
      intro s hs
      refine h s fun h0=>ih _ ?_
      have h3:=pF h0
      rw [List.length_drop]; omega
  exact key _ s (Nat.lt_succ_self _)
theorem yM (s : List UInt8) : ∀ t,eat (s ++ t) = if (eat s).2.2 = 0 then ((eat s).1 ++ (eat ((eat s).2.1 ++ t)).1,(eat ((eat s).2.1 ++ t)).2) else eat s:=by
  refine aDi (P:=fun s=>∀ t,eat (s ++ t) = if (eat s).2.2 = 0 then ((eat s).1 ++ (eat ((eat s).2.1 ++ t)).1,(eat ((eat s).2.1 ++ t)).2) else eat s) ?_ s
  intro s ih t
  by_cases h : (getF s).2.2 = 0
  · have hm := aAz (s := s) (by rw [h]; decide) t
    have h3:=pF h
    have hd : (s ++ t).drop (getF s).2.1.toNat = s.drop (getF s).2.1.toNat ++ t:=List.drop_append_of_le_length (by omega)
    rw [aA5 (by rw [hm]; exact h),aA5 h,hm,hd,ih h t]
    simp only
    split <;> rfl
  · by_cases h3 : (getF s).2.2 = 3
    · rw [qD h3]; simp
    · have hm := aAz h3 t
      rw [zY (by rw [hm]; exact h) (by rw [hm]; exact h3),zY h h3,hm]
      simp only [if_neg h]
theorem aA6 (s : List UInt8) : ((eat s).2.2 = 0 → (getF (eat s).2.1).2.2 = 3 ∧ (eat s).2.1.length ≤ s.length) ∧ ((eat s).2.2 ≠ 0 → (eat s).2.1 = []) ∧ (eat s).1.length ≤ s.length ∧ ∀ g ∈ (eat s).1,g.Pairs.length ≤ s.length:=by
  refine aDi (P:=fun s=>((eat s).2.2 = 0 → (getF (eat s).2.1).2.2 = 3 ∧ (eat s).2.1.length ≤ s.length) ∧ ((eat s).2.2 ≠ 0 → (eat s).2.1 = []) ∧ (eat s).1.length ≤ s.length ∧ ∀ g ∈ (eat s).1,g.Pairs.length ≤ s.length) ?_ s
  intro s ih
  by_cases h : (getF s).2.2 = 0
  · have h3 := pF h
    have hp:=aCa s
    obtain ⟨i1,i2,i3,i4⟩:=ih h
    have hd : (s.drop (getF s).2.1.toNat).length = s.length - (getF s).2.1.toNat:=List.length_drop
    rw [hd] at i3 i4
    rw [aA5 h]
    refine ⟨fun e=>⟨(i1 e).1,by have:=(i1 e).2; rw [hd] at this; exact Nat.le_trans this (Nat.sub_le _ _)⟩,i2,by rw [List.length_cons]; omega,fun g hg=>?_⟩
    rcases List.mem_cons.1 hg with rfl | hg
    · exact hp.1
    · have:=i4 g hg; omega
  · by_cases h3 : (getF s).2.2 = 3
    · rw [qD h3]; simp [h3]
    · rw [zY h h3]; simp [h]

def stOf (s : List UInt8) : cX:=⟨(eat s).2.1,(eat s).2.2,((eat s).1.length : Int)⟩
theorem yN {s : List UInt8} (hs : s.length ≤ 1000000) : jQ (stOf s) = some 0:=by
  obtain ⟨h1,h2,h3,_⟩:=aA6 s
  unfold jQ stOf
  simp only [gE]
  by_cases hb : (eat s).2.2 = 0
  · obtain ⟨h4, h5⟩ := h1 hb
    have h6:=aA0 h4
    rw [decide_eq_true hb,get_F (by omega),dH,h4,decide_eq_false (show ¬ 80 < ((eat s).2.1.length : Int) by omega),decide_eq_false (show ¬ ((eat s).1.length : Int) < 0 by omega)]
    rfl
  · rw [decide_eq_false hb, h2 hb, get_F (by simp), dH, decide_eq_false (show ¬ ((eat s).1.length : Int) < 0 by omega)]
    rfl
theorem aDf (a : cX) : ∀ (k : Nat) (s : List UInt8) (n : Nat) (acc : List aH),s.length < k → acc.length + s.length ≤ 1000000 → n + s.length ≤ 1000000 →
    gZ a k s (n : Int) acc = some (⟨(eat s).2.1,if (eat s).2.2 = 0 then a.Bad else (eat s).2.2,((n + (eat s).1.length : Nat) : Int)⟩,acc ++ (eat s).1):=by
  intro k
  induction k with
  | zero=>intro s n acc h; omega
  | succ k ih =>
    intro s n acc hk hl hn
    unfold gZ jE
    rw [get_F (by omega),dH]
    simp only [gE]
    by_cases h : (getF s).2.2 = 0
    · have h3 := pF h
      have hd : (s.drop (getF s).2.1.toNat).length = s.length - (getF s).2.1.toNat:=List.length_drop
      rw [decide_eq_true h,cond_true,aA8 (by omega) h3.2.2.1,dH,w64 (by omega) (by omega),kV (by simp; omega) (by simp; omega),dH]
      simp only [Bool.not_true,cond_false]
      rw [show (n : Int) + 1 = ((n + 1 : Nat) : Int) by omega,ih _ (n + 1) _ (by omega) (by simp; omega) (by omega),aA5 h]
      simp only [List.append_assoc,List.cons_append,List.nil_append,List.length_cons]
      congr 3; congr 1; omega
    · rw [decide_eq_false h, cond_false]
      by_cases h3 : (getF s).2.2 = 3
      · rw [decide_eq_true h3,qD h3]; simp
      · rw [decide_eq_false h3,zY h h3]; simp [h]
theorem st0 : (⟨[],0,0⟩ : cX) = stOf []:=by
  unfold stOf; rw [qD rfl]; rfl
theorem aAT {a : List aH} (ha : a.length ≤ 1000000) (hp : ∀ g ∈ a,g.Pairs.length ≤ 1000000) : ∀ (k i : Nat),a.length - i < k → i ≤ a.length → eH a a k (i : Int) = some true:=by
  intro k
  induction k with
  | zero=>intro i h; omega
  | succ k ih =>
    intro i hk hi
    unfold eH
    simp only [gE]
    by_cases hc : i < a.length
    · have hm := hp _ (List.getElem_mem hc)
      rw [decide_eq_true (by omega),cond_true,lV,List.getElem?_eq_getElem hc,dH,dH,aD7 hm hm,dH]
      simp only [decide_true,Bool.not_true,cond_false]
      rw [sX hc (by omega)]
      exact ih (i + 1) (by omega) (by omega)
    · rw [decide_eq_false (by omega),cond_false]
theorem aCJ {a : List aH} (ha : a.length ≤ 1000000) (hp : ∀ g ∈ a,g.Pairs.length ≤ 1000000) : fP a a = some true:=by
  unfold fP
  simp only [gE,decide_true,Bool.not_true,cond_false]
  exact aAT ha hp fuel 0 (fF (by omega)) (Nat.zero_le _)
end Go.Fn
open Go Go.IL
namespace Go.Fn

end Go.Fn
open Go Go.IL
namespace Go.Fn

structure Fine (f : aH) : Prop where
  k0 : 0 ≤ f.Kind
  k1 : f.Kind ≤ 255
  ok : chkF f = 0
def cats (l : List aH) : List UInt8:=l.flatMap fun f=>(putF f).1
theorem aC4 {f : aH} (h : Fine f) : 0 < (putF f).1.length ∧ (putF f).1.length ≤ 76:=by
  have hg:=aB2 h.ok
  have hl:=hg.pay_le
  have hv:=sU ((pay f).length : Int)
  unfold putF
  rw [if_pos h.ok]
  simp
  omega
theorem eat_put {f : aH} (h : Fine f) (t : List UInt8) : eat ((putF f).1 ++ t) = (f :: (eat t).1,(eat t).2):=by
  have hb:=aEX h.k0 h.k1 h.ok t
  rw [aA5 (by rw [hb]),hb]
  simp only [Int.toNat_natCast,List.drop_left]
theorem zX : ∀ (l : List aH),(∀ f ∈ l,Fine f) → eat (cats l) = (l,[],0)
  | [],_=>qD rfl
  | f :: l, h => by
    have : cats (f :: l) = (putF f).1 ++ cats l:=rfl
    rw [this,eat_put (h f (by simp)),zX l (fun g hg=>h g (by simp [hg]))]
end Go.Fn
open Go Go.IL
namespace Go.Fn
theorem kU {α : Type} {l p r : List α} {x : α} (h : l = p ++ x :: r) : gix l (p.length : Int) = some x:=by
  subst h; rw [lV,List.getElem?_append_right (Nat.le_refl _)]; simp
theorem sA {α : Type} {l p r : List α} {x : α} (h : l = p ++ x :: r) : decide ((p.length : Int) < (l.length : Int)) = true:=by
  subst h; simp; omega
theorem sF {α : Type} {l p : List α} (h : l = p ++ []) : decide ((p.length : Int) < (l.length : Int)) = false:=by
  subst h; simp
theorem yE {α : Type} {l : List α} : decide ((l.length : Int) < (l.length : Int)) = false:=by simp
theorem w_at {α : Type} {l p r : List α} {x : α} (h : l = p ++ x :: r) (hl : l.length ≤ 1000000) : IntKind.wrap .i64 ((p.length : Int) + 1) = ((p ++ [x]).length : Int):=by
  subst h; simp only [List.length_append,List.length_cons,List.length_nil] at hl ⊢; rw [w64 (by omega) (by omega)]; omega
theorem kW {α : Type} {l p r : List α} {x : α} (h : l = p ++ x :: r) : l = (p ++ [x]) ++ r:=by rw [h]; simp
theorem tf : (true == false) = false:=rfl
theorem ft : (false == true) = false:=rfl
theorem aEV {α : Type} {l p r : List α} {x y : α} (h : l = (p ++ [x]) ++ y :: r) (hl : l.length ≤ 1000000) : gix l (IntKind.wrap .i64 (((p ++ [x]).length : Int) - 1)) = some x:=by
  have hp : p.length ≤ 1000000:=by rw [h] at hl; simp at hl; omega
  rw [show ((p ++ [x]).length : Int) - 1 = (p.length : Int) by simp,w64 (by omega) (by omega)]
  exact kU (r:=y :: r) (by rw [h]; simp)
theorem cut_at {α : Type} {l p r : List α} (h : l = p ++ r) : cut l 0 (p.length : Int) = some p:=by
  subst h; unfold cut; rw [if_pos (by simp; omega)]; simp
theorem aEe {α : Type} {l p r : List α} (h : l = p ++ r) : cut l (p.length : Int) (l.length : Int) = some r:=by
  subst h; unfold cut; rw [if_pos (by simp; omega),Int.toNat_natCast,Int.toNat_natCast,List.take_length,List.drop_left]
theorem aBw {α : Type} {L : Nat → Int → Option Int} {l : List α} {q : α → Bool}
    (h1 : ∀ p x r f,l = p ++ x :: r → L (f + 1) (p.length : Int) = bif q x then some (p.length : Int) else L f ((p ++ [x]).length : Int)) (h0 : ∀ f,L (f + 1) (l.length : Int) = some (-1)) :
    ∀ (r p : List α) (f : Nat), l = p ++ r → r.length < f → (∀ y ∈ p, q y = false) →
      (L f (p.length : Int) = some (-1) ∧ ∀ y ∈ l,q y = false) ∨ ∃ a x t,l = a ++ x :: t ∧ (∀ y ∈ a,q y = false) ∧ q x = true ∧ L f (p.length : Int) = some (a.length : Int)
  | [], p, f + 1, h, _, ha => by
    left
    rw [List.append_nil] at h
    subst h
    exact ⟨h0 f,ha⟩
  | y :: r, p, f + 1, h, hf, ha => by
    rw [h1 p y r f h]
    rcases Bool.eq_false_or_eq_true (q y) with hb | hb
    · right; exact ⟨p,y,r,h,ha,hb,by rw [hb]; rfl⟩
    · rw [hb, dJ]
      exact aBw h1 h0 r (p ++ [y]) f (kW h) (by simpa using hf) (fun z hz=>by
        rcases List.mem_append.1 hz with hz | hz
        · exact ha z hz
        · rw [List.mem_singleton.1 hz]; exact hb)
theorem aES {α : Type} {L : Nat → Int → Option Int} {l : List α} {q : α → Bool} (hl : l.length ≤ 1000000)
    (h1 : ∀ p x r f,l = p ++ x :: r → L (f + 1) (p.length : Int) = bif q x then some (p.length : Int) else L f ((p ++ [x]).length : Int)) (h0 : ∀ f,L (f + 1) (l.length : Int) = some (-1)) :
    ∃ k : Int,L fuel 0 = some k ∧ decide (0 ≤ k) = l.any q:=by
  rcases aBw h1 h0 l [] fuel rfl (fF (by omega)) (fun _ h=>(List.not_mem_nil h).elim) with ⟨h2,h3⟩ | ⟨a,x,t,h2,h3,h4,h5⟩
  · refine ⟨-1, h2, ?_⟩
    symm
    have : l.any q = false:=by rw [List.any_eq_false]; intro y hy; rw [h3 y hy]; decide
    rw [this]; rfl
  · refine ⟨a.length, h5, ?_⟩
    have : l.any q = true:=List.any_eq_true.2 ⟨x,by rw [h2]; simp,h4⟩
    rw [this]; exact decide_eq_true (by omega)
theorem aA4 {α : Type} [DecidableEq α] {L : Nat → Int → Option Bool} {l m : List α} (hm : l.length = m.length)
    (h1 : ∀ p x r s y t f,l = p ++ x :: r → m = s ++ y :: t → p.length = s.length → L (f + 1) (p.length : Int) = bif !decide (x = y) then some false else L f ((p ++ [x]).length : Int)) {z : Bool} (h0 : ∀ f,L (f + 1) (l.length : Int) = some z) :
    ∀ (r t p s : List α) (f : Nat),l = p ++ r → m = s ++ t → p.length = s.length → r.length < f → L f (p.length : Int) = some (decide (r = t) && z)
  | [], [], p, s, f + 1, h, k, e, _ => by
    rw [List.append_nil] at h
    subst h
    rw [h0]; simp
  | [],y :: t,p,s,f + 1,h,k,e,_=>by rw [h,k] at hm; simp at hm; omega
  | x :: r,[],p,s,f + 1,h,k,e,_=>by rw [h,k] at hm; simp at hm; omega
  | x :: r, y :: t, p, s, f + 1, h, k, e, hf => by
    rw [h1 p x r s y t f h k e]
    by_cases hx : x = y
    · subst hx
      rw [decide_eq_true rfl,Bool.not_true,dJ]
      have:=aA4 hm h1 h0 r t (p ++ [x]) (s ++ [x]) f (kW h) (kW k) (by simp [e]) (by simpa using hf)
      rw [this]; simp
    · rw [decide_eq_false hx,Bool.not_false,fG]; simp [hx]
theorem xI {α : Type} [DecidableEq α] {L : Nat → Int → Option Bool} {l m : List α} (hl : l.length ≤ 1000000)
    (h1 : ∀ p x r s y t f,l = p ++ x :: r → m = s ++ y :: t → p.length = s.length → L (f + 1) (p.length : Int) = bif !decide (x = y) then some false else L f ((p ++ [x]).length : Int)) {z : Bool} (h0 : l.length = m.length → ∀ f,L (f + 1) (l.length : Int) = some z) :
    (bnd (!decide ((l.length : Int) = (m.length : Int))) fun x1=>bif x1 then some false else L fuel 0) = some (decide (l = m) && z):=by
  by_cases hm : l.length = m.length
  · simp only [bndD, decide_eq_true (show (l.length : Int) = (m.length : Int) by omega), Bool.not_true, dJ]
    exact aA4 hm h1 (h0 hm) l m [] [] fuel rfl rfl rfl (fF (by omega))
  · simp only [bndD, decide_eq_false (show ¬ (l.length : Int) = (m.length : Int) by omega), Bool.not_false, fG]
    rw [decide_eq_false (fun h=>hm (by rw [h]))]; rfl
theorem qJ {α : Type} {P : α → Option Bool} {q : α → Bool} (hP : ∀ x,P x = some (q x)) {I : Nat → Int → Option Int} {l : List α}
    (hI : ∀ f v,I (f + 1) v = bnd (decide (v < (l.length : Int))) fun x14=>bif x14 then (bno (gix l v) fun x16=>bno (P x16) fun x17=>bif x17 then some v else (bnd (IntKind.wrap .i64 (v + 1)) fun x19=>I f x19)) else some (-1))
    (hl : l.length ≤ 1000000) : (bno (I fuel 0) fun x1=>bnd (decide (0 ≤ x1)) fun x2=>some x2) = some (l.any q):=by
  obtain ⟨k,h1,h2⟩:=aES (L:=I) (q:=q) hl (fun p x r f h=>by
    rw [hI]; simp only [bndD,sA h,fG,kU h,bnoS,hP,w_at h hl]) (fun f=>by rw [hI]; simp only [bndD,yE,dJ])
  rw [h1,bnoS,bndD,h2]
theorem aEd {α : Type} {l : List α} {i : Nat} (h : i ≤ l.length) : cut l 0 (i : Int) = some (l.take i):=by
  have h1:=cut_at (l:=l) (List.take_append_drop i l).symm
  rwa [show (l.take i).length = i by rw [List.length_take]; omega] at h1
end Go.Fn
open Go Go.IL
namespace Go.Fn
abbrev Iv:=aI
abbrev Pc:=aM
abbrev S23:=bB
def mem (n : Int) (s : List Iv) : Prop:=∃ x ∈ s,x.From ≤ n ∧ n < x.To
def mayB (x : Iv) : Bool:=(decide (0 ≤ x.From) && decide (x.From ≤ 4611686018427387903)) && (decide (0 ≤ x.To) && decide (x.To ≤ 4611686018427387903))
theorem aDA (x : Iv) : gP x = some (mayB x):=by
  unfold gP rD mayB
  simp only [bndD,bnoS]
  cases decide (0 ≤ x.From) && decide (x.From ≤ 4611686018427387903) <;> rfl
theorem wT (x : Iv) : fI x = some (decide (x.To ≤ x.From)):=rfl
structure VS (s : List Iv) : Prop where
  pw : s.Pairwise (fun x y=>x.To < y.From)
  ne : ∀ x ∈ s,x.From < x.To
  lo : ∀ x ∈ s,0 ≤ x.From
  hi : ∀ x ∈ s,x.To ≤ 4398046511104
theorem VS.nil : VS []:=⟨.nil,fun _ h=>(List.not_mem_nil h).elim,fun _ h=>(List.not_mem_nil h).elim,fun _ h=>(List.not_mem_nil h).elim⟩
theorem aAI : ∀ {s : List Iv} {a b : Int},s.Pairwise (fun x y=>x.To < y.From) → (∀ x ∈ s,x.From < x.To) → (∀ x ∈ s,a ≤ x.From ∧ x.To ≤ b) → a ≤ b → (s.length : Int) ≤ b - a
  | [],a,b,_,_,_,h=>by simp; omega
  | x :: s, a, b, hp, hn, hb, hab => by
    have hp:=List.pairwise_cons.1 hp
    have h1:=hn x (by simp)
    have h2:=hb x (by simp)
    have:=aAI (s:=s) (a:=x.To) (b:=b) hp.2 (fun y hy=>hn y (by simp [hy])) (fun y hy=>⟨by have:=hp.1 y hy; omega,(hb y (by simp [hy])).2⟩) h2.2
    simp only [List.length_cons]; omega
theorem aBx {s : List Iv} (hl : s.length ≤ 1000000) (hp : s.Pairwise (fun x y=>x.To < y.From)) : ∀ (r p : List Iv) (x : Iv) (f : Nat),s = (p ++ [x]) ++ r → r.length < f → fT s f ((p ++ [x]).length : Int) = some 0
  | [], p, x, f + 1, h, _ => by
    unfold fT
    simp only [bndD,sF h,dJ]
  | y :: r, p, x, f + 1, h, hf => by
    unfold fT
    have hxy : x.To < y.From:=by
      rw [h] at hp
      exact (List.pairwise_append.1 hp).2.2 x (by simp) y (by simp)
    simp only [bndD,sA h,fG,aEV h hl,kU h,bnoS,decide_eq_false (show ¬ y.From ≤ x.To by omega),dJ,w_at h hl]
    exact aBx hl hp r (p ++ [x]) y f (kW h) (by simpa using hf)
theorem xE {s : List Iv} (hl : s.length ≤ 100000) (h : VS s) : kJ s = some 0:=by
  unfold kJ
  have h1 : dE s = some (s.any (fun x=>!mayB x)):=by
    have hc : ∀ x : Iv,lT (⟨x.From,x.To⟩ : Iv) = some (!mayB x):=fun x=>by unfold lT; rw [aDA,bnoS]
    have hI : ∀ f v,bY s (f + 1) v = bnd (decide (v < (s.length : Int))) fun x14=>bif x14 then (bno (gix s v) fun x16=>bno (some (!mayB x16)) fun x17=>bif x17 then some v else (bnd (IntKind.wrap .i64 (v + 1)) fun x19=>bY s f x19)) else some (-1):=fun f v=>by
      rw [bY]
      simp only [hc]
    exact qJ (P:=fun x : Iv=>some (!mayB x)) (fun _=>rfl) hI (by omega)
  have h2 : dK s = some (s.any (fun x=>decide (x.To ≤ x.From))):=by
    have hI : ∀ f v,cB s (f + 1) v = bnd (decide (v < (s.length : Int))) fun x14=>bif x14 then (bno (gix s v) fun x16=>bno (some (decide (x16.To ≤ x16.From))) fun x17=>bif x17 then some v else (bnd (IntKind.wrap .i64 (v + 1)) fun x19=>cB s f x19)) else some (-1):=fun f v=>by
      rw [cB]
      simp only [wT]
    exact qJ (P:=fun x : Iv=>some (decide (x.To ≤ x.From))) (fun _=>rfl) hI (by omega)
  have e1 : s.any (fun x=>!mayB x) = false:=by
    rw [List.any_eq_false]; intro x hx
    have a1:=h.lo x hx
    have a2:=h.hi x hx
    have a3:=h.ne x hx
    unfold mayB; simp; omega
  have e2 : s.any (fun x=>decide (x.To ≤ x.From)) = false:=by
    rw [List.any_eq_false]; intro x hx
    have a3:=h.ne x hx
    simp; omega
  rw [h1,e1,bnoS,dJ,h2,e2,bnoS,dJ]
  cases hs : s with
  | nil =>
    have hf : fuel = 18446744073709551615 + 1:=rfl
    rw [hf]; rfl
  | cons x r =>
    have h3 : s = ([] ++ [x]) ++ r:=hs
    have:=aBx (by omega) h.pw r [] x fuel h3 (fF (by rw [hs] at hl; simp at hl; omega))
    have this : fT s fuel 1 = _:=this
    rw [← hs]; exact this
theorem iclone {l : List Iv} (hl : l.length ≤ 100000) : dF l = some l:=by
  unfold dF
  have h : (bno (app 16 ([] : (List Iv)) l) fun x3=>some x3) = some l:=by
    rw [kV (by simp; omega) (by simp; omega),bnoS,List.nil_append]
  rw [h,rT]
  rintro rfl; rfl
theorem iclone2 {l : List Iv} (hl : l.length ≤ 100000) : dQ l = some l:=by
  unfold dQ
  have h : (bno (app 16 ([] : (List Iv)) l) fun x3=>some x3) = some l:=by
    rw [kV (by simp; omega) (by simp; omega),bnoS,List.nil_append]
  rw [h,rT]
  rintro rfl; rfl
def xJ (y x : Iv) : List Iv:=(if y.From < min y.To x.From then [⟨y.From,min y.To x.From⟩] else []) ++ (if max y.From x.To < y.To then [⟨max y.From x.To,y.To⟩] else [])
def cutS (s : List Iv) (x : Iv) : List Iv:=s.flatMap fun y=>xJ y x
theorem aC7 (y x : Iv) : (xJ y x).length ≤ 2:=by unfold xJ; rw [List.length_append]; (repeat' split) <;> simp
theorem aB1 (x : Iv) : ∀ (s : List Iv),(cutS s x).length ≤ 2 * s.length
  | []=>Nat.le_refl _
  | y :: s => by
    have h1:=aB1 x s
    have h2:=aC7 y x
    show (xJ y x ++ cutS s x).length ≤ _
    rw [List.length_append,List.length_cons]; omega
theorem aDl {s : List Iv} {x : Iv} (h : ∀ y ∈ s,y.From < y.To ∧ (y.To ≤ x.From ∨ x.To ≤ y.From)) (hx : x.From < x.To) : cutS s x = s:=by
  induction s with
  | nil=>rfl
  | cons y s ih =>
    have h1:=h y (by simp)
    show xJ y x ++ cutS s x = y :: s
    rw [ih (fun z hz=>h z (by simp [hz]))]
    have : xJ y x = [y]:=by
      unfold xJ
      rcases h1.2 with h2 | h2
      · rw [if_pos (by omega),if_neg (by omega),show min y.To x.From = y.To by omega]; rfl
      · rw [if_neg (by omega),if_pos (by omega),show max y.From x.To = y.From by omega]; rfl
    rw [this]; rfl
theorem cut_one {x : Iv} {k : Int} {kk0 : Int → List Iv → Option (List Iv)} (y : Iv) (acc : List Iv) (n : Nat) (ha : acc.length ≤ 100000) :
    fO k kk0 y (min y.To x.From) (max y.From x.To) (n + 3) 0 acc = kk0 (IntKind.wrap .i64 (k + 1)) (acc ++ xJ y x):=by
  have w0 : IntKind.wrap .i64 (0 + 1) = 1:=rfl
  have w1 : IntKind.wrap .i64 (1 + 1) = 2:=rfl
  have g0 : ∀ a b : Iv,gix [a,b] 0 = some a:=fun _ _=>rfl
  have g1 : ∀ a b : Iv,gix [a,b] 1 = some b:=fun _ _=>rfl
  unfold xJ
  have e2 : ∀ (m : Nat) (a : List Iv),fO k kk0 y (min y.To x.From) (max y.From x.To) (m + 1) 2 a = kk0 (IntKind.wrap .i64 (k + 1)) a:=fun m a=>by
    rw [fO]
    simp only [bndD,show decide ((2 : Int) < 2) = false from rfl,dJ]
  have e1 : ∀ (m : Nat) (a : List Iv),a.length ≤ 100001 → fO k kk0 y (min y.To x.From) (max y.From x.To) (m + 2) 1 a = kk0 (IntKind.wrap .i64 (k + 1)) (a ++ if max y.From x.To < y.To then [⟨max y.From x.To,y.To⟩] else []):=fun m a hal=>by
    rw [fO]
    simp only [bndD,show decide ((1 : Int) < 2) = true from rfl,fG,g1,bnoS,wT]
    by_cases h : max y.From x.To < y.To
    · rw [decide_eq_false (by omega), if_pos h]
      simp only [Bool.not_false,beq_self_eq_true,fG,Bool.not_true,Bool.and_false,dJ,w1]
      rw [kV (by simp; omega) (by simp; omega),bnoS,e2 m]
    · rw [decide_eq_true (by omega), if_neg h, List.append_nil]
      simp only [Bool.not_true,ft,dJ,Bool.not_false,Bool.and_true,w1,e2 m]
  rw [fO]
  simp only [bndD,show decide ((0 : Int) < 2) = true from rfl,fG,g0,bnoS,wT]
  by_cases h : y.From < min y.To x.From
  · rw [decide_eq_false (by omega), if_pos h]
    simp only [Bool.not_false,beq_self_eq_true,fG,Bool.not_true,Bool.and_false,dJ,w0]
    rw [kV (by simp; omega) (by simp; omega),bnoS,e1 n _ (by simp; omega),List.append_assoc]
  · rw [decide_eq_true (by omega), if_neg h, List.nil_append]
    simp only [Bool.not_true,ft,dJ,Bool.not_false,Bool.and_true,w0]
    rw [e1 n _ (by omega)]
theorem cut_L {s : List Iv} {x : Iv} (hl : s.length ≤ 20000) : ∀ (r p : List Iv) (f : Nat),s = p ++ r → r.length < f → iQ s x f (p.length : Int) (cutS p x) = some (cutS s x)
  | [], p, f + 1, h, _ => by
    unfold iQ
    simp only [bndD,sF h,dJ]
    rw [List.append_nil] at h; rw [h]
  | y :: r, p, f + 1, h, hf => by
    unfold iQ
    have hp : p.length + (r.length + 1) = s.length:=by rw [h]; simp
    have hc:=aB1 x p
    simp only [bndD,sA h,fG,kU h,bnoS]
    have hfu : fuel = 18446744073709551613 + 3:=rfl
    rw [hfu,cut_one y (cutS p x) _ (by omega),w_at h (by omega)]
    have ih:=cut_L (x:=x) hl r (p ++ [y]) f (kW h) (by simpa using hf)
    have e : cutS (p ++ [y]) x = cutS p x ++ xJ y x:=by simp [cutS]
    rw [e] at ih
    exact ih
theorem cut_eq {s : List Iv} {x : Iv} (hl : s.length ≤ 20000) (h : VS s) (hx : 0 ≤ x.From ∧ x.From ≤ 4398046511104 ∧ 0 ≤ x.To ∧ x.To ≤ 4398046511104) : nS s x = some (if x.To ≤ x.From then s else cutS s x):=by
  have hm : mayB x = true:=by unfold mayB; simp; omega
  unfold nS
  rw [aDA (⟨x.From,x.To⟩ : Iv),show mayB (⟨x.From,x.To⟩ : Iv) = true from hm,bnoS]
  simp only [bndD,Bool.not_true,beq_self_eq_true,gdtt,wT,bnoS,Bool.false_or]
  by_cases hn : x.To ≤ x.From
  · rw [decide_eq_true hn, if_pos hn]
    simp only [tf,gdff,bnoS,Bool.true_or,fG,iclone (show s.length ≤ 100000 by omega)]
  · rw [decide_eq_false hn, if_neg hn]
    simp only [beq_self_eq_true,gdtt,xE (show s.length ≤ 100000 by omega) h,bnoS,decide_true,Bool.not_true,Bool.or_self,dJ]
    exact cut_L hl s [] fuel rfl (fF (by omega))
end Go.Fn
open Go Go.IL
namespace Go.Fn
theorem aE8 {s : List Iv} {x : Iv} (hl : s.length ≤ 20000) (h : VS s) (hx : x.From < x.To) (h0 : 0 ≤ x.From) (h1 : x.To ≤ 4398046511104) (hd : ∀ y ∈ s,y.To ≤ x.From ∨ x.To ≤ y.From) : ∀ (r p : List Iv) (f : Nat),s = p ++ r → r.length < f → iP s f [x] (p.length : Int) = some [x]
  | [], p, f + 1, hs, _ => by
    unfold iP
    simp only [bndD,sF hs,dJ]
  | y :: r, p, f + 1, hs, hf => by
    have hym : y ∈ s:=by rw [hs]; simp
    have hyn:=h.ne y hym
    have a1:=h.lo y hym
    have a2:=h.hi y hym
    have hdy:=hd y hym
    have hv : VS [x]:=⟨by simp,fun z hz=>by rw [List.mem_singleton.1 hz]; exact hx,fun z hz=>by rw [List.mem_singleton.1 hz]; exact h0,fun z hz=>by rw [List.mem_singleton.1 hz]; exact h1⟩
    unfold iP
    simp only [bndD,sA hs,fG,kU hs,bnoS]
    rw [cut_eq (x:=(⟨y.From,y.To⟩ : Iv)) (by simp) hv ⟨a1,by show y.From ≤ _; omega,by show 0 ≤ y.To; omega,a2⟩,if_neg (by show ¬ y.To ≤ y.From; omega),aDl (x:=(⟨y.From,y.To⟩ : Iv)) (fun z hz=>by rw [List.mem_singleton.1 hz]; exact ⟨hx,by show x.To ≤ y.From ∨ y.To ≤ x.From; omega⟩) hyn,bnoS,w_at hs (by omega)]
    exact aE8 hl h hx h0 h1 hd r (p ++ [y]) f (kW hs) (by simpa using hf)
theorem gaps_eq {s : List Iv} {x : Iv} (hl : s.length ≤ 20000) (h : VS s) (hx : x.From < x.To) (h0 : 0 ≤ x.From) (h1 : x.To ≤ 4398046511104) (hd : ∀ n,x.From ≤ n → n < x.To → ¬ mem n s) : pC s x = some [x]:=by
  have hm : mayB x = true:=by unfold mayB; simp; omega
  have hd2 : ∀ y ∈ s,y.To ≤ x.From ∨ x.To ≤ y.From:=fun y hy=>by
    have hyn:=h.ne y hy
    by_cases hc : y.To ≤ x.From ∨ x.To ≤ y.From
    · exact hc
    · exact absurd ⟨y,hy,by omega,by omega⟩ (hd (max x.From y.From) (by omega) (by omega))
  unfold pC
  rw [aDA (⟨x.From,x.To⟩ : Iv),show mayB (⟨x.From,x.To⟩ : Iv) = true from hm,bnoS]
  simp only [bndD,Bool.not_true,beq_self_eq_true,gdtt,xE (show s.length ≤ 100000 by omega) h,bnoS,decide_true,Bool.or_self,wT,decide_eq_false (show ¬ x.To ≤ x.From by omega),dJ]
  exact aE8 hl h hx h0 h1 hd2 s [] fuel rfl (fF (by omega))
theorem isame {l m : List Iv} (hl : l.length ≤ 1000000) : nM l m = some (decide (l = m)):=by
  have heq : ∀ x y : Iv,(decide (x.From = y.From) && (decide (x.To = y.To) && true)) = decide (x = y):=fun x y=>by
    obtain ⟨a,b⟩:=x; obtain ⟨c,d⟩:=y; rw [Bool.eq_iff_iff]; simp
  have:=xI (L:=cP l m) (m:=m) (z:=true) hl (fun p x r s y t f h k e=>by
    rw [cP]
    simp only [bndD,sA h,fG,kU h,show gix m (p.length : Int) = some y by rw [e]; exact kU k,bnoS,heq,w_at h hl]) (fun _ f=>by
    rw [cP]
    simp only [bndD,yE,dJ])
  rw [Bool.and_true] at this
  have this : eK l m = _:=this
  unfold nM
  rw [this,bnoS]
end Go.Fn
open Go Go.IL
namespace Go.Fn
def endS (s : S23) : Int:=s.Base + (s.Data.length : Int)
def fins (l : List Pc) : Nat:=(l.filter (·.Fin)).length
structure G (s : S23) : Prop where
  b0 : 0 ≤ s.Base
  bn : s.Base ≤ s.Next
  nd : s.Next ≤ endS s
  en : endS s ≤ 1099511623680
  dl : s.Data.length ≤ 4096
  lv : VS s.Lost
  lb : ∀ x ∈ s.Lost,s.Base ≤ x.From ∧ x.To ≤ s.Next
  pw : s.Pieces.Pairwise (fun p q=>p.To ≤ q.From)
  pb : ∀ p ∈ s.Pieces,(s.Base ≤ p.From ∧ p.From ≤ p.To ∧ p.To ≤ s.Next) ∧ 0 ≤ p.Path ∧ p.Path < 4
  pf : ∀ p ∈ s.Pieces,p.From = p.To → p.Fin = true
  pd : ∀ p ∈ s.Pieces,∀ n,p.From ≤ n → n < p.To → ¬ mem n s.Lost
  fe : ∀ p ∈ s.Pieces,p.Fin = true → p.To = endS s
  fc : fins s.Pieces = if s.Sent = true ∧ s.Again = false ∧ s.Done = false then 1 else 0
  se : s.Sent = true → s.Closed = true ∧ s.Next = endS s ∧ ¬ (s.Again = true ∧ s.Done = true)
  ns : s.Sent = false → s.Again = false ∧ s.Done = false
  cov : ∀ n,s.Base ≤ n → n < s.Next → mem n s.Lost ∨ ∃ p ∈ s.Pieces,p.From ≤ n ∧ n < p.To
theorem aE5 : ∀ {l : List Pc} {a b : Int},l.Pairwise (fun p q=>p.To ≤ q.From) → (∀ p ∈ l,a ≤ p.From ∧ p.From ≤ p.To ∧ p.To ≤ b) → (∀ p ∈ l,p.From = p.To → p.Fin = true) → a ≤ b → (l.length : Int) ≤ b - a + fins l
  | [],a,b,_,_,_,h=>by simp [fins]; omega
  | x :: l, a, b, hp, hb, hf, hab => by
    have hp:=List.pairwise_cons.1 hp
    have h1:=hb x (by simp)
    have:=aE5 (l:=l) (a:=x.To) (b:=b) hp.2 (fun y hy=>⟨hp.1 y hy,(hb y (by simp [hy])).2⟩) (fun y hy=>hf y (by simp [hy])) h1.2.2
    have hf1 : fins (x :: l) = fins l + if x.Fin = true then 1 else 0:=by unfold fins; rw [List.filter_cons]; split <;> simp
    rw [hf1]
    by_cases he : x.From = x.To
    · rw [if_pos (hf x (by simp) he)]
      simp only [List.length_cons]; omega
    · simp only [List.length_cons]; split <;> omega
theorem G.ll {s : S23} (h : G s) : s.Lost.length ≤ 4096:=by
  have h1:=aAI h.lv.pw h.lv.ne h.lb h.bn
  have h2:=h.nd
  have h3:=h.dl
  unfold endS at h2; omega
theorem G.pl {s : S23} (h : G s) : s.Pieces.length ≤ 4097:=by
  have h1:=aE5 h.pw (fun p hp=>(h.pb p hp).1) h.pf h.bn
  have h2:=h.nd
  have h3:=h.dl
  have h4 : fins s.Pieces ≤ 1:=by rw [h.fc]; split <;> omega
  unfold endS at h2; omega
theorem G.num {s : S23} (h : G s) : 0 ≤ s.Base ∧ s.Base ≤ s.Next ∧ s.Next ≤ endS s ∧ endS s ≤ 1099511623680:=⟨h.b0,h.bn,h.nd,h.en⟩
theorem zW {s : S23} (h : G s) : eR s = some (endS s):=by
  obtain ⟨h1,h2,h3,h4⟩:=h.num
  unfold eR
  rw [bndD]; unfold endS at *; rw [w64 (by omega) (by omega)]
theorem own23 {s : S23} (hp : s.Pieces.length ≤ 100000) (hl : s.Lost.length ≤ 100000) : fL s = some (s.Base,s.Data,s.Next,s.Pieces,s.Lost,s.Closed,s.Sent,s.Again,s.Done):=by
  unfold fL
  have e : cpy (List.replicate s.Pieces.length (⟨0,0,0,false⟩ : Pc)) s.Pieces = s.Pieces:=by
    unfold cpy
    rw [List.length_replicate,List.take_length,List.drop_of_length_le (by rw [List.length_replicate]; exact Nat.le_refl _),List.append_nil]
  rw [aDB (by omega) (by omega) (by omega),bnoS,Int.toNat_natCast,bndD,e,iclone2 hl,bnoS]
theorem lost23 {s : S23} (h : G s) : kC s = some true:=by
  have hl:=h.ll
  unfold kC
  rw [xE (by omega) h.lv,bnoS]
  simp only [bndD,decide_true,Bool.not_true,dJ]
  cases hs : s.Lost with
  | nil=>rfl
  | cons x r =>
    obtain ⟨p,y,hy⟩ : ∃ p y,x :: r = p ++ [y]:=by
      rcases List.eq_nil_or_concat (x :: r) with h | ⟨p,y,h⟩
      · cases h
      · exact ⟨p,y,by rw [h,List.concat_eq_append]⟩
    have hlen : ((x :: r).length : Int) = (p.length : Int) + 1:=by rw [hy]; simp
    have hpl : p.length ≤ 5000:=by rw [hs,hy] at hl; simp at hl; omega
    have hw : IntKind.wrap .i64 (((x :: r).length : Int) - 1) = (p.length : Int):=by rw [hlen,w64 (by omega) (by omega)]; omega
    have hg : gix (x :: r) (p.length : Int) = some y:=kU (r:=[]) hy
    have h0 : gix (x :: r) 0 = some x:=rfl
    have hx:=h.lb x (by rw [hs]; simp)
    have hyb:=h.lb y (by rw [hs,hy]; simp)
    simp only [decide_eq_false (show ¬ ((x :: r).length : Int) = 0 by omega),beq_self_eq_true,gdtt,h0,bnoS,decide_eq_true hx.1,Bool.and_self,hw,hg,decide_eq_true hyb.2,Bool.or_true]
theorem fits23 {s : S23} (h : G s) {p : Pc} (hp : p ∈ s.Pieces) {at_ : Int} (ha : at_ ≤ p.From) : kD s p at_ = some true:=by
  obtain ⟨⟨a1,a2,a3⟩,a4,a5⟩:=h.pb p hp
  obtain ⟨n1,n2,n3,n4⟩:=h.num
  have hl:=h.ll
  unfold kD qP gV
  simp only [bndD,decide_eq_false (show ¬ p.From < at_ by omega),decide_eq_false (show ¬ p.To < p.From by omega),decide_eq_false (show ¬ s.Next < p.To by omega),Bool.or_self,beq_self_eq_true,gdtt,decide_eq_true a4,decide_eq_true a5,Bool.and_self,bnoS,Bool.not_true,dJ]
  by_cases he : p.From = p.To
  · rw [decide_eq_true he,fG,h.pf p hp he]
  · rw [decide_eq_false he,dJ,gaps_eq (x:=(⟨p.From,p.To⟩ : Iv)) (by omega) h.lv (by show p.From < p.To; omega) (by show 0 ≤ p.From; omega) (by show p.To ≤ _; omega) (h.pd p hp),bnoS,isame (by simp),bnoS,decide_eq_true rfl]
theorem aEa (l m : List Pc) : fins (l ++ m) = fins l + fins m:=by unfold fins; rw [List.filter_append,List.length_append]
theorem aE9 {s : S23} (h : G s) : ∀ (r p : List Pc) (f : Nat),s.Pieces = p ++ r → r.length < f → eL s f (fins p : Int) (p.length : Int) = some true
  | [], p, f + 1, hs, _ => by
    unfold eL
    rw [List.append_nil] at hs
    have hc:=h.fc
    rw [hs] at hc
    simp only [bndD,show decide ((p.length : Int) < (s.Pieces.length : Int)) = false by rw [hs]; exact yE,dJ]
    cases hS : s.Sent
    · obtain ⟨h1, h2⟩ := h.ns hS
      rw [hS] at hc
      simp at hc
      simp [hc,h1,h2]
    · obtain ⟨h1, h2, h3⟩ := h.se hS
      rw [hS] at hc
      simp only [h1,Bool.not_true,dJ,beq_self_eq_true,gdtt,zW h,bnoS,decide_eq_true h2,Bool.or_self,Bool.false_or]
      cases hA : s.Again <;> cases hD : s.Done <;> rw [hA,hD] at hc h3 <;> simp at hc h3 <;> simp [hc]
  | x :: r, p, f + 1, hs, hf => by
    have hx : x ∈ s.Pieces:=by rw [hs]; simp
    have hpl:=h.pl
    have hpp : p.length + (r.length + 1) = s.Pieces.length:=by rw [hs]; simp
    have hfl : fins p ≤ p.length:=List.length_filter_le _ _
    have ih:=aE9 h r (p ++ [x]) f (kW hs) (by simpa using hf)
    rw [aEa] at ih
    unfold eL
    simp only [bndD,sA hs,fG,kU hs,bnoS,zW h,w_at hs (show s.Pieces.length ≤ 1000000 by omega)]
    cases hF : x.Fin
    · rw [dJ]
      have : fins [x] = 0:=by simp [fins,hF]
      rw [this] at ih; exact ih
    · have : fins [x] = 1 := by simp [fins, hF]
      rw [this] at ih
      rw [fG,decide_eq_true (h.fe x hx hF),Bool.not_true,dJ,w64 (by omega) (by omega)]
      exact ih
theorem aB4 {s : S23} (h : G s) : ∀ (r p : List Pc) (f : Nat) (at_ : Int),s.Pieces = p ++ r → r.length < f → (∀ q ∈ r,at_ ≤ q.From) → iF s f at_ (p.length : Int) = some 0
  | [], p, f + 1, at_, hs, _, _ => by
    unfold iF
    have he:=aE9 h s.Pieces [] fuel rfl (fF (by have:=h.pl; omega))
    have he : lP s = some true:=he
    simp only [bndD,sF hs,dJ,he,bnoS,Bool.not_true]
  | x :: r, p, f + 1, at_, hs, hf, ha => by
    have hx : x ∈ s.Pieces:=by rw [hs]; simp
    have hpl:=h.pl
    unfold iF
    simp only [bndD,sA hs,fG,kU hs,bnoS,fits23 h hx (ha x (by simp)),Bool.not_true,dJ,w_at hs (show s.Pieces.length ≤ 1000000 by omega)]
    refine aB4 h r (p ++ [x]) f x.To (kW hs) (by simpa using hf) (fun q hq=>?_)
    have:=h.pw
    rw [hs] at this
    exact (List.pairwise_cons.1 (List.pairwise_append.1 this).2.1).1 q hq
theorem aDm {s : S23} (h : G s) : jW s = some 0:=by
  obtain ⟨n1,n2,n3,n4⟩:=h.num
  have hd:=h.dl
  have e : endS s = s.Base + (s.Data.length : Int):=rfl
  unfold jW jK
  simp only [bndD,decide_eq_false (show ¬ s.Base < 0 by omega),decide_eq_false (show ¬ 1099511623680 < s.Base by omega),decide_eq_false (show ¬ s.Next < s.Base by omega),w64 (show -9223372036854775808 ≤ s.Next - s.Base by omega) (by omega),decide_eq_false (show ¬ (s.Data.length : Int) < s.Next - s.Base by omega),decide_eq_false (show ¬ (4096 : Int) < (s.Data.length : Int) by omega),dJ,lost23 h,bnoS,Bool.not_true]
  exact aB4 h s.Pieces [] fuel s.Base rfl (fF (by have:=h.pl; omega)) (fun q hq=>(h.pb q hq).1.1)
def new23 : S23:=⟨0,[],0,[],[],false,false,false,false⟩
theorem aEY : G new23:=⟨by decide,by decide,by decide,by decide,by decide,VS.nil,fun _ h=>(List.not_mem_nil h).elim,.nil,fun _ h=>(List.not_mem_nil h).elim,fun _ h=>(List.not_mem_nil h).elim,fun _ h=>(List.not_mem_nil h).elim,fun _ h=>(List.not_mem_nil h).elim,rfl,fun h=>(by cases h),fun _=>⟨rfl,rfl⟩,fun n h1 h2=>by have h1 : (0 : Int) ≤ n:=h1; have h2 : n < 0:=h2; omega⟩
def sM (s : S23) : Int:=if s.Closed = true then 0 else 4096 - (s.Data.length : Int)
theorem aEy {s : S23} (h : G s) : oX s = some (sM s):=by
  have hd:=h.dl
  unfold oX sM
  cases s.Closed
  · rw [dJ,bndD,w64 (by omega) (by omega)]; rfl
  · rfl
def writeN (s : S23) (str : List UInt8) : Nat:=if endS s ≤ 1099511623680 - min (sM s) (str.length : Int) then (min (sM s) (str.length : Int)).toNat else 0
def uS (s : S23) (str : List UInt8) : S23:=⟨s.Base,s.Data ++ str.take (writeN s str),s.Next,s.Pieces,s.Lost,s.Closed,s.Sent,s.Again,s.Done⟩
theorem uE {s : S23} (h : G s) : 0 ≤ sM s ∧ sM s ≤ 4096 - (s.Data.length : Int):=by
  have hd:=h.dl
  unfold sM; split <;> omega
theorem aAH {s : S23} (h : G s) (str : List UInt8) : (writeN s str : Int) ≤ sM s ∧ writeN s str ≤ str.length:=by
  have:=uE h
  unfold writeN; split <;> omega
theorem write23 {s : S23} (h : G s) (str : List UInt8) (hs : str.length ≤ 100000) : oW s str = some (uS s str,(writeN s str : Int)):=by
  have hp:=h.pl
  have hl:=h.ll
  have hr:=uE h
  have hd:=h.dl
  obtain ⟨n1,n2,n3,n4⟩:=h.num
  unfold oW
  rw [own23 (by omega) (by omega),bnoS,aDm h,bnoS]
  simp only [bndD,decide_true,Bool.not_true,dJ,aEy h,bnoS,zW h,w64 (show -9223372036854775808 ≤ 1099511623680 - min (sM s) (str.length : Int) by omega) (by omega)]
  unfold uS writeN
  by_cases hc : endS s ≤ 1099511623680 - min (sM s) (str.length : Int)
  · rw [decide_eq_false (by omega), dJ, if_pos hc]
    obtain ⟨k,hk⟩ : ∃ k : Nat,min (sM s) (str.length : Int) = (k : Int):=⟨(min (sM s) (str.length : Int)).toNat,by omega⟩
    have hkl : k ≤ str.length:=by omega
    have hcat : cat s.Data (str.take k) = some (s.Data ++ str.take k):=by unfold cat; rw [if_pos (by rw [List.length_take]; omega)]
    rw [hk,aEd hkl,bnoS,hcat,bnoS,Int.toNat_natCast]
  · rw [decide_eq_true (by omega), fG, if_neg hc]
    simp
theorem g_write {s : S23} (h : G s) (str : List UInt8) : G (uS s str) := by
  obtain ⟨k1,k2⟩:=aAH h str
  have hr:=uE h
  obtain ⟨n1,n2,n3,n4⟩:=h.num
  have hd:=h.dl
  have hdl : (uS s str).Data.length = s.Data.length + writeN s str:=by show (s.Data ++ str.take _).length = _; rw [List.length_append,List.length_take]; omega
  have he : endS (uS s str) = endS s + writeN s str:=by unfold endS; rw [hdl]; show s.Base + _ = _; omega
  have hen : endS s + writeN s str ≤ 1099511623680:=by unfold writeN; split <;> omega
  have hcl : s.Closed = true → writeN s str = 0 := fun hc => by have : sM s = 0 := by unfold sM; rw [if_pos hc]
                                                                omega
  refine ⟨h.b0,h.bn,by rw [he]; show s.Next ≤ _; omega,by rw [he]; exact hen,by rw [hdl]; omega,h.lv,h.lb,h.pw,h.pb,h.pf,h.pd,fun p hp hF=>?_,h.fc,fun hS=>?_,h.ns,h.cov⟩
  · rw [he, h.fe p hp hF]
    have : s.Sent = true:=by
      cases hS : s.Sent
      · have hc := h.fc
        rw [hS] at hc; simp at hc
        have : p ∈ s.Pieces.filter (·.Fin):=List.mem_filter.2 ⟨hp,hF⟩
        rw [List.length_eq_zero_iff.1 hc] at this
        exact (List.not_mem_nil this).elim
      · rfl
    rw [hcl (h.se this).1]; omega
  · obtain ⟨a1, a2, a3⟩ := h.se hS
    refine ⟨a1,?_,a3⟩
    rw [he,hcl a1]; show s.Next = _; omega
end Go.Fn
open Go Go.IL
namespace Go.Fn
def dueS (s : S23) : Bool:=if (!s.Closed || s.Done) = true then false else s.Again || !s.Sent
def before (p q : Pc) : Bool:=decide (p.From < q.From) || (decide (q.From = p.From) && decide (p.To ≤ q.To))
structure Pk (s : S23) (p : Pc) (lost : List Iv) : Prop where
  lo : s.Base ≤ p.From
  le : p.From ≤ p.To
  nx : p.From ≤ s.Next
  hi : p.To ≤ endS s
  pa : 0 ≤ p.Path ∧ p.Path < 4
  em : p.From = p.To → p.From = s.Next ∧ p.Fin = true
  dj : ∀ q ∈ s.Pieces,∀ n,p.From ≤ n → n < p.To → ¬ (q.From ≤ n ∧ n < q.To)
  fi : p.Fin = (decide (p.To = endS s) && dueS s)
  lv : VS lost
  lb : ∀ x ∈ lost,s.Base ≤ x.From ∧ x.To ≤ s.Next
  lm : ∀ n,mem n lost ↔ mem n s.Lost ∧ ¬ (p.From ≤ n ∧ n < p.To)
end Go.Fn
open Go Go.IL
namespace Go.Fn
def aFC (s : S23) (n : Int) (fin : Bool) : Prop:=0 ≤ n ∧ n ≤ s.Next ∧ (fin = true → n = endS s ∧ s.Sent = true)
instance (s : S23) (n : Int) (fin : Bool) : Decidable (aFC s n fin):=by unfold aFC; infer_instance
structure DL (s : S23) (p : List Pc) (k : Int) (L : List Iv) : Prop where
  lv : VS L
  lb : ∀ x ∈ L,s.Base ≤ x.From ∧ x.To ≤ s.Next
  lm : ∀ n,mem n L ↔ mem n s.Lost ∨ ∃ q ∈ p,q.Path = k ∧ q.From ≤ n ∧ n < q.To
  le : (∀ q ∈ p,q.Path = k → q.From = q.To) → L = s.Lost
theorem DL.len {s : S23} (h : G s) {p : List Pc} {k : Int} {L : List Iv} (d : DL s p k L) : L.length ≤ 4096:=by
  have h1:=aAI d.lv.pw d.lv.ne d.lb h.bn
  have h2:=h.nd
  have h3:=h.dl
  unfold endS at h2; omega
end Go.Fn
open Go Go.IL
namespace Go.Fn
structure Went (s s' : S23) : Prop where
  g : G s'
  base : s.Base ≤ s'.Base
  data : s'.Data = s.Data.drop (s'.Base - s.Base).toNat
  next : s.Next ≤ s'.Next
  done : s.Done = true → s'.Done = true
  en : endS s' = endS s
theorem Went.refl {s : S23} (h : G s) : Went s s:=⟨h,Int.le_refl _,by simp,Int.le_refl _,id,rfl⟩
structure All (s : S23) (all : List UInt8) : Prop where
  g : G s
  data : s.Data = all.drop s.Base.toNat
  len : (all.length : Int) = endS s
end Go.Fn
open Go Go.IL
namespace Go.Fn
end Go.Fn
open Go Go.IL
namespace Go.Fn
theorem pcsame {l m : List Pc} (hl : l.length ≤ 1000000) : eF l m = some (decide (l = m)):=by
  have heq : ∀ x y : Pc,(decide (x.From = y.From) && (decide (x.To = y.To) && (decide (x.Path = y.Path) && ((x.Fin == y.Fin) && true)))) = decide (x = y):=fun x y=>by
    obtain ⟨a,b,c,d⟩:=x; obtain ⟨e,f,g,h⟩:=y; rw [Bool.eq_iff_iff]; simp
  have:=xI (L:=cL l m) (m:=m) (z:=true) hl (fun p x r s y t f h k e=>by
    rw [cL]
    simp only [bndD,sA h,fG,kU h,show gix m (p.length : Int) = some y by rw [e]; exact kU k,bnoS,heq,w_at h hl]) (fun _ f=>by
    rw [cL]
    simp only [bndD,yE,dJ])
  rw [Bool.and_true] at this
  exact this
theorem same23 {s : S23} (h : G s) : qQ s s = some true:=by
  have hp:=h.pl
  have hl:=h.ll
  unfold qQ
  rw [pcsame (by omega),isame (by omega)]
  simp only [decide_true,bnoS,Bool.not_true,beq_self_eq_true,gdtt,bndD,Bool.or_self,dJ,Bool.and_self]
end Go.Fn
open Go Go.IL
namespace Go.Fn
def sl (W : List UInt8) (a b : Int) : List UInt8:=(W.take b.toNat).drop a.toNat
theorem nE {W : List UInt8} {a b : Int} (h0 : 0 ≤ a) (h1 : a ≤ b) (h2 : b ≤ (W.length : Int)) : ((sl W a b).length : Int) = b - a:=by
  unfold sl; rw [List.length_drop,List.length_take]; omega
theorem aAR {W : List UInt8} {a b : Int} (n : Nat) : (sl W a b)[n]? = if a.toNat + n < b.toNat then W[a.toNat + n]? else none:=by
  unfold sl; rw [List.getElem?_drop,List.getElem?_take]
theorem sY {W : List UInt8} {a b : Int} (h : b ≤ a) : sl W a b = []:=by
  unfold sl; rw [List.drop_eq_nil_iff,List.length_take]; omega
theorem aAS {W : List UInt8} {a b c : Int} (h0 : 0 ≤ a) (h1 : a ≤ b) (h2 : b ≤ c) (h3 : c ≤ (W.length : Int)) : sl W a b ++ sl W b c = sl W a c:=by
  apply List.ext_getElem?
  intro n
  have hl:=nE (W:=W) h0 h1 (by omega)
  rw [List.getElem?_append,aAR,aAR,aAR]
  by_cases hn : n < (sl W a b).length
  · rw [if_pos hn,if_pos (by omega),if_pos (by omega)]
  · rw [if_neg hn]
    by_cases hc : a.toNat + n < c.toNat
    · rw [if_pos (by omega),if_pos hc]; congr 1; omega
    · rw [if_neg (by omega),if_neg hc]
theorem vW {W : List UInt8} {a b i j : Int} (h0 : 0 ≤ a) (h1 : a ≤ b) (h2 : b ≤ (W.length : Int)) (h3 : 0 ≤ i) (h4 : i ≤ j) (h5 : j ≤ b - a) : cut (sl W a b) i j = some (sl W (a + i) (a + j)):=by
  have hl:=nE (W:=W) h0 h1 h2
  unfold cut
  rw [if_pos (by omega)]
  congr 1
  apply List.ext_getElem?
  intro n
  rw [List.getElem?_drop,List.getElem?_take,aAR,aAR]
  by_cases hc : i.toNat + n < j.toNat
  · rw [if_pos hc,if_pos (by omega),if_pos (by omega)]; congr 1; omega
  · rw [if_neg hc,if_neg (by omega)]
theorem aEw (W : List UInt8) : sl W 0 (W.length : Int) = W:=by unfold sl; simp
theorem aCr (W : List UInt8) (b : Int) : sl W 0 b = W.take b.toNat:=by unfold sl; simp
end Go.Fn
open Go Go.IL
namespace Go.Fn
def jB (u : Iv) : List Iv → Iv × List Iv
  | []=>(u,[])
  | p :: r=>if u.To < p.From then (u,p :: r) else jB ⟨min u.From p.From,max u.To p.To⟩ r
structure Jd (u : Iv) (R : List Iv) (v : Iv) (C : List Iv) (B : List Iv) : Prop where
  sp : R = B ++ C
  f : v.From ≤ u.From
  t : u.To ≤ v.To
  c : ∀ y ∈ C,v.To < y.From
  m : ∀ n,(v.From ≤ n ∧ n < v.To) ↔ ((u.From ≤ n ∧ n < u.To) ∨ mem n B)
  vf : v.From = u.From ∨ ∃ y ∈ B,v.From = y.From
  vt : v.To = u.To ∨ ∃ y ∈ B,v.To = y.To
theorem mem_cons {n : Int} {y : Iv} {p : List Iv} : mem n (y :: p) ↔ (y.From ≤ n ∧ n < y.To) ∨ mem n p:=by
  unfold mem
  constructor
  · rintro ⟨x, hx, h⟩
    rcases List.mem_cons.1 hx with rfl | hx
    · exact .inl h
    · exact .inr ⟨x,hx,h⟩
  · rintro (h | ⟨x, hx, h⟩)
    · exact ⟨y,by simp,h⟩
    · exact ⟨x,by simp [hx],h⟩
theorem jB_ok : ∀ (R : List Iv) (u : Iv), u.From < u.To → R.Pairwise (fun x y => x.To < y.From) → (∀ x ∈ R, x.From < x.To) → (∀ y ∈ R, u.From ≤ y.To) → ∃ B, Jd u R (jB u R).1 (jB u R).2 B
  | [],u,hu,_,_,_=>⟨[],rfl,Int.le_refl _,Int.le_refl _,fun _ h=>(List.not_mem_nil h).elim,fun n=>⟨.inl,fun h=>h.elim id (fun ⟨_,h,_⟩=>(List.not_mem_nil h).elim)⟩,.inl rfl,.inl rfl⟩
  | p :: r, u, hu, hp, hn, ht => by
    have hp:=List.pairwise_cons.1 hp
    have hpn:=hn p (by simp)
    have htp:=ht p (by simp)
    unfold jB
    by_cases hc : u.To < p.From
    · rw [if_pos hc]
      refine ⟨[],rfl,Int.le_refl _,Int.le_refl _,fun y hy=>?_,fun n=>⟨.inl,fun h=>h.elim id (fun ⟨_,h,_⟩=>(List.not_mem_nil h).elim)⟩,.inl rfl,.inl rfl⟩
      rcases List.mem_cons.1 hy with rfl | hy
      · exact hc
      · have:=hp.1 y hy; show u.To < y.From; omega
    · rw [if_neg hc]
      obtain ⟨B,j⟩:=jB_ok r ⟨min u.From p.From,max u.To p.To⟩ (by show min u.From p.From < max u.To p.To; omega) hp.2 (fun x hx=>hn x (by simp [hx])) (fun y hy=>by have:=ht y (by simp [hy]); show min u.From p.From ≤ _; omega)
      have j1 : _ ≤ min u.From p.From:=j.f
      have j2 : max u.To p.To ≤ _:=j.t
      refine ⟨p :: B,congrArg (List.cons p) j.sp,by omega,by omega,j.c,fun n=>?_,?_,?_⟩
      · rw [j.m, mem_cons]
        show ((min u.From p.From ≤ n ∧ n < max u.To p.To) ∨ _) ↔ _
        constructor
        · rintro (h | h)
          · by_cases hh : u.From ≤ n ∧ n < u.To
            · exact .inl hh
            · exact .inr (.inl (by omega))
          · exact .inr (.inr h)
        · rintro (h | h | h)
          · exact .inl (by omega)
          · exact .inl (by omega)
          · exact .inr h
      · rcases j.vf with h | ⟨y, hy, h⟩
        · have h : _ = min u.From p.From := h
          by_cases hh : u.From ≤ p.From
          · left; omega
          · right; exact ⟨p,by simp,by omega⟩
        · right; exact ⟨y,by simp [hy],h⟩
      · rcases j.vt with h | ⟨y, hy, h⟩
        · have h : _ = max u.To p.To := h
          by_cases hh : p.To ≤ u.To
          · left; omega
          · right; exact ⟨p,by simp,by omega⟩
        · right; exact ⟨y,by simp [hy],h⟩
def jA (x : Iv) (l : List Iv) : List Iv:=l.takeWhile fun p=>decide (p.To < x.From)
def jR (x : Iv) (l : List Iv) : List Iv:=l.dropWhile fun p=>decide (p.To < x.From)
def wU (x : Iv) (l : List Iv) : List Iv:=jA x l ++ [(jB x (jR x l)).1] ++ (jB x (jR x l)).2
theorem jA_R (x : Iv) (l : List Iv) : jA x l ++ jR x l = l:=List.takeWhile_append_dropWhile
theorem jA_lt {x : Iv} {l : List Iv} : ∀ y ∈ jA x l,y.To < x.From:=fun y hy=>by
  have:=List.all_takeWhile (p:=fun p : Iv=>decide (p.To < x.From)) (l:=l)
  exact of_decide_eq_true (List.all_eq_true.1 this y hy)
theorem jR_ge {x : Iv} : ∀ {l : List Iv},l.Pairwise (fun x y=>x.To < y.From) → (∀ x ∈ l,x.From < x.To) → ∀ y ∈ jR x l,x.From ≤ y.To
  | [],_,_=>fun _ h=>(List.not_mem_nil h).elim
  | p :: r, hp, hn => by
    have hp:=List.pairwise_cons.1 hp
    unfold jR
    rw [List.dropWhile_cons]
    split
    · exact jR_ge hp.2 (fun x hx=>hn x (by simp [hx]))
    · rename_i h
      intro y hy
      have h : ¬ p.To < x.From:=by simpa using h
      rcases List.mem_cons.1 hy with rfl | hy
      · omega
      · have:=hp.1 y hy; have:=hn y (by simp [hy]); omega
structure aDw (x : Iv) (l : List Iv) (A : List Iv) (v : Iv) (B C : List Iv) : Prop where
  e : wU x l = A ++ [v] ++ C
  sp : l = A ++ (B ++ C)
  j : Jd x (B ++ C) v C B
  a : ∀ y ∈ A,y.To < x.From
  av : ∀ y ∈ A,y.To < v.From
theorem aEJ {x : Iv} {l : List Iv} (hx : x.From < x.To) (h : VS l) : ∃ A v B C,aDw x l A v B C:=by
  have hs:=jA_R x l
  have hpw:=h.pw
  rw [← hs] at hpw
  have hpw:=List.pairwise_append.1 hpw
  obtain ⟨B,j⟩:=jB_ok (jR x l) x hx hpw.2.1 (fun y hy=>h.ne y (by rw [← hs]; simp [hy])) (jR_ge h.pw h.ne)
  refine ⟨jA x l,(jB x (jR x l)).1,B,(jB x (jR x l)).2,rfl,by rw [← j.sp,hs],by rw [← j.sp]; exact j,jA_lt,fun y hy=>?_⟩
  rcases j.vf with h1 | ⟨z,hz,h1⟩
  · rw [h1]; exact jA_lt y hy
  · rw [h1]
    exact hpw.2.2 y hy z (by rw [j.sp]; simp [hz])
theorem aDG {x : Iv} {l A B C : List Iv} {v : Iv} (h : VS l) (k : aDw x l A v B C) (hx : x.From < x.To) (h0 : 0 ≤ x.From) (h1 : x.To ≤ 4398046511104) : VS (A ++ [v] ++ C):=by
  have hA : ∀ y ∈ A,y ∈ l:=fun y hy=>by rw [k.sp]; simp [hy]
  have hB : ∀ y ∈ B,y ∈ l:=fun y hy=>by rw [k.sp]; simp [hy]
  have hC : ∀ y ∈ C,y ∈ l:=fun y hy=>by rw [k.sp]; simp [hy]
  have hpw:=h.pw
  rw [k.sp] at hpw
  have p1:=List.pairwise_append.1 hpw
  have p2:=List.pairwise_append.1 p1.2.1
  have hf:=k.j.f; have ht:=k.j.t
  have hmem : ∀ y,y ∈ A ++ [v] ++ C ↔ y ∈ A ∨ y = v ∨ y ∈ C:=fun y=>by simp only [List.mem_append,List.mem_singleton,or_assoc]
  refine ⟨?_,fun y hy=>?_,fun y hy=>?_,fun y hy=>?_⟩
  · rw [List.pairwise_append, List.pairwise_append]
    refine ⟨⟨p1.1,by simp,fun a ha b hb=>by rw [List.mem_singleton.1 hb]; exact k.av a ha⟩,p2.2.1,fun a ha b hb=>?_⟩
    rcases List.mem_append.1 ha with ha | ha
    · exact p1.2.2 a ha b (by simp [hb])
    · rw [List.mem_singleton.1 ha]; exact k.j.c b hb
  · rcases (hmem y).1 hy with hy | rfl | hy
    · exact h.ne y (hA y hy)
    · omega
    · exact h.ne y (hC y hy)
  · rcases (hmem y).1 hy with hy | rfl | hy
    · exact h.lo y (hA y hy)
    · rcases k.j.vf with h2 | ⟨z, hz, h2⟩
      · omega
      · rw [h2]; exact h.lo z (hB z hz)
    · exact h.lo y (hC y hy)
  · rcases (hmem y).1 hy with hy | rfl | hy
    · exact h.hi y (hA y hy)
    · rcases k.j.vt with h2 | ⟨z, hz, h2⟩
      · omega
      · rw [h2]; exact h.hi z (hB z hz)
    · exact h.hi y (hC y hy)
def pL (b : Int) (l : List Iv) (h : Int) : Prop:=b ≤ h ∧ (∀ y ∈ l,y.To ≤ h) ∧ (h = b ∨ ∃ y ∈ l,y.To = h)
theorem aBY {x : Iv} {l A B C : List Iv} {v : Iv} {b h : Int} (k : aDw x l A v B C) (hne : ∀ y ∈ l, y.From < y.To) (hb : b ≤ x.From) (hx : x.From < x.To) (hh : pL b l h) : pL b (A ++ [v] ++ C) (max h x.To) ∧ (A = [] → pL v.To C (max h x.To)) := by
  obtain ⟨p1,p2,p3⟩:=hh
  have hA : ∀ y ∈ A,y ∈ l:=fun y hy=>by rw [k.sp]; simp [hy]
  have hB : ∀ y ∈ B,y ∈ l:=fun y hy=>by rw [k.sp]; simp [hy]
  have hC : ∀ y ∈ C,y ∈ l:=fun y hy=>by rw [k.sp]; simp [hy]
  have hf:=k.j.f; have ht:=k.j.t
  have hmem : ∀ y,y ∈ A ++ [v] ++ C ↔ y ∈ A ∨ y = v ∨ y ∈ C:=fun y=>by simp only [List.mem_append,List.mem_singleton,or_assoc]
  have hv : v.To ≤ max h x.To:=by
    rcases k.j.vt with e | ⟨y,hy,e⟩
    · omega
    · have:=p2 y (hB y hy); omega
  have hex : max h x.To = v.To ∨ (∃ y ∈ A,y.To = max h x.To) ∨ ∃ y ∈ C,y.To = max h x.To:=by
    by_cases hc : h ≤ x.To
    · left; omega
    · rcases p3 with e | ⟨y, hy, e⟩
      · omega
      · rw [k.sp] at hy
        rcases List.mem_append.1 hy with hy | hy
        · exact .inr (.inl ⟨y,hy,by omega⟩)
        · rcases List.mem_append.1 hy with hy | hy
          · left
            have:=hne y (hB y hy)
            have:=(k.j.m (y.To - 1)).2 (.inr ⟨y,hy,by omega,by omega⟩)
            omega
          · exact .inr (.inr ⟨y,hy,by omega⟩)
  refine ⟨⟨by omega,fun y hy=>?_,?_⟩,fun hA0=>⟨by omega,fun y hy=>by have:=p2 y (hC y hy); omega,?_⟩⟩
  · rcases (hmem y).1 hy with hy | rfl | hy
    · have:=p2 y (hA y hy); omega
    · exact hv
    · have:=p2 y (hC y hy); omega
  · right
    rcases hex with e | ⟨y,hy,e⟩ | ⟨y,hy,e⟩
    · exact ⟨v,by simp,e.symm⟩
    · exact ⟨y,(hmem y).2 (.inl hy),e⟩
    · exact ⟨y,(hmem y).2 (.inr (.inr hy)),e⟩
  · rcases hex with e | ⟨y, hy, e⟩ | ⟨y, hy, e⟩
    · exact .inl e
    · rw [hA0] at hy; exact (List.not_mem_nil hy).elim
    · exact .inr ⟨y,hy,e⟩
end Go.Fn
open Go Go.IL
namespace Go.Fn
theorem aBH (W : List UInt8) (a b : Int) : (sl W a b).length ≤ W.length:=by unfold sl; rw [List.length_drop,List.length_take]; omega
abbrev Pt:=aX
abbrev R12:=bS
def pt (W : List UInt8) (x : Iv) : Pt:=⟨x.From,sl W x.From x.To⟩
theorem xZ {W : List UInt8} {x : Iv} (h0 : 0 ≤ x.From) (h1 : x.From < x.To) (h2 : x.To ≤ (W.length : Int)) (hw : W.length ≤ 100000) : eW (pt W x) = some x.To:=by
  have:=nE (W:=W) h0 (by omega : x.From ≤ x.To) h2
  unfold eW pt
  simp only [bndD,this,w64 (show -9223372036854775808 ≤ x.From + (x.To - x.From) by omega) (by omega)]
  congr 1; omega
structure RQ (W : List UInt8) (I : List Iv) (s : R12) : Prop where
  wl : W.length ≤ 100000
  b0 : 0 ≤ s.Base
  bw : s.Base ≤ (W.length : Int)
  rl : (s.Ready.length : Int) ≤ s.Base
  rm : s.Ready.length ≤ 4096
  rd : s.Ready = sl W (s.Base - s.Ready.length) s.Base
  ps : s.Parts = I.map (pt W)
  vs : VS I
  ib : ∀ x ∈ I,s.Base < x.From ∧ x.To ≤ (W.length : Int)
  lim : ∀ x ∈ I,x.To ≤ s.Base - s.Ready.length + 4096
theorem RQ.il {W : List UInt8} {I : List Iv} {s : R12} (h : RQ W I s) : I.length ≤ 100000:=by
  have:=aAI h.vs.pw h.vs.ne (fun x hx=>⟨by have:=(h.ib x hx).1; omega,(h.ib x hx).2⟩) h.bw
  have:=h.wl; have:=h.b0
  omega
theorem RQ.pl {W : List UInt8} {I : List Iv} {s : R12} (h : RQ W I s) : s.Parts.length ≤ 100000:=by rw [h.ps,List.length_map]; exact h.il
theorem aEz {W : List UInt8} {I : List Iv} {s : R12} (h : RQ W I s) : mF s = some (s.Base - s.Ready.length + 4096):=by
  have a:=h.wl; have b:=h.b0; have c:=h.bw; have d:=h.rl
  unfold mF
  simp only [bndD,w64 (show -9223372036854775808 ≤ s.Base - (s.Ready.length : Int) by omega) (by omega),w64 (show -9223372036854775808 ≤ s.Base - (s.Ready.length : Int) + 4096 by omega) (by omega)]
  congr 1; omega
theorem aBp {W : List UInt8} {I : List Iv} {s : R12} (h : RQ W I s) : ∀ (r p : List Iv) (f : Nat) (e : Int),I = p ++ r → r.length < f → (∀ y ∈ r,e < y.From) → gM s (s.Base - s.Ready.length + 4096) f e (p.length : Int) = some 0
  | [], p, f + 1, e, hs, _, _ => by
    have h1 : s.Parts = p.map (pt W) ++ []:=by rw [h.ps,hs,List.map_append]; rfl
    have h2:=sF h1
    rw [List.length_map] at h2
    unfold gM
    simp only [bndD,h2,dJ]
  | x :: r, p, f + 1, e, hs, hf, he => by
    have h1 : s.Parts = p.map (pt W) ++ pt W x :: r.map (pt W):=by rw [h.ps,hs,List.map_append]; rfl
    have h2:=sA h1
    have h3:=kU h1
    have h4:=w_at h1 (by have:=h.pl; omega)
    rw [List.length_map] at h2 h3 h4
    have h5 : ((p.map (pt W) ++ [pt W x]).length : Int) = ((p ++ [x]).length : Int):=by simp
    rw [h5] at h4
    have hx : x ∈ I:=by rw [hs]; simp
    have a:=h.wl; have b:=h.b0; have c:=h.bw; have d:=h.rl
    have i1:=h.ib x hx; have i2:=h.vs.ne x hx; have i3:=h.lim x hx
    have hl:=nE (W:=W) (show 0 ≤ x.From by omega) (by omega : x.From ≤ x.To) i1.2
    have he1:=he x (by simp)
    have hne : (pt W x).Data ≠ []:=fun hq=>by
      have hq : sl W x.From x.To = []:=hq
      rw [hq] at hl; simp at hl; omega
    have hat : (pt W x).At = x.From:=rfl
    have hdl : ((pt W x).Data.length : Int) = x.To - x.From:=hl
    unfold gM
    simp only [bndD,h2,fG,h3,bnoS,hat,decide_eq_false (show ¬ x.From ≤ e by omega),decide_eq_false hne,Bool.or_self,decide_eq_false (show ¬ s.Base - (s.Ready.length : Int) + 4096 < x.From by omega),w64 (show -9223372036854775808 ≤ s.Base - (s.Ready.length : Int) + 4096 - x.From by omega) (by omega),hdl,decide_eq_false (show ¬ s.Base - (s.Ready.length : Int) + 4096 - x.From < x.To - x.From by omega),dJ,xZ (show 0 ≤ x.From by omega) i2 i1.2 a,h4]
    refine aBp h r (p ++ [x]) f x.To (kW hs) (by simpa using hf) (fun y hy=>?_)
    have:=h.vs.pw
    rw [hs] at this
    exact (List.pairwise_cons.1 (List.pairwise_append.1 this).2.1).1 y hy
theorem aC2 {W : List UInt8} {I : List Iv} {s : R12} (h : RQ W I s) : lB s = some 0:=by
  have a:=h.wl; have b:=h.b0; have c:=h.bw; have d:=h.rl; have e:=h.rm
  unfold lB
  simp only [bndD,decide_eq_false (show ¬ s.Base < 0 by omega),decide_eq_false (show ¬ 1099511627776 < s.Base by omega),Bool.or_self,decide_eq_false (show ¬ min s.Base 4096 < (s.Ready.length : Int) by omega),dJ,aEz h,bnoS]
  exact aBp h I [] fuel s.Base rfl (fF (by have:=h.il; omega)) (fun y hy=>(h.ib y hy).1)
theorem aE3 {l : List Pt} (hl : l.length ≤ 100000) : dI l = some l:=by
  unfold dI
  have h : (bno (app 24 ([] : (List aX)) l) fun x3=>some x3) = some l:=by
    rw [kV (by simp; omega) (by simp; omega),bnoS,List.nil_append]
  rw [h,rT]
  rintro rfl; rfl
theorem rhigh {W : List UInt8} {I : List Iv} {s : R12} (h : RQ W I s) (e : Int) : ∃ k, gC ⟨s, e⟩ = some k ∧ pL s.Base I k := by
  unfold gC
  rcases List.eq_nil_or_concat I with hI | ⟨p,y,hI⟩
  · have hp : s.Parts = [] := by rw [h.ps, hI]; rfl
    refine ⟨s.Base,?_,Int.le_refl _,fun y hy=>by rw [hI] at hy; exact (List.not_mem_nil hy).elim,.inl rfl⟩
    simp only [bndD,hp,List.length_nil,show decide ((0 : Int) < ((0 : Nat) : Int)) = false from rfl,dJ]
  · rw [List.concat_eq_append] at hI
    have hp : s.Parts = p.map (pt W) ++ [pt W y]:=by rw [h.ps,hI,List.map_append]; rfl
    have hpl:=h.pl
    have hlen : (s.Parts.length : Int) = (p.length : Int) + 1:=by rw [hp]; simp
    have hg : gix s.Parts (p.length : Int) = some (pt W y):=by
      have:=kU (r:=[]) hp
      rwa [List.length_map] at this
    have hy : y ∈ I:=by rw [hI]; simp
    have a:=h.wl; have b:=h.b0
    have i1:=h.ib y hy; have i2:=h.vs.ne y hy
    have hl:=nE (W:=W) (show 0 ≤ y.From by omega) (by omega : y.From ≤ y.To) i1.2
    have hdl : ((pt W y).Data.length : Int) = y.To - y.From:=hl
    have hat : (pt W y).At = y.From:=rfl
    have hw : IntKind.wrap .i64 ((s.Parts.length : Int) - 1) = (p.length : Int):=by rw [hlen,w64 (by omega) (by omega)]; omega
    refine ⟨y.To,?_,by omega,fun z hz=>?_,.inr ⟨y,hy,rfl⟩⟩
    · simp only [bndD, decide_eq_true (show (0 : Int) < (s.Parts.length : Int) by omega), fG, hw, hg, bnoS, hat, hdl, w64 (show -9223372036854775808 ≤ y.From + (y.To - y.From) by omega) (by omega)]
      have q : y.From + (y.To - y.From) = y.To:=by omega
      rw [q]
    · rw [hI] at hz
      rcases List.mem_append.1 hz with hz | hz
      · have := h.vs.pw
        rw [hI] at this
        have:=(List.pairwise_append.1 this).2.2 z hz y (by simp)
        omega
      · rw [List.mem_singleton.1 hz]; exact Int.le_refl _
theorem aE7 {s : R12} (hl : s.Parts.length ≤ 100000) : ∀ (r p : List Pt) (f : Nat) (v : Int),s.Parts = p ++ r → r.length < f → ∃ n,iI s f v (p.length : Int) = some n
  | [], p, f + 1, v, hs, _ => by
    unfold iI
    simp only [bndD,sF hs,dJ]
    exact ⟨_,rfl⟩
  | x :: r, p, f + 1, v, hs, hf => by
    unfold iI
    simp only [bndD,sA hs,fG,kU hs,bnoS,w_at hs (by omega)]
    exact aE7 hl r (p ++ [x]) f _ (kW hs) (by simpa using hf)
theorem held {s : R12} (hl : s.Parts.length ≤ 100000) : ∃ n,oZ s = some n:=aE7 hl s.Parts [] fuel _ rfl (fF (by omega))
theorem aDK (x : Iv) : wU x [] = [x]:=rfl
theorem aEK {x y : Iv} {r : List Iv} (h : y.To < x.From) : wU x (y :: r) = y :: wU x r:=by
  unfold wU jA jR
  rw [List.takeWhile_cons,List.dropWhile_cons,decide_eq_true h]; rfl
theorem aEL {x y : Iv} {r : List Iv} (h : ¬ y.To < x.From) : wU x (y :: r) = (jB x (y :: r)).1 :: (jB x (y :: r)).2:=by
  unfold wU jA jR
  rw [List.takeWhile_cons,List.dropWhile_cons,decide_eq_false h]; rfl
structure JI (W : List UInt8) (I : List Iv) : Prop where
  wl : W.length ≤ 100000
  il : I.length ≤ 100000
  pw : I.Pairwise (fun x y=>x.To < y.From)
  ne : ∀ x ∈ I,x.From < x.To
  lo : ∀ x ∈ I,0 ≤ x.From
  hi : ∀ x ∈ I,x.To ≤ (W.length : Int)
theorem aDJ {W : List UInt8} {I : List Iv} (h : JI W I) {r q : List Iv} {out : List Pt} (ho : out.length ≤ 100000) (hs : I = q ++ r) (x : Pt) : jC (I.map (pt W)) out (q.length : Int) x.At x.Data = some (out ++ (x :: r.map (pt W))):=by
  have h1 : I.map (pt W) = q.map (pt W) ++ r.map (pt W):=by rw [hs,List.map_append]
  have h2:=aEe h1
  rw [List.length_map] at h2
  have hil:=h.il
  have hrl : r.length ≤ I.length:=by rw [hs]; simp
  unfold jC
  rw [kV (by simp; omega) (by simp; omega),bnoS,h2,bnoS,kV (by simp; omega) (by simp; omega),bnoS]
  simp
theorem aBZ {W : List UInt8} {I : List Iv} (h : JI W I) {out : List Pt} (ho : out.length ≤ 100000) : ∀ (r q : List Iv) (f : Nat) (u : Iv), I = q ++ r → r.length < f → 0 ≤ u.From → u.From < u.To → u.To ≤ (W.length : Int) → (∀ y ∈ r, u.From ≤ y.To) →
    eV (I.map (pt W)) out f (q.length : Int) u.From (sl W u.From u.To) = some (out ++ ((jB u r).1 :: (jB u r).2).map (pt W))
  | [], q, f + 1, u, hs, _, _, _, _, _ => by
    have h1 : I.map (pt W) = q.map (pt W) ++ []:=by rw [hs,List.map_append]; rfl
    have h2:=sF h1
    rw [List.length_map] at h2
    unfold eV
    simp only [bndD,h2,dJ]
    exact aDJ h ho hs (pt W u)
  | y :: r, q, f + 1, u, hs, hf, u0, u1, u2, hu => by
    have h1 : I.map (pt W) = q.map (pt W) ++ pt W y :: r.map (pt W):=by rw [hs,List.map_append]; rfl
    have h2:=sA h1
    have h3:=kU h1
    have h4:=w_at h1 (by rw [List.length_map]; have:=h.il; omega)
    rw [List.length_map] at h2 h3 h4
    have h5 : ((q.map (pt W) ++ [pt W y]).length : Int) = ((q ++ [y]).length : Int):=by simp
    rw [h5] at h4
    have hy : y ∈ I:=by rw [hs]; simp
    have a:=h.wl; have i1:=h.hi y hy; have i2:=h.ne y hy; have i3:=h.lo y hy
    have hul:=nE (W:=W) u0 (by omega : u.From ≤ u.To) u2
    have hyl:=nE (W:=W) i3 (by omega : y.From ≤ y.To) i1
    have hat : (pt W y).At = y.From:=rfl
    have hda : (pt W y).Data = sl W y.From y.To:=rfl
    have hyu:=hu y (by simp)
    have hpe : eW (⟨u.From,sl W u.From u.To⟩ : Pt) = some u.To:=xZ u0 u1 u2 a
    unfold eV
    simp only [bndD,h2,fG,h3,bnoS,hpe,hat]
    by_cases hc : u.To < y.From
    · rw [decide_eq_true hc, fG]
      have:=aDJ h ho hs (pt W u)
      unfold jB
      rw [if_pos hc]
      exact this
    · rw [decide_eq_false hc, dJ]
      have hj : jB u (y :: r) = jB ⟨min u.From y.From,max u.To y.To⟩ r:=by
        conv=>lhs; unfold jB
        rw [if_neg hc]
      have hnx : ∀ z ∈ r,min u.From y.From ≤ z.To:=fun z hz=>by have:=hu z (by simp [hz]); omega
      have ih:=aBZ h ho r (q ++ [y]) f ⟨min u.From y.From,max u.To y.To⟩ (kW hs) (by simpa using hf) (by show 0 ≤ min u.From y.From; omega) (by show min u.From y.From < max u.To y.To; omega) (by show max u.To y.To ≤ _; omega) hnx
      rw [hj,← ih]
      show _ = eV (I.map (pt W)) out f ((q ++ [y]).length : Int) (min u.From y.From) (sl W (min u.From y.From) (max u.To y.To))
      by_cases hd : y.From ≤ u.From
      · rw [decide_eq_true hd, fG, xZ i3 i2 i1 a, bnoS]
        simp only [w64 (show -9223372036854775808 ≤ y.To - u.From by omega) (by omega),hul,hda]
        rw [vW u0 (by omega) u2 (by omega) (by omega) (by omega),bnoS,vE (by have q1:=aBH W (u.From + min (u.To - u.From) (y.To - u.From)) (u.From + (u.To - u.From)); have q2:=aBH W u.From y.To; have q3:=aBH W y.From y.To; omega),bnoS,h4]
        congr 1
        · omega
        · rw [show u.From + (u.To - u.From) = u.To by omega]
          by_cases he : y.To ≤ u.To
          · rw [show u.From + min (u.To - u.From) (y.To - u.From) = y.To by omega,aAS i3 (by omega) he u2,show min u.From y.From = y.From by omega,show max u.To y.To = u.To by omega]
          · rw [show u.From + min (u.To - u.From) (y.To - u.From) = u.To by omega,sY (Int.le_refl _),List.append_nil,show min u.From y.From = y.From by omega,show max u.To y.To = y.To by omega]
      · rw [decide_eq_false hd, dJ]
        simp only [w64 (show -9223372036854775808 ≤ y.From - u.From by omega) (by omega),hda]
        rw [vW u0 (by omega) u2 (by omega) (by omega) (by omega),bnoS,show u.From + (0 : Int) = u.From by omega,show u.From + (y.From - u.From) = y.From by omega]
        have hc1 : cat (sl W u.From y.From) (sl W y.From y.To) = some (sl W u.From y.To):=by
          rw [vE (by have:=nE (W:=W) u0 (by omega : u.From ≤ y.From) (by omega); omega),aAS u0 (by omega) (by omega) i1]
        rw [hc1,bnoS,xZ i3 i2 i1 a,bnoS]
        simp only [w64 (show -9223372036854775808 ≤ y.To - u.From by omega) (by omega),hul]
        rw [vW u0 (by omega) u2 (by omega) (by omega) (by omega),bnoS,vE (by have q1:=aBH W (u.From + min (u.To - u.From) (y.To - u.From)) (u.From + (u.To - u.From)); have q2:=aBH W u.From y.To; have q3:=aBH W y.From y.To; omega),bnoS,h4]
        congr 1
        · omega
        · rw [show u.From + (u.To - u.From) = u.To by omega]
          by_cases he : y.To ≤ u.To
          · rw [show u.From + min (u.To - u.From) (y.To - u.From) = y.To by omega,aAS u0 (by omega) he u2,show min u.From y.From = u.From by omega,show max u.To y.To = u.To by omega]
          · rw [show u.From + min (u.To - u.From) (y.To - u.From) = u.To by omega,sY (Int.le_refl _),List.append_nil,show min u.From y.From = u.From by omega,show max u.To y.To = y.To by omega]
theorem aDI {W : List UInt8} {I : List Iv} (h : JI W I) {x : Iv} (x0 : 0 ≤ x.From) (x1 : x.From < x.To) (x2 : x.To ≤ (W.length : Int)) : ∀ (r p : List Iv) (f : Nat), I = p ++ r → r.length < f →
    fV (I.map (pt W)) (pt W x) f (p.map (pt W)) (p.length : Int) = some ((p ++ wU x r).map (pt W))
  | [], p, f + 1, hs, _ => by
    have h1 : I.map (pt W) = p.map (pt W) ++ []:=by rw [hs,List.map_append]; rfl
    have h2:=sF h1
    rw [List.length_map] at h2
    have hil:=h.il
    have hpl : p.length ≤ I.length:=by rw [hs]; simp
    unfold fV
    simp only [bndD,h2,ft,gdff,bnoS,Bool.false_and,dJ]
    have:=aBZ h (out:=p.map (pt W)) (by rw [List.length_map]; omega) [] p fuel x hs (fF (by decide)) x0 x1 x2 (fun _ h=>(List.not_mem_nil h).elim)
    rw [aDK,List.map_append]
    exact this
  | y :: r, p, f + 1, hs, hf => by
    have h1 : I.map (pt W) = p.map (pt W) ++ pt W y :: r.map (pt W):=by rw [hs,List.map_append]; rfl
    have h2:=sA h1
    have h3:=kU h1
    have h4:=w_at h1 (by rw [List.length_map]; have:=h.il; omega)
    rw [List.length_map] at h2 h3 h4
    have h5 : ((p.map (pt W) ++ [pt W y]).length : Int) = ((p ++ [y]).length : Int):=by simp
    rw [h5] at h4
    have hil:=h.il
    have hpl : p.length ≤ I.length:=by rw [hs]; simp
    have hy : y ∈ I:=by rw [hs]; simp
    have a:=h.wl; have i1:=h.hi y hy; have i2:=h.ne y hy; have i3:=h.lo y hy
    have hat : (pt W x).At = x.From:=rfl
    unfold fV
    simp only [bndD,h2,beq_self_eq_true,gdtt,h3,bnoS,xZ i3 i2 i1 a,Bool.true_and,hat]
    by_cases hc : y.To < x.From
    · rw [decide_eq_true hc, fG, kV (by simp; omega) (by simp; omega), bnoS, h4, aEK hc]
      have ih:=aDI h x0 x1 x2 r (p ++ [y]) f (kW hs) (by simpa using hf)
      rw [List.map_append,List.append_assoc] at ih
      exact ih
    · rw [decide_eq_false hc, dJ, aEL hc]
      have hr : ∀ z ∈ y :: r,x.From ≤ z.To:=fun z hz=>by
        rcases List.mem_cons.1 hz with rfl | hz
        · omega
        · have := h.pw
          rw [hs] at this
          have:=(List.pairwise_cons.1 (List.pairwise_append.1 this).2.1).1 z hz
          have:=h.ne z (by rw [hs]; simp [hz])
          omega
      have:=aBZ h (out:=p.map (pt W)) (by rw [List.length_map]; omega) (y :: r) p fuel x hs (fF (by have q:=congrArg List.length hs; rw [List.length_append] at q; omega)) x0 x1 x2 hr
      rw [List.map_append]
      exact this
theorem join_eq {W : List UInt8} {I : List Iv} (h : JI W I) {x : Iv} (x0 : 0 ≤ x.From) (x1 : x.From < x.To) (x2 : x.To ≤ (W.length : Int)) : mP (I.map (pt W)) (pt W x) = some ((wU x I).map (pt W)) :=
  aDI h x0 x1 x2 I [] fuel rfl (fF (by have:=h.il; omega))
end Go.Fn
open Go Go.IL
namespace Go.Fn
theorem ji_of {W : List UInt8} {I : List Iv} {s : R12} (h : RQ W I s) : JI W I:=⟨h.wl,h.il,h.vs.pw,h.vs.ne,h.vs.lo,fun x hx=>(h.ib x hx).2⟩
structure Puts (W : List UInt8) (s s' : R12) (I I' : List Iv) (at_ to : Int) : Prop where
  rq : RQ W I' s'
  rd : s'.Base - s'.Ready.length = s.Base - s.Ready.length
  hi : ∀ h,pL s.Base I h → pL s'.Base I' (if at_ < to then max h to else h)
  bs : s.Base ≤ s'.Base
  hs : ∀ n,(n < s.Base ∨ mem n I ∨ (at_ ≤ n ∧ n < to)) → n < s'.Base ∨ mem n I'
  hc : ∀ n,(n < s'.Base ∨ mem n I') → n < s.Base ∨ mem n I ∨ (at_ ≤ n ∧ n < to)
theorem aAV {s : R12} {a : Int} {str : List UInt8} (hs : str = []) : jG s s.Parts a str = some (s,0):=by
  unfold jG
  rw [hs]
  simp only [bndD,decide_true,fG]
theorem aAW {W : List UInt8} {I : List Iv} {s : R12} (h : RQ W I s) {a to : Int} (h0 : s.Base ≤ a) (h1 : a < to) (h2 : to ≤ (W.length : Int)) (h3 : to ≤ s.Base - s.Ready.length + 4096) :
    ∃ s' I' n,jG s s.Parts a (sl W a to) = some (s',n) ∧ RQ W I' s' ∧ s'.Base - s'.Ready.length = s.Base - s.Ready.length ∧ (∀ k,pL s.Base I k → pL s'.Base I' (max k to)) ∧ s.Base ≤ s'.Base ∧ (∀ n,(n < s.Base ∨ mem n I ∨ (a ≤ n ∧ n < to)) → n < s'.Base ∨ mem n I') ∧ ∀ n,(n < s'.Base ∨ mem n I') → n < s.Base ∨ mem n I ∨ (a ≤ n ∧ n < to):=by
  have wl:=h.wl; have b0:=h.b0; have bw:=h.bw; have rl:=h.rl; have rm:=h.rm
  have hl:=nE (W:=W) (show 0 ≤ a by omega) (by omega : a ≤ to) h2
  have hne : sl W a to ≠ []:=fun hq=>by rw [hq] at hl; simp at hl; omega
  have hji:=ji_of h
  obtain ⟨n0,hn0⟩:=held h.pl
  have es : (⟨s.Base,s.Ready,s.Parts⟩ : R12) = s:=rfl
  have hx : (⟨a,to⟩ : Iv).From < (⟨a,to⟩ : Iv).To:=h1
  have hj : mP s.Parts (⟨a,sl W a to⟩ : Pt) = some ((wU ⟨a,to⟩ I).map (pt W)):=by
    rw [h.ps]; exact join_eq hji (x:=⟨a,to⟩) (by show 0 ≤ a; omega) h1 h2
  obtain ⟨A,v,B,C,k⟩:=aEJ hx h.vs
  have hvs:=aDG h.vs k hx (by show 0 ≤ a; omega) (by show to ≤ _; omega)
  have hhi : ∀ q,pL s.Base I q → _:=fun q hq=>aBY k h.vs.ne (show s.Base ≤ (⟨a,to⟩ : Iv).From from h0) hx hq
  have hA : ∀ y ∈ A,y ∈ I:=fun y hy=>by rw [k.sp]; simp [hy]
  have hB : ∀ y ∈ B,y ∈ I:=fun y hy=>by rw [k.sp]; simp [hy]
  have hC : ∀ y ∈ C,y ∈ I:=fun y hy=>by rw [k.sp]; simp [hy]
  have hmem : ∀ y,y ∈ A ++ [v] ++ C ↔ y ∈ A ∨ y = v ∨ y ∈ C:=fun y=>by simp only [List.mem_append,List.mem_singleton,or_assoc]
  have hin : ∀ n,(mem n I ∨ (a ≤ n ∧ n < to)) → mem n A ∨ (v.From ≤ n ∧ n < v.To) ∨ mem n C:=fun n hn=>by
    rcases hn with ⟨y,hy,h5⟩ | h5
    · rw [k.sp] at hy
      rcases List.mem_append.1 hy with hy | hy
      · exact .inl ⟨y,hy,h5⟩
      · rcases List.mem_append.1 hy with hy | hy
        · exact .inr (.inl ((k.j.m n).2 (.inr ⟨y,hy,h5⟩)))
        · exact .inr (.inr ⟨y,hy,h5⟩)
    · exact .inr (.inl ((k.j.m n).2 (.inl h5)))
  have hinK : ∀ n,(n < s.Base ∨ mem n I ∨ (a ≤ n ∧ n < to)) → n < s.Base ∨ mem n (A ++ [v] ++ C):=fun n hn=>by
    rcases hn with h5 | h5
    · exact .inl h5
    · rcases hin n h5 with ⟨y, hy, h6⟩ | h6 | ⟨y, hy, h6⟩
      · exact .inr ⟨y,by simp [hy],h6⟩
      · exact .inr ⟨v,by simp,h6⟩
      · exact .inr ⟨y,by simp [hy],h6⟩
  have houtV : ∀ n,(v.From ≤ n ∧ n < v.To) → mem n I ∨ (a ≤ n ∧ n < to):=fun n hn=>by
    rcases (k.j.m n).1 hn with h5 | ⟨z,hz,h5⟩
    · exact .inr h5
    · exact .inl ⟨z,hB z hz,h5⟩
  have houtK : ∀ n,(n < s.Base ∨ mem n (A ++ [v] ++ C)) → n < s.Base ∨ mem n I ∨ (a ≤ n ∧ n < to):=fun n hn=>by
    rcases hn with h5 | ⟨y,hy,h5⟩
    · exact .inl h5
    · rcases (hmem y).1 hy with hy | rfl | hy
      · exact .inr (.inl ⟨y,hA y hy,h5⟩)
      · exact .inr (houtV n h5)
      · exact .inr (.inl ⟨y,hC y hy,h5⟩)
  have jf : v.From ≤ a:=k.j.f
  have jt : to ≤ v.To:=k.j.t
  have vf : s.Base ≤ v.From:=by
    rcases k.j.vf with e | ⟨y,hy,e⟩
    · have e : v.From = a := e
      omega
    · have:=(h.ib y (hB y hy)).1; omega
  have vt : v.To ≤ (W.length : Int) ∧ v.To ≤ s.Base - s.Ready.length + 4096:=by
    rcases k.j.vt with e | ⟨y,hy,e⟩
    · have e : v.To = to := e
      omega
    · have:=(h.ib y (hB y hy)).2; have:=h.lim y (hB y hy); omega
  have hvl:=nE (W:=W) (show 0 ≤ v.From by omega) (by omega : v.From ≤ v.To) vt.1
  have hJ1 : ∀ (b : Int) (r : List UInt8) (p : List Pt),p.length ≤ 100000 → ∃ n,lF n0 b r p = some ((⟨b,r,p⟩ : R12),n):=fun b r p hp=>by
    obtain ⟨m,hm⟩:=held (s:=⟨b,r,p⟩) hp
    unfold lF
    rw [hm,bnoS,bndD]
    exact ⟨_,rfl⟩
  have hJl : (wU ⟨a,to⟩ I).length ≤ 100000:=by
    rw [k.e]
    have:=aAI (a:=s.Base) (b:=(W.length : Int)) hvs.pw hvs.ne (fun y hy=>by
      rcases (hmem y).1 hy with hy | rfl | hy
      · have:=h.ib y (hA y hy); omega
      · omega
      · have:=h.ib y (hC y hy); omega) bw
    omega
  unfold jG
  simp only [bndD,decide_eq_false hne,dJ,es,hn0,bnoS,hj]
  rw [k.e] at hJl ⊢
  have keep : v.From ≠ s.Base ∨ A ≠ [] → RQ W (A ++ [v] ++ C) ⟨s.Base,s.Ready,(A ++ [v] ++ C).map (pt W)⟩:=fun hh=>by
    have hvb : s.Base < v.From:=by
      rcases hh with hh | hh
      · omega
      · obtain ⟨y, hy⟩ := List.exists_mem_of_ne_nil A hh
        have:=k.av y hy; have:=(h.ib y (hA y hy)).1; have:=h.vs.ne y (hA y hy)
        omega
    refine ⟨wl,b0,bw,rl,rm,h.rd,rfl,hvs,fun y hy=>?_,fun y hy=>?_⟩
    · rcases (hmem y).1 hy with hy | rfl | hy
      · exact h.ib y (hA y hy)
      · exact ⟨hvb,vt.1⟩
      · exact h.ib y (hC y hy)
    · rcases (hmem y).1 hy with hy | rfl | hy
      · exact h.lim y (hA y hy)
      · exact vt.2
      · exact h.lim y (hC y hy)
  cases A with
  | cons y A =>
    have hy:=(h.ib y (hA y (by simp))).1
    have hg : gix ((y :: A ++ [v] ++ C).map (pt W)) 0 = some (pt W y):=rfl
    have hg2 : ((y :: A ++ [v] ++ C).map (pt W))[(0 : Int).toNat]? = some (pt W y):=rfl
    have hat : (pt W y).At = y.From:=rfl
    rw [hg,bnoS,hg2,bnoS,hat,decide_eq_false (show ¬ y.From = s.Base by omega),dJ]
    obtain ⟨n,hn⟩:=hJ1 s.Base s.Ready ((y :: A ++ [v] ++ C).map (pt W)) (by rw [List.length_map]; exact hJl)
    exact ⟨_,_,n,hn,keep (.inr (by simp)),rfl,fun q hq=>(hhi q hq).1,Int.le_refl _,hinK,houtK⟩
  | nil =>
    have hg : gix (([] ++ [v] ++ C).map (pt W)) 0 = some (pt W v):=rfl
    have hg2 : (([] ++ [v] ++ C).map (pt W))[(0 : Int).toNat]? = some (pt W v):=rfl
    have hat : (pt W v).At = v.From:=rfl
    have hda : (pt W v).Data = sl W v.From v.To:=rfl
    rw [hg,bnoS,hg2,bnoS,hat]
    by_cases hc : v.From = s.Base
    · rw [decide_eq_true hc, fG, xZ (show 0 ≤ v.From by omega) (by omega) vt.1 wl, bnoS, hda]
      have hcat : cat s.Ready (sl W v.From v.To) = some (sl W (s.Base - s.Ready.length) v.To):=by
        rw [vE (by omega),hc]
        congr 1
        conv=>lhs; rw [h.rd]
        exact aAS (by omega) (by omega) (by omega) vt.1
      have hnl:=nE (W:=W) (show 0 ≤ s.Base - (s.Ready.length : Int) by omega) (by omega : s.Base - (s.Ready.length : Int) ≤ v.To) vt.1
      have hdel : dW 0 1 (([] ++ [v] ++ C).map (pt W)) = some (C.map (pt W)):=by
        unfold dW
        rw [delS_ok (by decide) (by decide) (by simp; omega)]; rfl
      rw [hcat,bnoS,hdel,bnoS]
      obtain ⟨n,hn⟩:=hJ1 v.To (sl W (s.Base - s.Ready.length) v.To) (C.map (pt W)) (by rw [List.length_map]; simp at hJl; omega)
      have hvC : VS C:=⟨(List.pairwise_append.1 hvs.pw).2.1,fun y hy=>hvs.ne y (by simp [hy]),fun y hy=>hvs.lo y (by simp [hy]),fun y hy=>hvs.hi y (by simp [hy])⟩
      refine ⟨_,C,n,hn,⟨wl,by show 0 ≤ v.To; omega,vt.1,?_,?_,?_,rfl,hvC,fun y hy=>⟨k.j.c y hy,(h.ib y (hC y hy)).2⟩,fun y hy=>?_⟩,?_,fun q hq=>(hhi q hq).2 rfl,by show s.Base ≤ v.To; omega,fun q hq=>?_,fun q hq=>?_⟩
      · show ((sl W _ _).length : Int) ≤ v.To; omega
      · show (sl W (s.Base - s.Ready.length) v.To).length ≤ 4096; omega
      · show sl W _ _ = sl W (v.To - ((sl W (s.Base - s.Ready.length) v.To).length : Int)) v.To
        rw [hnl]; congr 1; omega
      · have := h.lim y (hC y hy)
        show y.To ≤ v.To - ((sl W (s.Base - s.Ready.length) v.To).length : Int) + 4096
        omega
      · show v.To - ((sl W (s.Base - s.Ready.length) v.To).length : Int) = _
        omega
      · show q < v.To ∨ _
        rcases hq with h5 | h5
        · left; omega
        · rcases hin q h5 with ⟨y, hy, h6⟩ | h6 | h6
          · simp at hy
          · exact .inl h6.2
          · exact .inr h6
      · have hq : q < v.To ∨ mem q C := hq
        rcases hq with h5 | ⟨y,hy,h5⟩
        · by_cases h6 : q < s.Base
          · exact .inl h6
          · exact .inr (houtV q ⟨by omega,h5⟩)
        · exact .inr (.inl ⟨y,hC y hy,h5⟩)
    · rw [decide_eq_false hc, dJ]
      obtain ⟨n,hn⟩:=hJ1 s.Base s.Ready (([] ++ [v] ++ C).map (pt W)) (by rw [List.length_map]; exact hJl)
      exact ⟨_,_,n,hn,keep (.inl hc),rfl,fun q hq=>(hhi q hq).1,Int.le_refl _,hinK,houtK⟩
theorem rput {W : List UInt8} {I : List Iv} {s : R12} (h : RQ W I s) {at_ to : Int} (h0 : 0 ≤ at_) (h1 : at_ ≤ to) (h2 : to ≤ (W.length : Int)) (h3 : to ≤ s.Base - s.Ready.length + 4096) :
    ∃ s' I' n,qR s at_ (sl W at_ to) = some (s',n) ∧ Puts W s s' I I' at_ to:=by
  have a:=h.wl; have b:=h.b0; have c:=h.bw; have d:=h.rl; have e:=h.rm
  have hl:=nE (W:=W) h0 h1 h2
  have es : (⟨s.Base,s.Ready,s.Parts⟩ : R12) = s:=rfl
  unfold qR
  rw [aE3 h.pl,bnoS]
  simp only [bndD,decide_eq_false (show ¬ at_ < 0 by omega),decide_eq_false (show ¬ 1099511627776 < at_ by omega),Bool.or_self,beq_self_eq_true,gdtt,es,aC2 h,bnoS,decide_true,Bool.not_true,dJ,aEz h]
  by_cases hc : s.Base - s.Ready.length + 4096 ≤ at_
  · rw [decide_eq_true hc, fG]
    exact ⟨s,I,0,rfl,h,rfl,fun k hk=>by rw [if_neg (by omega)]; exact hk,Int.le_refl _,fun n hn=>by rcases hn with hn | hn | hn; exact .inl hn; exact .inr hn; omega,fun n hn=>hn.imp id Or.inl⟩
  · rw [decide_eq_false hc, dJ]
    simp only [w64 (show -9223372036854775808 ≤ s.Base - (s.Ready.length : Int) + 4096 - at_ by omega) (by omega),hl]
    rw [vW h0 h1 h2 (by omega) (by omega) (by omega),bnoS,show at_ + (0 : Int) = at_ by omega,show at_ + min (to - at_) (s.Base - (s.Ready.length : Int) + 4096 - at_) = to by omega]
    by_cases hb : at_ < s.Base
    · rw [decide_eq_true hb, fG]
      simp only [w64 (show -9223372036854775808 ≤ s.Base - at_ by omega) (by omega),hl]
      rw [vW h0 h1 h2 (by omega) (by omega) (by omega),bnoS,show at_ + (to - at_) = to by omega]
      by_cases ht : to ≤ s.Base
      · rw [aAV (sY (by omega))]
        refine ⟨s,I,0,rfl,h,rfl,fun k hk=>?_,Int.le_refl _,fun n hn=>by rcases hn with hn | hn | hn; exact .inl hn; exact .inr hn; omega,fun n hn=>hn.imp id Or.inl⟩
        have:=hk.1
        split
        · rw [show max k to = k by omega]; exact hk
        · exact hk
      · rw [show at_ + min (to - at_) (s.Base - at_) = s.Base by omega]
        obtain ⟨s',I',n,q1,q2,q3,q4,q5,q6,q7⟩:=aAW h (a:=s.Base) (to:=to) (Int.le_refl _) (by omega) h2 h3
        exact ⟨s',I',n,q1,q2,q3,fun k hk=>by rw [if_pos (by omega)]; exact q4 k hk,q5,fun n hn=>q6 n (by rcases hn with hn | hn | hn; exact .inl hn; exact .inr (.inl hn); by_cases hz : n < s.Base; exact .inl hz; exact .inr (.inr ⟨by omega,hn.2⟩)),fun n hn=>by rcases q7 n hn with hn | hn | hn; exact .inl hn; exact .inr (.inl hn); exact .inr (.inr ⟨by omega,hn.2⟩)⟩
    · rw [decide_eq_false hb, dJ]
      by_cases ht : at_ < to
      · obtain ⟨s', I', n, q1, q2, q3, q4, q5, q6, q7⟩ := aAW h (a := at_) (to := to) (by omega) ht h2 h3
        exact ⟨s',I',n,q1,q2,q3,fun k hk=>by rw [if_pos ht]; exact q4 k hk,q5,q6,q7⟩
      · rw [aAV (sY (by omega))]
        exact ⟨s,I,0,rfl,h,rfl,fun k hk=>by rw [if_neg ht]; exact hk,Int.le_refl _,fun n hn=>by rcases hn with hn | hn | hn; exact .inl hn; exact .inr hn; omega,fun n hn=>hn.imp id Or.inl⟩
theorem rread {W : List UInt8} {I : List Iv} {s : R12} (h : RQ W I s) (n : Int) (hn : n ≤ 100000) :
    ∃ s' m,oY s n = some (s',sl W (s.Base - s.Ready.length) (s.Base - s.Ready.length + m)) ∧ RQ W I s' ∧ s'.Base = s.Base ∧ 0 ≤ m ∧ m ≤ s.Ready.length ∧ s'.Base - s'.Ready.length = s.Base - s.Ready.length + m ∧ (1 ≤ n → m = min n s.Ready.length):=by
  have a:=h.wl; have b:=h.b0; have c:=h.bw; have d:=h.rl; have e:=h.rm
  have es : (⟨s.Base,s.Ready,s.Parts⟩ : R12) = s:=rfl
  unfold oY
  rw [aE3 h.pl,bnoS]
  by_cases hc : n < 1
  · simp only [bndD, decide_eq_true hc, tf, gdff, bnoS, Bool.true_or, fG, es]
    refine ⟨s,0,?_,h,rfl,by omega,by omega,by omega,by omega⟩
    rw [sY (by omega)]
  · simp only [bndD, decide_eq_false hc, beq_self_eq_true, gdtt, es, aC2 h, bnoS, decide_true, Bool.not_true, Bool.or_self, dJ]
    have hrd:=h.rd
    have hc1 : cut s.Ready 0 (min n s.Ready.length) = some (sl W (s.Base - s.Ready.length) (s.Base - s.Ready.length + min n s.Ready.length)):=by
      conv=>lhs; arg 1; rw [hrd]
      rw [vW (by omega) (by omega) c (by omega) (by omega) (by omega),show s.Base - (s.Ready.length : Int) + 0 = s.Base - s.Ready.length by omega]
    have hc2 : cut s.Ready (min n s.Ready.length) (s.Ready.length : Int) = some (sl W (s.Base - s.Ready.length + min n s.Ready.length) s.Base):=by
      conv=>lhs; arg 1; rw [hrd]
      rw [vW (by omega) (by omega) c (by omega) (by omega) (by omega),show s.Base - (s.Ready.length : Int) + (s.Ready.length : Int) = s.Base by omega]
    rw [hc1,bnoS,hc2,bnoS]
    have hl2:=nE (W:=W) (a:=s.Base - s.Ready.length + min n s.Ready.length) (b:=s.Base) (by omega) (by omega) c
    refine ⟨⟨s.Base,sl W (s.Base - s.Ready.length + min n s.Ready.length) s.Base,s.Parts⟩,min n s.Ready.length,rfl,⟨a,b,c,?_,?_,?_,h.ps,h.vs,h.ib,fun x hx=>?_⟩,rfl,by omega,by omega,?_,fun _=>rfl⟩
    · show ((sl W _ _).length : Int) ≤ s.Base; omega
    · show (sl W _ _).length ≤ 4096; omega
    · show sl W _ _ = sl W (s.Base - ((sl W (s.Base - s.Ready.length + min n s.Ready.length) s.Base).length : Int)) s.Base
      rw [hl2]; congr 1; omega
    · have := h.lim x hx
      show x.To ≤ s.Base - ((sl W (s.Base - s.Ready.length + min n s.Ready.length) s.Base).length : Int) + 4096
      omega
    · show s.Base - ((sl W (s.Base - s.Ready.length + min n s.Ready.length) s.Base).length : Int) = _
      omega
end Go.Fn
open Go Go.IL
namespace Go.Fn
abbrev St25:=rH
abbrev Lg:=nY
def LgOk (l : Lg) : Prop:=0 ≤ l.Read ∧ l.Read ≤ l.Used ∧ l.Used ≤ l.Limit ∧ l.Limit ≤ 1000000 ∧ 1 ≤ l.Window ∧ l.Window ≤ 4096
structure SG (st : St25) (W : List UInt8) (I : List Iv) (k : Int) : Prop where
  id : st.ID = 5
  mi : -1 ≤ st.Mine ∧ st.Mine ≤ 255
  he : -1 ≤ st.Hers ∧ st.Hers ≤ 255
  oo : LgOk st.Out
  io : LgOk st.In
  g : G st.Send
  rq : RQ W I st.Recv.Recv
  hi : pL st.Recv.Recv.Base I k
  en : st.Recv.End = -1 ∨ (k ≤ st.Recv.End ∧ st.Recv.End ≤ 1000000)
  ou : st.Out.Used = st.Send.Next
  iu : st.In.Used = max st.Recv.End k
  ir : st.In.Read = st.Recv.Recv.Base - st.Recv.Recv.Ready.length
  il : st.In.Limit ≤ st.In.Read + st.In.Window
theorem ptsame {l m : List Pt} (hl : l.length ≤ 1000000) : eG l m = some (decide (l = m)):=by
  have heq : ∀ x y : Pt,(decide (x.At = y.At) && (decide (x.Data = y.Data) && true)) = decide (x = y):=fun x y=>by
    obtain ⟨a,b⟩:=x; obtain ⟨e,f⟩:=y; rw [Bool.eq_iff_iff]; simp
  have:=xI (L:=cM l m) (m:=m) (z:=true) hl (fun p x r s y t f h k e=>by
    rw [cM]
    simp only [bndD,sA h,fG,kU h,show gix m (p.length : Int) = some y by rw [e]; exact kU k,bnoS,heq,w_at h hl]) (fun _ f=>by
    rw [cM]
    simp only [bndD,yE,dJ])
  rw [Bool.and_true] at this
  exact this
end Go.Fn
open Go Go.IL
namespace Go.Fn
section
variable {st : St25} {W : List UInt8} {I : List Iv} {k : Int}
end
end Go.Fn
open Go Go.IL
namespace Go.Fn
abbrev Ln:=uD
end Go.Fn
open Go Go.IL
namespace Go.Fn
structure LI (w : Int) (n m : Nat) (l : Ln) (I : List Iv) (k : Int) : Prop where
  sa : SG l.a [] [] 0
  sb : SG l.b l.wrote I k
  am : l.a.Mine = -1 ∧ l.a.Hers = -1
  bm : l.b.Mine = -1 ∧ l.b.Hers = -1
  al : All l.a.Send l.wrote
  en : l.b.Recv.End = -1 ∨ (l.b.Recv.End = (l.wrote.length : Int) ∧ l.a.Send.Closed = true ∧ l.a.Send.Next = (l.wrote.length : Int) ∧ l.a.Send.Sent = true)
  kn : k ≤ l.a.Send.Next
  gi : l.a.Out.Limit + l.given = l.b.In.Limit ∧ 0 ≤ l.given
  bw : l.b.In.Window = w
  wn : ∀ q ∈ l.went,0 ≤ q.at_ ∧ ∃ to,q.at_ ≤ to ∧ to ≤ l.a.Send.Next ∧ q.s = sl l.wrote q.at_ to ∧ (q.fin = true → l.a.Send.Closed = true ∧ to = (l.wrote.length : Int) ∧ l.a.Send.Sent = true)
  rd : l.read = sl l.wrote 0 l.b.In.Read
  fi : l.end_ = true → l.b.In.Read = (l.wrote.length : Int) ∧ l.a.Send.Closed = true ∧ l.b.Recv.End = (l.wrote.length : Int)
  wb : l.wrote.length ≤ 100 * n
  ml : l.went.length ≤ m
  ab : l.a.Send.Base ≤ l.b.Recv.Recv.Base
  dn : l.a.Send.Done = true → l.b.Recv.End = (l.wrote.length : Int)
theorem LI.mono {w : Int} {n m n' m' : Nat} {l : Ln} {I : List Iv} {k : Int} (h : LI w n m l I k) (hn : n ≤ n') (hm : m ≤ m') : LI w n' m' l I k :=
  ⟨h.sa,h.sb,h.am,h.bm,h.al,h.en,h.kn,h.gi,h.bw,h.wn,h.rd,h.fi,by have:=h.wb; omega,by have:=h.ml; omega,h.ab,h.dn⟩
theorem LI.nx {w : Int} {n m : Nat} {l : Ln} {I : List Iv} {k : Int} (h : LI w n m l I k) : l.a.Send.Next ≤ (l.wrote.length : Int):=by rw [h.al.len]; exact h.al.g.nd
section
variable {w : Int} {n m : Nat} {l : Ln} {I : List Iv} {k : Int}
end
end Go.Fn
open Go Go.IL
namespace Go.Fn
section
variable {w : Int} {n m : Nat} {l : Ln} {I : List Iv} {k : Int}
end
end Go.Fn
open Go Go.IL
namespace Go.Fn
section
variable {w : Int} {n m : Nat} {l : Ln} {I : List Iv} {k : Int}
end
end Go.Fn
open Go Go.IL
namespace Go.Fn
theorem aEb {s t : List UInt8} (hs : s.length + t.length ≤ 100000) : ∃ l,mU (stOf s) t = some (stOf (s ++ t),l) ∧ (eat (s ++ t)).1 = (eat s).1 ++ l:=by
  obtain ⟨h1,h2,h3,_⟩:=aA6 s
  have ha:=yM s t
  unfold mU
  rw [yN (by omega)]
  by_cases hb : (eat s).2.2 = 0
  · rw [if_pos hb] at ha
    have hl:=h1 hb
    have hbad : (stOf s).Bad = 0:=hb
    refine ⟨(eat ((eat s).2.1 ++ t)).1,?_,by rw [ha]⟩
    simp only [gE]
    rw [decide_eq_true hbad]
    simp only [Bool.not_true,show (false == false) = true from rfl,gd_tt,dH,decide_true,Bool.or_false,cond_false]
    rw [vE (by show (eat s).2.1.length + _ ≤ _; omega),dH]
    have:=aDf (stOf s) fuel ((eat s).2.1 ++ t) (eat s).1.length [] (fF (by rw [List.length_append]; omega)) (by simp; omega) (by simp; omega)
    have e1 : (stOf s).Buf = (eat s).2.1:=rfl
    have e2 : (stOf s).Seen = ((eat s).1.length : Int):=rfl
    rw [e1,e2,this,List.nil_append,hbad]
    unfold stOf
    rw [ha]
    simp only [List.length_append]
    congr 3
    split
    · rename_i h; exact h.symm
    · rfl
  · rw [if_neg hb] at ha
    have hbad : ¬ (stOf s).Bad = 0:=hb
    refine ⟨[],?_,by rw [ha]; simp⟩
    have e3 : stOf (s ++ t) = stOf s:=by unfold stOf; rw [ha]
    rw [e3]
    simp only [gE]
    rw [decide_eq_false hbad]
    rfl
theorem aDh {l : List aH} (h : ∀ f ∈ l,Fine f) (i : Nat) : (eat ((cats l).take i)).2.2 = 0 ∧ ∃ r,l = (eat ((cats l).take i)).1 ++ r:=by
  have ha:=yM ((cats l).take i) ((cats l).drop i)
  rw [List.take_append_drop,zX l h] at ha
  by_cases hb : (eat ((cats l).take i)).2.2 = 0
  · rw [if_pos hb] at ha
    exact ⟨hb,_,congrArg Prod.fst ha⟩
  · rw [if_neg hb] at ha
    exact absurd (by rw [← ha]) hb
theorem aEh (a b : List aH) : cats (a ++ b) = cats a ++ cats b:=by unfold cats; rw [List.flatMap_append]
theorem aBq {W : List UInt8} {I : List Iv} {s : R12} (h : RQ W I s) : lG ⟨s,-1⟩ = some 0:=by
  obtain ⟨k,e,hk⟩:=rhigh h (-1)
  unfold lG tA mQ
  have e : gC ⟨s,-1⟩ = some k:=e
  simp only [aC2 h,bnoS,bndD,decide_true,Bool.not_true,dJ,e]
  simp only [Bool.not_true,ft,gdff,bnoS,Bool.false_and,dJ]
theorem raput {W : List UInt8} {I : List Iv} {s : R12} (h : RQ W I s) {a to : Int} (h0 : 0 ≤ a) (h1 : a ≤ to) (h2 : to ≤ (W.length : Int)) (h3 : to ≤ s.Base - s.Ready.length + 4096) :
    ∃ s' I' n,sZ ⟨s,-1⟩ a (sl W a to) false = some (⟨s',-1⟩,n,0) ∧ Puts W s s' I I' a to:=by
  have hl:=nE (W:=W) h0 h1 h2
  have hw:=h.wl
  obtain ⟨s',I',n,p1,p2⟩:=rput h h0 h1 h2 h3
  refine ⟨s',I',n,?_,p2⟩
  have hclosed : iJ ⟨s,-1⟩ to false = some false:=by
    unfold iJ gS
    simp only [bndD,bnoS,show decide ((0 : Int) ≤ -1) = false from rfl,dJ]
    rfl
  unfold sZ mQ
  simp only [bndD,decide_eq_false (show ¬ a < 0 by omega),hl,w64 (show -9223372036854775808 ≤ 1099511627776 - (to - a) by omega) (by omega),decide_eq_false (show ¬ 1099511627776 - (to - a) < a by omega),Bool.or_self,beq_self_eq_true,gdtt,aBq h,bnoS,decide_true,Bool.not_true,dJ,w64 (show -9223372036854775808 ≤ a + (to - a) by omega) (by omega),show a + (to - a) = to by omega,w64 (show -9223372036854775808 ≤ to by omega) (by omega),hclosed,p1]
  rfl
theorem raread {W : List UInt8} {I : List Iv} {s : R12} (h : RQ W I s) {n : Int} (hn : n ≤ 100000) (hm : (s.Ready.length : Int) ≤ n) (h1 : 1 ≤ n) :
    ∃ s' e,qU ⟨s,-1⟩ n = some (⟨s',-1⟩,sl W (s.Base - s.Ready.length) s.Base,e) ∧ RQ W I s' ∧ s'.Base = s.Base ∧ s'.Ready = []:=by
  obtain ⟨s',m,e1,q1,q2,q3,q4,q5,q6⟩:=rread h n hn
  have hm2:=q6 h1
  have hz : s'.Ready = []:=List.eq_nil_of_length_eq_zero (by omega)
  have hen : pA ⟨s',-1⟩ = some false:=by
    unfold pA rO mQ gS
    simp only [bndD,bnoS,hz,decide_true,beq_self_eq_true,gdtt,show decide ((0 : Int) ≤ -1) = false from rfl,Bool.true_and,ft,gdff,Bool.false_and,dJ]
  refine ⟨s',false,?_,q1,q2,hz⟩
  unfold qU
  rw [show s.Base - (s.Ready.length : Int) + m = s.Base by omega] at e1
  simp only [e1,bnoS,hen,bndD]
end Go.Fn
open Go Go.IL
namespace Go.Fn
abbrev Ct:=bH
abbrev Fr:=aH
theorem aBi : fC = some true:=by kernel_rfl
def carB (k : Int) : Bool:=decide (k = 1) || (decide (k = 2) || (decide (k = 3) || (decide (k = 4) || (decide (k = 6) || (decide (k = 7) || decide (k = 8))))))
theorem yO (k : Int) : kP k = some (carB k) := by
  unfold kP carB
  simp only [bndD]
  cases decide (k = 1)
  · cases decide (k = 2)
    · cases decide (k = 3)
      · cases decide (k = 4)
        · cases decide (k = 6)
          · cases decide (k = 7)
            · cases decide (k = 8) <;> rfl
            · rfl
          · rfl
        · rfl
      · rfl
    · rfl
  · rfl
theorem odd_L {l : List Fr} (hl : l.length ≤ 1000000) (hc : ∀ f ∈ l,carB f.Kind = true) : ∀ (r p : List Fr) (f : Nat),l = p ++ r → r.length < f → bV l f (p.length : Int) = some (-1)
  | [], p, f + 1, h, _ => by
    rw [bV]
    simp only [bndD,sF h,dJ]
  | x :: r, p, f + 1, h, hf => by
    have hx:=hc x (by rw [h]; simp)
    have ho : jV x = some false:=by
      unfold jV
      rw [yO,bnoS,hx]; rfl
    rw [bV]
    simp only [bndD,sA h,fG,kU h,bnoS,ho,dJ,w_at h hl]
    exact odd_L hl hc r (p ++ [x]) f (kW h) (by simpa using hf)
theorem odd_no {l : List Fr} (hl : l.length ≤ 1000000) (hc : ∀ f ∈ l,carB f.Kind = true) : dC l = some (-1):=odd_L hl hc l [] fuel rfl (fF (by omega))
theorem zZ {st : Ct} {W : List UInt8} {I : List Iv} (hg : G st.Send) (hc : st.Send.Closed = false) (hr : RQ W I st.Recv.Recv) (he : st.Recv.End = -1) (hz : st.Recv.Recv.Ready = []) {s : List UInt8} (hi : st.In = stOf s) (hb : (eat s).2.2 = 0) (hs : s.length ≤ 1000000) : dT st = some 0:=by
  have e : st.Recv = ⟨st.Recv.Recv,-1⟩:=by rw [← he]
  have hra : lG st.Recv = some 0:=by rw [e]; exact aBq hr
  have hbad : st.In.Bad = 0:=by rw [hi]; exact hb
  have hin : jQ st.In = some 0:=by rw [hi]; exact yN hs
  unfold dT
  simp only [aDm hg,bnoS,bndD,decide_true,Bool.not_true,dJ,hra,hin,hc,he,hz,hbad,show decide ((0 : Int) ≤ -1) = false from rfl,Bool.or_self]
theorem csend {st : Ct} (hck : dT st = some 0) (hg : G st.Send) (hc : st.Send.Closed = false) {f : Fr} (h0 : 0 ≤ f.Kind) (h1 : f.Kind ≤ 255) (hl : Lite f) :
    (∃ e,e ≠ 0 ∧ gQ st f = some (st,e)) ∨ (Fine f ∧ carB f.Kind = true ∧ writeN st.Send (putF f).1 = (putF f).1.length ∧ gQ st f = some (⟨uS st.Send (putF f).1,st.Recv,st.In⟩,0)):=by
  unfold gQ
  simp only [hck,bnoS,bndD,decide_true,Bool.not_true,dJ,yO]
  cases hk : carB f.Kind
  · left; exact ⟨12,by decide,rfl⟩
  · simp only [Bool.not_true, dJ, put_F h0 h1 hl, bnoS]
    by_cases hz : (putF f).2 = 0
    · have hchk : chkF f = 0 := by
        unfold putF at hz
        by_cases hq : chkF f = 0
        · exact hq
        · rw [if_neg hq] at hz; exact hz
      have hf : Fine f:=⟨h0,h1,hchk⟩
      have hpp:=aC4 hf
      simp only [hz,decide_true,Bool.not_true,dJ,aEy hg,bnoS,write23 hg (putF f).1 (by omega)]
      by_cases hr : sM st.Send < ((putF f).1.length : Int)
      · left; rw [decide_eq_true hr,fG]; exact ⟨7,by decide,rfl⟩
      · rw [decide_eq_false hr, dJ]
        by_cases hw : (writeN st.Send (putF f).1 : Int) < ((putF f).1.length : Int)
        · left; rw [decide_eq_true hw,fG]; exact ⟨7,by decide,rfl⟩
        · rw [decide_eq_false hw, dJ]
          right
          have:=(aAH hg (putF f).1).2
          exact ⟨hf,by trivial,by omega,rfl⟩
    · left
      rw [decide_eq_false hz]
      exact ⟨_,hz,rfl⟩
theorem odata {st : Ct} {W : List UInt8} {I : List Iv} (hck : dT st = some 0) (hr : RQ W I st.Recv.Recv) (he : st.Recv.End = -1) (hz : st.Recv.Recv.Ready = []) (hi : st.In = stOf (sl W 0 st.Recv.Recv.Base)) {l : List Fr} (hW : W = cats l) (hl : ∀ f ∈ l,Fine f ∧ carB f.Kind = true) (hll : l.length ≤ 1000)
    {a to : Int} (h0 : 0 ≤ a) (h1 : a ≤ to) (h2 : to ≤ (W.length : Int)) (h3 : to ≤ st.Recv.Recv.Base + 4096) :
    ∃ st' I' o,eX st a (sl W a to) = some (st',o,0) ∧ st'.Send = st.Send ∧ RQ W I' st'.Recv.Recv ∧ st'.Recv.End = -1 ∧ st'.Recv.Recv.Ready = [] ∧ st'.In = stOf (sl W 0 st'.Recv.Recv.Base) ∧ (eat (sl W 0 st'.Recv.Recv.Base)).1 = (eat (sl W 0 st.Recv.Recv.Base)).1 ++ o ∧ st.Recv.Recv.Base ≤ st'.Recv.Recv.Base ∧
    (∀ n,(n < st.Recv.Recv.Base ∨ mem n I ∨ (a ≤ n ∧ n < to)) → n < st'.Recv.Recv.Base ∨ mem n I') ∧ (∀ k,pL st.Recv.Recv.Base I k → pL st'.Recv.Recv.Base I' (if a < to then max k to else k)) ∧ o.length ≤ 1000 ∧ (∀ n,(n < st'.Recv.Recv.Base ∨ mem n I') → n < st.Recv.Recv.Base ∨ mem n I ∨ (a ≤ n ∧ n < to)):=by
  have hb0:=hr.b0; have hbw:=hr.bw; have hwl:=hr.wl
  have e : st.Recv = ⟨st.Recv.Recv,-1⟩:=by rw [← he]
  have hz0 : st.Recv.Recv.Ready.length = 0:=by rw [hz]; rfl
  obtain ⟨s1,I1,n,p1,p2⟩:=raput hr h0 h1 h2 (by omega)
  rw [← e] at p1
  have hrm:=p2.rq.rm; have hrl:=p2.rq.rl; have hb1:=p2.rq.b0; have hbw1:=p2.rq.bw
  have hrd:=p2.rd
  obtain ⟨s2,en,q1,q2,q3,q4⟩:=raread p2.rq (n:=4096) (by decide) (by omega) (by decide)
  rw [show s1.Base - (s1.Ready.length : Int) = st.Recv.Recv.Base by omega] at q1
  have hbs:=p2.bs
  have hl1:=nE (W:=W) (a:=0) (b:=st.Recv.Recv.Base) (Int.le_refl _) hb0 hbw
  have hl2:=nE (W:=W) (a:=st.Recv.Recv.Base) (b:=s1.Base) hb0 (by omega) hbw1
  obtain ⟨o,f1,f2⟩:=aEb (s:=sl W 0 st.Recv.Recv.Base) (t:=sl W st.Recv.Recv.Base s1.Base) (by omega)
  rw [aAS (Int.le_refl _) hb0 (by omega) hbw1] at f1 f2
  rw [← hi] at f1
  have hpre : (eat (sl W 0 s1.Base)).2.2 = 0 ∧ ∃ r,l = (eat (sl W 0 s1.Base)).1 ++ r:=by
    rw [aCr,hW]; exact aDh (fun f hf=>(hl f hf).1) _
  obtain ⟨g1,r,g2⟩:=hpre
  have hol : o.length ≤ 1000:=by
    have:=congrArg List.length g2
    rw [f2] at this
    simp only [List.length_append] at this
    omega
  have hodd:=odd_no (l:=o) (by omega) (fun f hf=>(hl f (by rw [g2,f2]; simp [hf])).2)
  have hbad : (stOf (sl W 0 s1.Base)).Bad = 0:=g1
  have hfault : pR 0 = some ⟨0,0⟩:=rfl
  refine ⟨⟨st.Send,⟨s2,-1⟩,stOf (sl W 0 s1.Base)⟩,I1,o,?_,rfl,q2,rfl,q4,?_,?_,?_,?_,?_,hol,?_⟩
  · unfold eX
    simp only [hck,bnoS,bndD,decide_true,Bool.not_true,dJ,p1,q1,f1,hodd,show decide ((0 : Int) ≤ -1) = false from rfl,hbad,hfault]
  · show stOf (sl W 0 s1.Base) = stOf (sl W 0 s2.Base); rw [q3]
  · show (eat (sl W 0 s2.Base)).1 = _; rw [q3]; exact f2
  · show _ ≤ s2.Base; omega
  · show ∀ n,_ → n < s2.Base ∨ _; rw [q3]; exact p2.hs
  · show ∀ k,_ → pL s2.Base I1 _; rw [q3]; exact p2.hi
  · show ∀ n,(n < s2.Base ∨ _) → _; rw [q3]; exact p2.hc
end Go.Fn
open Go Go.IL
namespace Go.Fn
theorem vD {a : List Fr} (ha : a.length ≤ 1000000) : ∀ (r p : List Fr) (f : Nat),a = p ++ r → r.length < f → dR a f p (p.length : Int) = some a
  | [], p, f + 1, h, _ => by
    rw [dR]
    simp only [bndD,sF h,dJ]
    rw [h,List.append_nil]
  | x :: r, p, f + 1, h, hf => by
    have hpl : p.length < 1000000:=by rw [h] at ha; simp at ha; omega
    rw [dR]
    simp only [bndD,sA h,fG,kU h,bnoS,kV (b:=96) (l:=p) (m:=[x]) (by simp; omega) (by simp; omega),w_at h ha]
    exact vD ha r (p ++ [x]) f (kW h) (by simpa using hf)
theorem uO {a : List Fr} (ha : a.length ≤ 1000000) : fJ a = some a:=vD ha a [] fuel rfl (fF (by omega))
def recv0 : cI:=⟨⟨0,[],[]⟩,-1⟩
def ct0 : Ct:=⟨new23,recv0,⟨[],0,0⟩⟩
theorem new29 : kM = some ct0:=rfl
theorem rq0 {W : List UInt8} (hW : W.length ≤ 100000) : RQ W [] ⟨0,[],[]⟩ :=
  ⟨hW,Int.le_refl _,by show (0 : Int) ≤ W.length; omega,by show (([] : List UInt8).length : Int) ≤ 0; decide,by show ([] : List UInt8).length ≤ 4096; decide,by show ([] : List UInt8) = sl W (0 - (([] : List UInt8).length : Int)) 0; rw [sY (by decide)],rfl,VS.nil,fun _ h=>(List.not_mem_nil h).elim,fun _ h=>(List.not_mem_nil h).elim⟩
theorem chk0 : dT ct0 = some 0:=zZ (W:=[]) (I:=[]) (s:=[]) aEY rfl (rq0 (by decide)) rfl rfl st0 (by rw [qD rfl]) (by decide)
def mY (b : List UInt8) : S23:=⟨0,b,0,[],[],false,false,false,false⟩
structure PI (sent : List Fr) : Prop where
  fr : ∀ f ∈ sent,Fine f ∧ carB f.Kind = true
  pr : ∀ f ∈ sent,f.Pairs.length ≤ 10
  g : G (mY (cats sent))
theorem aAA : ∀ (l : List Fr),(∀ f ∈ l,Fine f) → (cats l).length ≤ 76 * l.length
  | [],_=>Nat.le_refl _
  | x :: l, h => by
    have h1:=aAA l (fun f hf=>h f (by simp [hf]))
    have h2:=(aC4 (h x (by simp))).2
    have e : cats (x :: l) = (putF x).1 ++ cats l:=rfl
    rw [e,List.length_append,List.length_cons]; omega
theorem xX {W : List UInt8} {I : List Iv} {s : R12} (h : RQ W I s) (hz : s.Ready = []) (hb : s.Base = (W.length : Int)) : s = ⟨(W.length : Int),[],[]⟩:=by
  have hI : I = []:=by
    cases hs : I with
    | nil=>rfl
    | cons x r =>
      have hx : x ∈ I:=by rw [hs]; simp
      have h1:=h.ib x hx
      have h2:=h.vs.ne x hx
      omega
  have hp:=h.ps
  rw [hI] at hp
  obtain ⟨b,r,p⟩:=s
  have hz : r = []:=hz
  have hb : b = (W.length : Int):=hb
  have hp : p = []:=hp
  subst hz hb hp
  rfl
theorem stday {x : cX} : (decide (x.Buf = x.Buf) && (decide (x.Bad = x.Bad) && (decide (x.Seen = x.Seen) && true))) = true:=by simp
theorem csame {st : Ct} (hs : G st.Send) (hr : st.Recv.Recv.Parts.length ≤ 1000000) : gR st st = some true:=by
  have hra : qT st.Recv st.Recv = some true:=by
    unfold qT rK
    simp only [bnoS,bndD,beq_self_eq_true,gdtt,decide_true,Bool.and_self,ptsame hr]
  unfold gR
  rw [stday]
  simp only [bndD,beq_self_eq_true,gdtt,same23 hs,bnoS,Bool.and_self,hra]
theorem aFA {W : List UInt8} {i j : Int} (h0 : 0 ≤ i) (h1 : i ≤ j) (h2 : j ≤ (W.length : Int)) : cut W i j = some (sl W i j):=by
  unfold cut sl
  rw [if_pos ⟨h0,h1,h2⟩]
def aBr (a : List Fr) (c : Int) (f : Nat) (sent : List Fr) (i : Int) (s : S23) : Option Bool:=dA a c f sent i s.Base s.Data s.Next s.Pieces s.Lost s.Closed s.Sent s.Again s.Done 0 [] [] (-1) [] 0 0
theorem aC8 {a sent : List Fr} {c : Int} {f : Nat} (h : PI sent) (hl : sent.length ≤ 8) (hc : 0 ≤ c ∧ c ≤ 255) : aBr a c (f + 1) sent (a.length : Int) (mY (cats sent)) = some true := by
  have hcl:=aAA sent (fun g hg=>(h.fr g hg).1)
  have hW : (cats sent).length ≤ 100000:=by omega
  have hsame:=aCJ (a:=sent) (by omega) (fun g hg=>by have:=h.pr g hg; omega)
  generalize hk : c % ((cats sent).length + 1 : Int) = k
  have k0 : 0 ≤ k:=by rw [← hk]; exact Int.emod_nonneg _ (by omega)
  have k1 : k ≤ ((cats sent).length : Int):=by
    have:=Int.emod_lt_of_pos c (show (0 : Int) < (cats sent).length + 1 by omega)
    omega
  -- at once
  have hst : ct0.In = stOf (sl (cats sent) 0 ct0.Recv.Recv.Base):=by
    show (⟨[],0,0⟩ : cX) = stOf (sl (cats sent) 0 0)
    rw [sY (by decide)]; exact st0
  have e00 : (eat (sl (cats sent) 0 ct0.Recv.Recv.Base)).1 = []:=by
    show (eat (sl (cats sent) 0 0)).1 = []
    rw [sY (by decide),qD rfl]
  obtain ⟨x,Ix,ox,x1,x2,x3,x4,x5,x6,x7,x8,x9,x10,x11,x12⟩:=odata (W:=cats sent) (I:=[]) chk0 (rq0 hW) rfl rfl hst rfl h.fr (by omega) (a:=0) (to:=((cats sent).length : Int)) (Int.le_refl _) (by omega) (Int.le_refl _) (by show _ ≤ (0 : Int) + 4096; omega)
  obtain ⟨y,Iy,oy,y1,y2,y3,y4,y5,y6,y7,y8,y9,y10,y11,y12⟩:=odata (W:=cats sent) (I:=[]) chk0 (rq0 hW) rfl rfl hst rfl h.fr (by omega) (a:=k) (to:=((cats sent).length : Int)) k0 k1 (Int.le_refl _) (by show _ ≤ (0 : Int) + 4096; omega)
  rw [aEw] at x1
  have hyb:=y3.bw
  have hyb0:=y3.b0
  have ypre : (eat (sl (cats sent) 0 y.Recv.Recv.Base)).2.2 = 0:=by rw [aCr]; exact (aDh (fun g hg=>(h.fr g hg).1) _).1
  have yck : dT y = some 0:=zZ (s:=sl (cats sent) 0 y.Recv.Recv.Base) (by rw [y2]; exact aEY) (by rw [y2]; rfl) y3 y4 y5 y6 ypre (by have:=aBH (cats sent) 0 y.Recv.Recv.Base; omega)
  obtain ⟨z,Iz,oz,z1,z2,z3,z4,z5,z6,z7,z8,z9,z10,z11,z12⟩:=odata yck y3 y4 y5 y6 rfl h.fr (by omega) (a:=0) (to:=k) (Int.le_refl _) k0 k1 (by omega)
  -- all came
  have full : ∀ {s : R12} {I : List Iv},RQ (cats sent) I s → (∀ n : Int,0 ≤ n → n < ((cats sent).length : Int) → n < s.Base ∨ mem n I) → s.Base = ((cats sent).length : Int):=fun {s I} hr hn=>by
    have hb:=hr.bw; have hb0:=hr.b0
    by_cases hlt : s.Base < ((cats sent).length : Int)
    · rcases hn s.Base hb0 hlt with hh | ⟨u, hu, hu1, _⟩
      · omega
      · have:=(hr.ib u hu).1; omega
    · omega
  have xb:=full x3 (fun n n0 n1=>x9 n (.inr (.inr ⟨n0,n1⟩)))
  have zb:=full z3 (fun n n0 n1=>by
    by_cases hn : n < k
    · exact z9 n (.inr (.inr ⟨n0,hn⟩))
    · rcases y9 n (.inr (.inr ⟨by omega, n1⟩)) with hh | hh
      · exact z9 n (.inl hh)
      · exact z9 n (.inr (.inl hh)))
  have hall : (eat (sl (cats sent) 0 ((cats sent).length : Int))).1 = sent:=by rw [aEw,zX _ (fun g hg=>(h.fr g hg).1)]
  have hox : ox = sent:=by
    rw [xb,hall,e00,List.nil_append] at x7
    exact x7.symm
  have hoz : oy ++ oz = sent:=by
    rw [e00,List.nil_append] at y7
    rw [zb,hall,y7] at z7
    exact z7.symm
  have hxz : x = z:=by
    have r1:=xX x3 x5 xb
    have r2:=xX z3 z5 zb
    obtain ⟨xs,⟨xr,xe⟩,xi⟩:=x
    obtain ⟨zs,⟨zr,ze⟩,zi⟩:=z
    have x2 : xs = _:=x2
    have z2 : zs = _:=z2
    have x4 : xe = -1:=x4
    have z4 : ze = -1:=z4
    have x6 : xi = _:=x6
    have z6 : zi = _:=z6
    have r1 : xr = _:=r1
    have r2 : zr = _:=r2
    have z6 : zi = stOf (sl (cats sent) 0 zr.Base):=z6
    have x6 : xi = stOf (sl (cats sent) 0 xr.Base):=x6
    rw [r2] at z6
    rw [r1] at x6
    rw [x2,x4,x6,r1,z2,y2,z4,z6,r2]
  have hearly : (decide (0 < k) && decide (0 < (oy.length : Int))) = false:=by
    by_cases hk0 : 0 < k
    · have hyb : y.Recv.Recv.Base = 0 := by
        by_cases hlt : 0 < y.Recv.Recv.Base
        · rcases y12 0 (.inl hlt) with hh | ⟨u, hu, _⟩ | hh
          · exact absurd hh (by show ¬ (0 : Int) < 0; decide)
          · exact (List.not_mem_nil hu).elim
          · omega
        · omega
      rw [hyb,e00,sY (by decide),qD rfl,List.nil_append] at y7
      have : oy = []:=y7.symm
      rw [this]; simp
    · rw [decide_eq_false hk0]; rfl
  have hzs : gR x z = some true:=by
    rw [hxz]
    exact csame (by rw [z2,y2]; exact aEY) (by have:=z3.pl; omega)
  have hrem : remI c ((cats sent).length + 1 : Int) = some k:=by rw [aE0 hc.1 (by omega),hk]
  have ho1:=uO (a:=ox) (by rw [hox]; omega)
  have ho2:=uO (a:=oy) (by omega)
  have ho3:=uO (a:=oz) (by omega)
  have hap : app 96 oy oz = some sent:=by rw [kV (l:=oy) (m:=oz) (by omega) (by omega),hoz]
  rw [hox] at ho1
  unfold aBr
  rw [dA,bndD,yE,dJ]
  rw [show (mY (cats sent)).Data = cats sent from rfl]
  rw [bndD,bndD,w64 (n:=c) (by omega) (by omega),w64 (by omega) (by omega),hrem,bnoS,new29,bnoS,x1,bnoS,bnoS]
  rw [aFA (W:=cats sent) k0 k1 (Int.le_refl _),bnoS,y1,bnoS,aFA (W:=cats sent) (Int.le_refl _) k0 k1,bnoS]
  show bno (eX y 0 (sl (cats sent) 0 k)) _ = _
  rw [z1,bnoS]
  simp only [bndD,hearly,decide_true,Bool.and_self,beq_self_eq_true,fG,hox,ho1,bnoS,hsame,ho2,ho3,hap,gdtt,hzs,Bool.not_false,aBi]
  rfl
theorem aBL {a : List Fr} {c : Int} (hc : 0 ≤ c ∧ c ≤ 255) (ha : a.length ≤ 8) (hk : ∀ f ∈ a, 0 ≤ f.Kind ∧ f.Kind ≤ 255) : ∀ (r p sent : List Fr) (f : Nat), a = p ++ r → r.length < f → PI sent → sent.length ≤ p.length → aBr a c f sent (p.length : Int) (mY (cats sent)) = some true
  | [], p, sent, f + 1, h, _, hp, hs => by
    rw [List.append_nil] at h
    rw [← h] at hs ⊢
    exact aC8 hp (by omega) hc
  | d :: r, p, sent, f + 1, h, hf, hp, hs => by
    have hpl : p.length < 8:=by rw [h] at ha; simp at ha; omega
    have hcl:=aAA sent (fun g hg=>(hp.fr g hg).1)
    obtain ⟨k0,k1⟩:=hk d (by rw [h]; simp)
    have hck : dT ⟨mY (cats sent),recv0,⟨[],0,0⟩⟩ = some 0:=zZ (W:=[]) (I:=[]) (s:=[]) hp.g rfl (rq0 (by decide)) rfl rfl st0 (by rw [qD rfl]) (by decide)
    unfold aBr
    rw [dA]
    simp only [bndD,sA h,fG,kU h,bnoS,aEE]
    cases hL : (decide ((d.Pairs.length : Int) ≤ 10) && decide ((d.Data.length : Int) ≤ 100))
    · simp only [Bool.not_false,fG,aBi,bnoS]
    · obtain ⟨l1, l2⟩ := Bool.and_eq_true _ _ |>.mp hL
      have l1:=of_decide_eq_true l1
      have l2:=of_decide_eq_true l2
      simp only [Bool.not_true,dJ]
      rcases csend hck hp.g rfl (f:=d) k0 k1 ⟨by omega,by omega⟩ with ⟨e,he,hs1⟩ | ⟨hf1,hcar,hwn,hs1⟩
      · have hs1 : gQ ⟨⟨(mY (cats sent)).Base, (mY (cats sent)).Data, (mY (cats sent)).Next, (mY (cats sent)).Pieces, (mY (cats sent)).Lost, (mY (cats sent)).Closed, (mY (cats sent)).Sent, (mY (cats sent)).Again, (mY (cats sent)).Done⟩, ⟨⟨0, [], []⟩, -1⟩, ⟨[], 0, 0⟩⟩ d = _ := hs1
        rw [hs1,bnoS]
        simp only [decide_eq_false he,dJ,w_at h (show a.length ≤ 1000000 by omega)]
        exact aBL hc ha hk r (p ++ [d]) sent f (kW h) (by simpa using hf) hp (by rw [List.length_append]; omega)
      · have hs1 : gQ ⟨⟨(mY (cats sent)).Base, (mY (cats sent)).Data, (mY (cats sent)).Next, (mY (cats sent)).Pieces, (mY (cats sent)).Lost, (mY (cats sent)).Closed, (mY (cats sent)).Sent, (mY (cats sent)).Again, (mY (cats sent)).Done⟩, ⟨⟨0, [], []⟩, -1⟩, ⟨[], 0, 0⟩⟩ d = _ := hs1
        have hgw:=g_write hp.g (putF d).1
        have hw : uS (mY (cats sent)) (putF d).1 = mY (cats (sent ++ [d])):=by
          have e1 : cats (sent ++ [d]) = cats sent ++ (putF d).1:=by rw [aEh]; simp [cats]
          unfold uS
          rw [hwn,e1,List.take_length]; rfl
        rw [hw] at hgw hs1
        have hp' : PI (sent ++ [d]):=⟨fun g hg=>by
          rcases List.mem_append.1 hg with hg | hg
          · exact hp.fr g hg
          · rw [List.mem_singleton.1 hg]; exact ⟨hf1,hcar⟩,fun g hg=>by
          rcases List.mem_append.1 hg with hg | hg
          · exact hp.pr g hg
          · rw [List.mem_singleton.1 hg]; omega,hgw⟩
        rw [hs1,bnoS]
        simp only [decide_true,fG,bnoS,kV (b:=96) (l:=sent) (m:=[d]) (by simp; omega) (by simp; omega),w_at h (show a.length ≤ 1000000 by omega)]
        exact aBL hc ha hk r (p ++ [d]) (sent ++ [d]) f (kW h) (by simpa using hf) hp' (by rw [List.length_append,List.length_append]; simp; omega)
theorem aBA {a : List Fr} {c : Int} (hk : ∀ f ∈ a,0 ≤ f.Kind ∧ f.Kind ≤ 255) (hc : 0 ≤ c ∧ c ≤ 255) : fD a c = some true:=by
  unfold fD
  rw [bndD]
  by_cases hl : 8 < (a.length : Int)
  · rw [decide_eq_true hl,fG,aBi,bnoS]
  · rw [decide_eq_false hl, dJ, new29, bnoS]
    exact aBL hc (by omega) hk a [] [] fuel rfl (fF (by omega)) ⟨fun _ h=>(List.not_mem_nil h).elim,fun _ h=>(List.not_mem_nil h).elim,aEY⟩ (Nat.le_refl _)
end Go.Fn
