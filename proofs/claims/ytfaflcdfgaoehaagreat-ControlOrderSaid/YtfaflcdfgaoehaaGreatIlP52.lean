/-
  A part of the proof: rules and plain facts. No condition.
-/
import Derived.Test.YtfaflcdfgaoehaaGreatIlA29bD
import Derived.Test.YtfaflcdfgaoehaaGreatIlEq
import Derived.KernelRfl
set_option linter.all false
open Go Go.IL
namespace Go.Fn

set_option maxRecDepth 20000 in
theorem lenJ2 {a c:Int} (h0:0 ≤ a) (h1:a < 256) (h2:0 ≤ c) (h3:c ≤ 56):gM a c=some (c + (blen a.toNat:Int)):=by
 have hb:=aFU (n:=a.toNat) (by omega)
 unfold gM
 rw [gI,wU8 h0 h1]
 have e:=len8_at h0 h1
 rw [aAS _ h0]
 have e2:∀ l:List UInt8,l=len8 → l[a.toNat]? = some (UInt8.ofNat (blen a.toNat)):=fun l hl=>hl ▸ e
 refine (congrArg (fun o=>bno o _) (e2 _ (by rfl))).trans ?_
 rw [dI,gI,gI]
 have hn:(UInt8.ofNat (blen a.toNat)).toNat=blen a.toNat:=by
  rw [UInt8.toNat_ofNat']; exact Nat.mod_eq_of_lt (by omega)
 rw [hn,w64 (n:=(blen a.toNat:Int)) (by omega) (by omega),w64 (by omega) (by omega)]
theorem aAH {a:Int} {k:Nat} (h0:0 ≤ a) (h:(2:Int) ^ k ≤ a):(blen a.toNat:Int)=k + (blen (a / 2 ^ k).toNat:Int):=by
 have e:(a / 2 ^ k).toNat=a.toNat / 2 ^ k:=by
  obtain ⟨x,rfl⟩:=Int.eq_ofNat_of_zero_le h0
  rw [show (2:Int) ^ k=((2 ^ k:Nat):Int) by simp,← Int.natCast_ediv]; simp only [Int.toNat_natCast]
 have hh:2 ^ k ≤ a.toNat:=by
  have:((2 ^ k:Nat):Int)=(2:Int) ^ k:=by simp
  omega
 rw [e,aFV hh]; omega
theorem lenJ1 {a c:Int} (h0:0 ≤ a) (h1:a < 65536) (h2:0 ≤ c) (h3:c ≤ 48):gN a c=some (c + (blen a.toNat:Int)):=by
 unfold gN
 rw [gI]
 by_cases h:256 ≤ a
 · have e:=aAH (k:=8) h0 (by omega)
   rw [decide_eq_true h,cond_true,xD (k:=.u64) (b:=8) 8 rfl (by decide),dI,gI,w64 (by omega) (by omega),lenJ2 (by omega) (by omega) (by omega) (by omega),e]
   congr 1; omega
 · rw [decide_eq_false h,cond_false,lenJ2 h0 (by omega) h2 (by omega)]
theorem lenJ0 {a c:Int} (h0:0 ≤ a) (h1:a < 4294967296) (h2:0 ≤ c) (h3:c ≤ 32):gO a c=some (c + (blen a.toNat:Int)):=by
 unfold gO
 rw [gI]
 by_cases h:65536 ≤ a
 · have e:=aAH (k:=16) h0 (by omega)
   rw [decide_eq_true h,cond_true,xD (k:=.u64) (b:=16) 16 rfl (by decide),dI,gI,w64 (by omega) (by omega),lenJ1 (by omega) (by omega) (by omega) (by omega),e]
   congr 1; omega
 · rw [decide_eq_false h,cond_false,lenJ1 h0 (by omega) h2 (by omega)]
theorem aE1 {a:Int} (h0:0 ≤ a) (h1:a < 18446744073709551616):lB a=some (blen a.toNat:Int):=by
 unfold lB
 rw [gI]
 by_cases h:4294967296 ≤ a
 · have e:=aAH (k:=32) h0 (by omega)
   rw [decide_eq_true h,cond_true,xD (k:=.u64) (b:=32) 32 rfl (by decide),dI,lenJ0 (by omega) (by omega) (by omega) (by omega),e]
   congr 1
 · rw [decide_eq_false h,cond_false,lenJ0 h0 (by omega) (by omega) (by omega)]
   congr 1; omega
theorem len_is {a:Int} (h0:0 ≤ a) (h1:a < 18446744073709551616):mL a=some (blen a.toNat:Int):=by
 unfold mL; rw [aE1 h0 h1]; rfl

theorem aDn {n:Int} (hb:¬ vbad n):∀ (k:Nat) (i:Int),(4 - i).toNat < k → 0 ≤ i → i ≤ iC n → jG n k i=some (iC n):=by
 have hn:0 ≤ n ∧ n ≤ 4611686018427387903:=by unfold vbad at hb; omega
 have hr:=qF n
 intro k
 induction k with
 | zero=>intro i h; omega
 | succ k ih =>
   intro i h h0 hi
   unfold jG
   have hs:=aDm hn.1 hn.2 h0 (show i < 4 by omega)
   have hr2:=aDL h0 (show i < 4 by omega)
   simp only [gI,decide_eq_true (show i < 4 by omega),cond_true,wU64 hn.1 (show n < 18446744073709551616 by omega),len_is hn.1 (show n < 18446744073709551616 by omega),dI,aDM (xE (.inl rfl) h0 (show i < 4 by omega))]
   rw [w64 (by omega) (by omega),w64 (by omega) (by omega)]
   by_cases hc:(blen n.toNat:Int) ≤ 8 * 2 ^ i.toNat - 2
   · rw [decide_eq_true hc,cond_true]; congr 1; have:=hs.1 hc; omega
   · rw [decide_eq_false hc,cond_false]; exact ih _ (by omega) (by omega) (by have:=mt hs.2 hc; omega)
theorem aDo (n:Int):mU n=some (iC n):=by
 unfold mU
 simp only [gI]
 by_cases hb:vbad n
 · rw [aDC hb]
   have:(decide (n < 0) || decide (4611686018427387903 < n))=true:=by simpa [vbad] using hb
   rw [this,cond_true]
 · have:(decide (n < 0) || decide (4611686018427387903 < n))=false:=by simpa [vbad] using hb
   have hk:0 ≤ iC n:=by rcases sA n with h | h; exact absurd h.1 hb; exact h.2.1
   rw [this,cond_false,aDn hb _ _ (eM (by decide)) (by omega) hk]

theorem aEs {n:Int} {m:Nat} (hb:¬ vbad n) (hm:(mT n).toNat=m + 1) (hk:0 ≤ iC n):∀ (k j:Nat),m + 1 - j < k → j ≤ m + 1 →
 jZ (iC n) k (n / 256 ^ j) (List.replicate (m + 1 - j) 0 ++ beb n j) ((m:Int) - j)=some (vput n,0):=by
 have hk3:=(qF n).2
 have hm7:m ≤ 7:=by have:=qE n; omega
 intro k
 induction k with
 | zero=>intro j h; omega
 | succ k ih =>
   intro j h hj
   unfold jZ
   simp only [gI]
   by_cases hc:j=m + 1
   · subst hc
     have ht:=aAm hb hm
     rw [decide_eq_false (by omega),cond_false]
     simp only [Nat.sub_self,List.replicate_zero,List.nil_append]
     have eb:beb n (m + 1)=by8 (n / 256 ^ m) :: beb n m:=rfl
     rw [eb]
     simp only [aAS _ (Int.le_refl 0),Int.toNat_zero,List.getElem?_cons_zero,dI,aDM (aCi hk (show iC n < 4 by omega)),List.set_cons_zero]
     rw [wU8 (by omega) (by omega),aBc]
     have e4:n / 256 ^ m % 256=n / 256 ^ m:=Int.emod_eq_of_lt ht.1 (by omega)
     have e3:orI .u8 (n / 256 ^ m) (64 * iC n)=n / 256 ^ m + 64 * iC n:=int_e (or_mark (by omega) (by omega) hk (by omega)) rfl
     rw [e4,e3,aBe (by omega) (by omega),dI,aBd hm,e4]
     congr 4; omega
   · have hq0:0 ≤ n / 256 ^ j:=Int.ediv_nonneg (by unfold vbad at hb; omega) (Int.le_of_lt (Int.pow_pos (by decide)))
     obtain ⟨q,hq⟩:∃ q,m + 1 - j=q + 1:=⟨m - j,by omega⟩
     have hmj:(m:Int) - j=(q:Int):=by omega
     rw [hmj,decide_eq_true (by omega),cond_true,aC9,hq]
     have e1:(List.replicate (q + 1) (0:UInt8) ++ beb n j)[q]? = some 0:=by
      rw [List.getElem?_append_left (by simp),List.getElem?_replicate,if_pos (by omega)]
     simp only [lM,e1,dI,Int.toNat_natCast]
     rw [aBe (by omega) (by omega),dI,aDN,xD (k:=.i64) (b:=8) 8 rfl (by decide),dI,w64 (by omega) (by omega)]
     have:=ih (j + 1) (by omega) (by omega)
     rw [show m + 1 - (j + 1)=q by omega,show (m:Int) - ((j + 1:Nat):Int)=(q:Int) - 1 by omega,← aCO] at this
     exact this
theorem aFn (n:Int):oE n=some (vput n,if vbad n then 8 else 0):=by
 unfold oE
 rw [aDo,dI,gI]
 by_cases hb:vbad n
 · rw [decide_eq_true (wZ.2 hb),cond_true,aEg hb,if_pos hb]
 · have hk:0 ≤ iC n:=by rcases sA n with h | h; exact absurd h.1 hb; exact h.2.1
   obtain ⟨m,hm7,hm,hp,_⟩:=aB9 hk
   have hk3:=(qF n).2
   rw [decide_eq_false (by omega),cond_false,if_neg hb,aDM (xE (.inr (.inl rfl)) hk (by omega)),dI,Int.one_mul,hp,aDk (by omega) (by omega) (by omega),dI,gI]
   simp only [Int.toNat_natCast,List.length_replicate]
   rw [w64 (by omega) (by omega)]
   have:=aEs hb hm hk fuel 0 (eM (by omega)) (by omega)
   simp only [beb,Int.pow_zero,Int.ediv_one,List.append_nil,Nat.sub_zero,Int.natCast_zero,Int.sub_zero] at this
   rw [show ((m + 1:Nat):Int) - 1=(m:Int) by omega]
   exact this
theorem aFH {b:UInt8} {q:List UInt8} {x6:Int} (hq:q.length ≤ 7):∀ (k j:Nat),q.length - j < k → j ≤ q.length →
 kB ((b.toNat / 64:Nat):Int) x6 q k (beN (b.toNat % 64) (q.take j)) (j:Int)=some (if iC (beN (b.toNat % 64) q)=((b.toNat / 64:Nat):Int) then (beN (b.toNat % 64) q,x6,0) else (0,0,4)):=by
 intro k
 induction k with
 | zero=>intro j h; omega
 | succ k ih =>
   intro j h hj
   unfold kB
   simp only [gI]
   have ha:=get_acc (b:=b) (l:=q) j hj (by omega)
   by_cases hc:j=q.length
   · subst hc
     rw [decide_eq_false (by omega),cond_false,aDo,dI,List.take_length]
     by_cases hv:iC (beN (b.toNat % 64) q)=((b.toNat / 64:Nat):Int)
     · rw [decide_eq_true hv,if_pos hv]; rfl
     · rw [decide_eq_false hv,if_neg hv]; rfl
   · have hlt:j < q.length:=by omega
     have hc8:=(q[j]).toNat_lt
     have h6:=ha.2.2 (by omega)
     rw [decide_eq_true (by omega),cond_true,lM,List.getElem?_eq_getElem hlt,dI,aDM (shl_8 ha.1 (by omega)),dI,w64 (n:=((q[j]).toNat:Int)) (by omega) (by omega)]
     have e:orI .i64 (beN (b.toNat % 64) (q.take j) * 256) ((q[j]).toNat:Int)=beN (b.toNat % 64) (q.take (j + 1)):=by
      rw [aFW (List.getElem?_eq_getElem hlt)]
      exact int_e (or_low ha.1 (by omega) (by omega) (by omega)) rfl
     rw [e,w64 (by omega) (by omega)]
     exact ih (j + 1) (by omega) (by omega)
theorem aEC (s:List UInt8):mW s=some (vget s):=by
 unfold mW
 simp only [gI]
 cases s with
 | nil=>rfl
 | cons b r =>
   have hb:=b.toNat_lt
   have hk:=Go.IL.k4 b
   have hp:=zY hk
   rw [decide_eq_false (by simp),cond_false]
   simp only [aAS _ (Int.le_refl 0),Int.toNat_zero,List.getElem?_cons_zero,dI]
   rw [xD (k:=.u8) (b:=6) 6 rfl (by decide),dI]
   have e1:((b.toNat:Int) / 2 ^ 6)=((b.toNat / 64:Nat):Int):=rfl
   rw [e1,w64 (by omega) (by omega),aDM (xE (.inr (.inl rfl)) (by omega) (by omega)),dI,Int.one_mul,Int.toNat_natCast]
   have e2:(2:Int) ^ (b.toNat / 64)=((2 ^ (b.toNat / 64):Nat):Int):=by simp
   rw [e2]
   by_cases hh:(b :: r).length < 2 ^ (b.toNat / 64)
   · rw [decide_eq_true (by omega),cond_true,pK hh]
   · rw [decide_eq_false (by omega),cond_false]
     have e3:andI .u8 (b.toNat:Int) 63=(b.toNat:Int) % 64:=int_e (and63 b) rfl
     rw [e3,w64 (by omega) (by omega),aEM (by omega) (by omega) (by omega),dI,aCh hp.1]
     have hl:=aEB hh
     have:=aFH (b:=b) (x6:=((2 ^ (b.toNat / 64):Nat):Int)) (q:=r.take (2 ^ (b.toNat / 64) - 1)) (by omega) fuel 0 (eM (by omega)) (by omega)
     simp only [List.take_zero,beN,List.foldl_nil,Int.natCast_zero] at this
     rw [this]
     simp only [vget,if_neg hh,beN]
end Go.Fn
open Go Go.IL
namespace Go.Fn
theorem fuel_is (k:Nat) (h:k < 100):∃ m,fuel=m + k:=⟨2 ^ 64 - k,by show 2 ^ 64=_; omega⟩
theorem sS {i:Nat} {n:Nat} (h:i < n) (hn:n ≤ 1000000):IntKind.wrap .i64 ((i:Int) + 1)=((i + 1:Nat):Int):=by rw [w64 (by omega) (by omega)]; omega

def inb (n a b:Int):Bool:=decide (a ≤ n) && decide (n ≤ b)
theorem in_is (n a b:Int):mP n a b=some (inb n a b):=rfl
def qW (p:bL):Bool:=inb p.ID 0 1099511627776 && inb p.Value 0 1099511627776
theorem aFZ (p:bL):gT p=some (!qW p):=by
 unfold gT qW
 simp only [in_is,dI,gI]
 cases inb p.ID 0 1099511627776 <;> simp [gd,dI]
theorem aFE {l:List bL} (hl:l.length ≤ 1000000):∀ (k i:Nat),l.length - i < k → i ≤ l.length → (∀ x ∈ l.take i,qW x=true) →
 ∃ n,cK l k (i:Int)=some n ∧ decide (0 ≤ n) = !l.all qW:=by
 intro k
 induction k with
 | zero=>intro i h; omega
 | succ k ih =>
   intro i h hi ha
   unfold cK
   simp only [gI]
   by_cases hc:i < l.length
   · rw [decide_eq_true (by omega),cond_true,lM,List.getElem?_eq_getElem hc,dI,aFZ,dI]
     cases hp:qW l[i] with
     | false =>
       refine ⟨i,rfl,?_⟩
       have:l.all qW=false:=by
        rw [List.all_eq_false]; exact ⟨l[i],List.getElem_mem hc,by simp [hp]⟩
       rw [this]; simp
     | true =>
       simp only [Bool.not_true,cond_false]
       rw [sS hc hl]
       exact ih (i + 1) (by omega) (by omega) (by
        rw [List.take_succ_eq_append_getElem hc]
        intro x hx
        rcases List.mem_append.1 hx with h | h
        · exact ha x h
        · simp at h; subst h; exact hp)
   · rw [decide_eq_false (by omega),cond_false]
     refine ⟨-1,rfl,?_⟩
     have:i=l.length:=by omega
     subst this
     rw [List.take_length] at ha
     rw [List.all_eq_true.2 ha]; rfl
theorem aB5 {l:List bL} (hl:l.length ≤ 1000000):dC l=some (!l.all qW):=by
 unfold dC dX
 obtain ⟨n,h1,h2⟩:=aFE hl fuel 0 (eM (by omega)) (Nat.zero_le _) (by simp)
 rw [show ((0:Nat):Int)=0 from rfl] at h1
 rw [h1,dI,gI,h2]

def rngs (f:aH) (a b c:Int):Bool :=
 f.Pairs.all qW && inb f.Stream 0 1048576 && inb f.Offset 0 1099511627776 && inb f.Dep 0 1048576 && inb f.N a b && inb f.Code 0 c
def rng (f:aH):Bool :=
 if f.Kind=8 then rngs f 1 1099511627776 255 else if f.Kind=10 then rngs f 0 3 1 else
 if f.Kind=1 ∨ f.Kind=2 then inb f.Weight 1 256 && rngs f 0 1099511627776 255 else rngs f 0 1099511627776 255
theorem rJ1 {f:aH} (hl:f.Pairs.length ≤ 1000000) (a b c:Int):eH f a b c=some (rngs f a b c):=by
 unfold eH rngs
 simp only [aB5 hl,in_is,dI,gI]
 cases f.Pairs.all qW <;> cases inb f.N a b <;> cases inb f.Code 0 c <;> cases inb f.Stream 0 1048576 <;> cases inb f.Dep 0 1048576 <;> cases inb f.Offset 0 1099511627776 <;> rfl
theorem aDX {f:aH} (hl:f.Pairs.length ≤ 1000000):jE f=some (rng f):=by
 unfold jE rng gH
 simp only [rJ1 hl,in_is,dI,gI]
 by_cases h8:f.Kind=8
 · simp [h8]
 by_cases h10:f.Kind=10
 · simp [h10]
 by_cases h1:f.Kind=1
 · simp [h1]; cases inb f.Weight 1 256 <;> simp
 by_cases h2:f.Kind=2
 · simp [h2]; cases inb f.Weight 1 256 <;> simp
 simp [h8,h10,h1,h2]
theorem eq_loop {p q:List bL} (hp:p.length ≤ 1000000) (hq:p.length=q.length):∀ (k i:Nat),p.length - i < k → i ≤ p.length → p.take i=q.take i → dE p q k (i:Int)=some (decide (p=q)):=by
 intro k
 induction k with
 | zero=>intro i h; omega
 | succ k ih =>
   intro i h hi ha
   unfold dE
   simp only [gI]
   by_cases hc:i < p.length
   · have hc2:i < q.length:=by omega
     rw [decide_eq_true (by omega),cond_true,lM,List.getElem?_eq_getElem hc,dI,lM,List.getElem?_eq_getElem hc2,dI]
     have e:(decide ((p[i]).ID=(q[i]).ID) && (decide ((p[i]).Value=(q[i]).Value) && true))=decide (p[i]=q[i]):=by
      cases hp2:p[i]; cases hq2:q[i]; simp [bL.mk.injEq,Bool.decide_and]
     rw [e]
     by_cases hx:p[i]=q[i]
     · rw [decide_eq_true hx]; simp only [Bool.not_true,cond_false]
       rw [sS hc hp]
       exact ih (i + 1) (by omega) (by omega) (by rw [List.take_succ_eq_append_getElem hc,List.take_succ_eq_append_getElem hc2,ha,hx])
     · have hne:p ≠ q:=fun h=>hx (by subst h; rfl)
       rw [decide_eq_false hx,decide_eq_false hne]; rfl
   · rw [decide_eq_false (by omega),cond_false]
     have:i=p.length:=by omega
     subst this
     rw [List.take_length,hq,List.take_length] at ha
     rw [decide_eq_true ha]
theorem aFM {p q:List bL} (hp:p.length ≤ 1000000) (hq:q.length ≤ 1000000):eG p q=some (decide (p=q)):=by
 unfold eG
 simp only [gI]
 by_cases h:p.length=q.length
 · rw [decide_eq_true (by omega)]; simp only [Bool.not_true,cond_false]
   exact eq_loop hp h fuel 0 (eM (by omega)) (Nat.zero_le _) (by simp)
 · rw [decide_eq_false (by omega)]
   have:p ≠ q:=fun e=>h (by rw [e])
   rw [decide_eq_false this]; rfl
theorem aEE {a b:aH}:a=b ↔ a.Kind=b.Kind ∧ a.Flag=b.Flag ∧ a.Stream=b.Stream ∧ a.Offset=b.Offset ∧ a.Dep=b.Dep ∧ a.Weight=b.Weight ∧ a.N=b.N ∧ a.Code=b.Code ∧ a.Pairs=b.Pairs ∧ a.Data=b.Data:=by
 cases a; cases b; simp
theorem yF (a b:aH):decide (a=b)=(decide (a.Kind=b.Kind) && (a.Flag == b.Flag) && decide (a.Pairs=b.Pairs) && (decide (a.Stream=b.Stream) && decide (a.Offset=b.Offset) && decide (a.Dep=b.Dep) && decide (a.Weight=b.Weight) && decide (a.N=b.N) && decide (a.Code=b.Code) && decide (a.Data=b.Data))):=by
 rw [Bool.eq_iff_iff]
 simp only [decide_eq_true_eq,Bool.and_eq_true,beq_iff_eq,aEE]
 constructor
 · rintro ⟨h1,h2,h3,h4,h5,h6,h7,h8,h9,h10⟩; exact ⟨⟨⟨h1,h2⟩,h9⟩,⟨⟨⟨⟨⟨h3,h4⟩,h5⟩,h6⟩,h7⟩,h8⟩,h10⟩
 · rintro ⟨⟨⟨h1,h2⟩,h9⟩,⟨⟨⟨⟨⟨h3,h4⟩,h5⟩,h6⟩,h7⟩,h8⟩,h10⟩; exact ⟨h1,h2,h3,h4,h5,h6,h7,h8,h9,h10⟩
theorem same_is {a b:aH} (ha:a.Pairs.length ≤ 1000000) (hb:b.Pairs.length ≤ 1000000):pZ a b=some (decide (a=b)):=by
 unfold pZ
 simp only [gI]
 rw [yF,aFM ha hb]
 generalize (decide (a.Stream=b.Stream) && decide (a.Offset=b.Offset) && decide (a.Dep=b.Dep) && decide (a.Weight=b.Weight) && decide (a.N=b.N) && decide (a.Code=b.Code) && decide (a.Data=b.Data))=z
 cases decide (a.Kind=b.Kind) <;> cases (a.Flag == b.Flag) <;> cases decide (a.Pairs=b.Pairs) <;> simp [gd,dI]
theorem aCk {a b:aH} (ha:a.Pairs.length ≤ 1000000) (hq:a.Pairs.length=b.Pairs.length):∀ (k i:Nat),a.Pairs.length - i < k → i ≤ a.Pairs.length → a.Pairs.take i=b.Pairs.take i → fJ a b k (i:Int)=some (decide (a=b)):=by
 intro k
 induction k with
 | zero=>intro i h; omega
 | succ k ih =>
   intro i h hi hta
   unfold fJ
   simp only [gI]
   by_cases hc:i < a.Pairs.length
   · have hc2:i < b.Pairs.length:=by omega
     rw [decide_eq_true (by omega),cond_true,lM,List.getElem?_eq_getElem hc,dI,lM,List.getElem?_eq_getElem hc2,dI]
     have e:(decide ((a.Pairs[i]).ID=(b.Pairs[i]).ID) && (decide ((a.Pairs[i]).Value=(b.Pairs[i]).Value) && true))=decide (a.Pairs[i]=b.Pairs[i]):=by
      cases hp2:a.Pairs[i]; cases hq2:b.Pairs[i]; simp [bL.mk.injEq,Bool.decide_and]
     rw [e]
     by_cases hx:a.Pairs[i]=b.Pairs[i]
     · rw [decide_eq_true hx]; simp only [Bool.not_true,cond_false]
       rw [sS hc ha]
       exact ih (i + 1) (by omega) (by omega) (by rw [List.take_succ_eq_append_getElem hc,List.take_succ_eq_append_getElem hc2,hta,hx])
     · have hne:a ≠ b:=fun h=>hx (by subst h; rfl)
       rw [decide_eq_false hx,decide_eq_false hne]; rfl
   · rw [decide_eq_false (by omega),cond_false]
     have:i=a.Pairs.length:=by omega
     subst this
     rw [List.take_length,hq,List.take_length] at hta
     rw [yF,decide_eq_true hta]
     simp only [Bool.and_true,Bool.and_assoc]
theorem aEp {a b:aH} (ha:a.Pairs.length ≤ 1000000) (hb:b.Pairs.length ≤ 1000000):kJ a b=some (decide (a=b)):=by
 unfold kJ
 simp only [gI]
 by_cases h:a.Pairs.length=b.Pairs.length
 · rw [decide_eq_true (by omega)]; simp only [Bool.not_true,cond_false]
   exact aCk ha h fuel 0 (eM (by omega)) (Nat.zero_le _) (by simp)
 · rw [decide_eq_false (by omega)]
   have:a ≠ b:=fun e=>h (by rw [e])
   rw [decide_eq_false this]; rfl
end Go.Fn
open Go Go.IL
namespace Go.Fn

def mK (k:Int):List Nat :=
 if k=0 then [2,3] else if k=9 then [2,3] else if k=1 then [2,4,5] else if k=2 then [2,4,5] else if k=3 then [2,6,7] else if k=7 then [2,7] else
 if k=8 then [2,6] else if k=6 then [6] else if k=10 then [6,7] else []
def pB (k:Int):Bool:=decide (k ≤ 10) && !decide (k=5)
def flgK (k:Int):Bool:=decide (k=0) || decide (k=1) || decide (k=2) || decide (k=4) || decide (k=6) || decide (k=9)
def nv (f:aH) (o:Nat):Int:=if o=2 then f.Stream else if o=3 then f.Offset else if o=4 then f.Dep else if o=5 then f.Weight else if o=6 then f.N else f.Code
def zr (f:aH) (o:Nat):Bool:=(mK f.Kind).contains o || decide (nv f o=0)
def spr (f:aH):Bool :=
 !(zr f 2 && zr f 3 && zr f 4 && zr f 5 && zr f 6 && zr f 7) || (!decide (f.Kind=0) && !decide (f.Data=[])) || (!decide (f.Kind=4) && !decide (f.Pairs=[])) || (f.Flag && (!flgK f.Kind || !decide (f.Pairs=[])))
def chkF (f:aH):Int :=
 if pB f.Kind=false then 12 else if rng f=false then 8 else if 32 < f.Data.length ∨ 4 < f.Pairs.length then 5 else if spr f then 4 else 0

theorem vP (f:aH):eX f=some (mK f.Kind):=by
 have a3:∀ l:List Nat,l.length ≤ 3 → app 8 [] l=some l:=fun l hl=>jY (by simp; omega) (by simp; omega)
 unfold eX mK fM
 simp only [gI]
 by_cases h0:f.Kind=0
 · simp [h0,a3,dI]
 by_cases h9:f.Kind=9
 · simp [h9,a3,dI]
 by_cases h1:f.Kind=1
 · simp [h1,a3,dI]
 by_cases h2:f.Kind=2
 · simp [h2,a3,dI]
 by_cases h3:f.Kind=3
 · simp [h3,a3,dI]
 by_cases h7:f.Kind=7
 · simp [h7,a3,dI]
 by_cases h8:f.Kind=8
 · simp [h8,a3,dI,app]
 by_cases h6:f.Kind=6
 · simp [h6,a3,dI]
 by_cases h10:f.Kind=10
 · simp [h10,a3,dI]
 simp [h0,h9,h1,h2,h3,h7,h8,h6,h10]
theorem aC2 (k:Int):mQ k=some (flgK k):=by
 unfold mQ flgK
 simp only [gI]
 by_cases h0:k=0
 · simp [h0]
 by_cases h1:k=1
 · simp [h1]
 by_cases h2:k=2
 · simp [h2]
 by_cases h4:k=4
 · simp [h4]
 by_cases h6:k=6
 · simp [h6]
 by_cases h9:k=9
 · simp [h9]
 simp [h0,h1,h2,h4,h6,h9]
theorem aCI (k:Int):oS k=some (pB k):=rfl

theorem bare_J (f:aH) (a b c d e g:Int) (p:List bL) (q:List UInt8):eY f a b c d e g p q=some ⟨f.Kind,!flgK f.Kind && f.Flag,a,b,c,d,e,g,p,q⟩:=by
 unfold eY
 rw [aC2,dI]
 cases flgK f.Kind <;> simp
def aEZ (f:aH):List bL:=if f.Kind=4 ∧ f.Flag=false then [] else f.Pairs
def aEb (f:aH):List UInt8:=if f.Kind=0 then [] else f.Data
def bz (l:List Nat) (o:Nat) (v:Int):Int:=bif l.contains o then 0 else v
theorem aFY (f:aH) (l:List Nat) (k i:Nat) (h:i=l.length) (a b c d e g:Int):eJ f l (k + 1) (i:Int) a b c d e g=some ⟨f.Kind,!flgK f.Kind && f.Flag,a,b,c,d,e,g,aEZ f,aEb f⟩:=by
 unfold eJ aEZ aEb
 simp only [gI]
 rw [decide_eq_false (by omega),cond_false]
 simp only [bare_J]
 by_cases h0:f.Kind=0
 · simp [h0]
 by_cases h4:f.Kind=4
 · cases hf:f.Flag <;> simp [h4,hf]
 simp [h0,h4]
theorem aFF {a b c d e g:Int} {o:Nat} (h:2 ≤ o) (h2:o ≤ 7):∃ x,aAR [none,none,some a,some b,some c,some d,some e,some g,none,none] o=some x:=by
 obtain rfl | rfl | rfl | rfl | rfl | rfl:o=2 ∨ o=3 ∨ o=4 ∨ o=5 ∨ o=6 ∨ o=7:=by omega
 all_goals exact ⟨_,rfl⟩
theorem aEY (f:aH) (l:List Nat) (hl:l.length ≤ 1000) (hr:∀ o ∈ l,2 ≤ o ∧ o ≤ 7):∀ (k i:Nat) (a b c d e g:Int),l.length - i < k → i ≤ l.length →
 eJ f l k (i:Int) a b c d e g=some ⟨f.Kind,!flgK f.Kind && f.Flag,bz (l.drop i) 2 a,bz (l.drop i) 3 b,bz (l.drop i) 4 c,bz (l.drop i) 5 d,bz (l.drop i) 6 e,bz (l.drop i) 7 g,aEZ f,aEb f⟩:=by
 intro k
 induction k with
 | zero=>intro i _ _ _ _ _ _ h; omega
 | succ k ih =>
   intro i a b c d e g h hi
   by_cases hc:i=l.length
   · rw [aFY f l k i hc,hc,List.drop_length]; rfl
   · have hlt:i < l.length:=by omega
     unfold eJ
     simp only [gI]
     have hx:=hr _ (List.getElem_mem hlt)
     obtain ⟨x,hxx⟩:=aFF (a:=a) (b:=b) (c:=c) (d:=d) (e:=e) (g:=g) hx.1 hx.2
     rw [decide_eq_true (by omega),cond_true,lM,Int.toNat_natCast,List.getElem?_eq_getElem hlt,dI,dI,hxx,dI,sS hlt (by omega),ih (i + 1) _ _ _ _ _ _ (by omega) (by omega)]
     rw [List.drop_eq_getElem_cons hlt]
     have z:∀ (o:Nat) (v:Int),bz (l.drop (i + 1)) o (bif Nat.beq l[i] o then 0 else v)=bz (l[i] :: l.drop (i + 1)) o v:=by
      intro o v
      unfold bz
      rw [List.contains_cons]
      by_cases ho:l[i]=o
      · subst ho; simp [Nat.beq_refl]
      · rw [aEV ho,show (o == l[i])=false by simp; exact fun h=>ho h.symm]; simp
     simp only [z]
theorem lA (k:Int):(mK k).length ≤ 3 ∧ ∀ o ∈ mK k,2 ≤ o ∧ o ≤ 7:=by
 unfold mK; (repeat' split) <;> decide
def aEa (f:aH):aH :=
 ⟨f.Kind,!flgK f.Kind && f.Flag,bz (mK f.Kind) 2 f.Stream,bz (mK f.Kind) 3 f.Offset,bz (mK f.Kind) 4 f.Dep,bz (mK f.Kind) 5 f.Weight,bz (mK f.Kind) 6 f.N,bz (mK f.Kind) 7 f.Code,aEZ f,aEb f⟩
theorem bare_is (f:aH):kM f=some (aEa f):=by
 unfold kM
 rw [vP,dI]
 have hb:=lA f.Kind
 have:=aEY f (mK f.Kind) (by omega) hb.2 fuel 0 f.Stream f.Offset f.Dep f.Weight f.N f.Code (eM (by omega)) (Nat.zero_le _)
 unfold aEa
 simpa using this
theorem vR (f:aH) (o:Nat):decide (bz (mK f.Kind) o (nv f o)=0)=zr f o:=by
 unfold bz zr; cases (mK f.Kind).contains o <;> simp
theorem aFX (f:aH):decide (aEa f=⟨f.Kind,false,0,0,0,0,0,0,[],[]⟩) = !spr f:=by
 rw [yF]
 unfold aEa spr
 simp only
 have e2:=vR f 2
 have e3:=vR f 3
 have e4:=vR f 4
 have e5:=vR f 5
 have e6:=vR f 6
 have e7:=vR f 7
 simp only [nv] at e2 e3 e4 e5 e6 e7
 simp only [if_true,show (3=2)=False by simp,show (4=2)=False by simp,show (4=3)=False by simp,show (5=2)=False by simp,show (5=3)=False by simp,show (5=4)=False by simp,show (6=2)=False by simp,show (6=3)=False by simp,show (6=4)=False by simp,show (6=5)=False by simp,show (7=2)=False by simp,show (7=3)=False by simp,show (7=4)=False by simp,show (7=5)=False by simp,show (7=6)=False by simp,if_false] at e2 e3 e4 e5 e6 e7
 rw [e2,e3,e4,e5,e6,e7]
 generalize (zr f 2 && zr f 3 && zr f 4 && zr f 5 && zr f 6 && zr f 7)=z
 unfold aEZ aEb
 by_cases h0:f.Kind=0
 · have:flgK f.Kind=true:=by rw [h0]; rfl
   cases z <;> by_cases hp:f.Pairs=[] <;> simp [h0,hp,this,show flgK 0=true from rfl]
 by_cases h4:f.Kind=4
 · cases z <;> by_cases hp:f.Pairs=[] <;> by_cases hd:f.Data=[] <;> cases hf:f.Flag <;> simp [h4,hp,hf,hd,show flgK 4=true from rfl]
 · cases z <;> by_cases hp:f.Pairs=[] <;> by_cases hd:f.Data=[] <;> cases hf:f.Flag <;> cases hg:flgK f.Kind <;> simp [h0,h4,hp,hf,hg,hd]
theorem aCS {f:aH} (hl:f.Pairs.length ≤ 1000000):nC f=some (chkF f):=by
 have hJ:∀ b,kR f b=some (if b then 5 else if spr f then 4 else 0):=by
  intro b
  unfold kR
  cases b with
  | true=>rfl
  | false =>
    have hb:(aEa f).Pairs.length ≤ 1000000:=by
     show (if f.Kind=4 ∧ f.Flag=false then [] else f.Pairs).length ≤ _
     split
     · simp
     · exact hl
    rw [cond_false,bare_is,dI,same_is hb (by simp),dI,aFX]
    cases spr f <;> rfl
 unfold nC chkF
 simp only [aCI,dI,gI,aDX hl,hJ]
 cases hk:pB f.Kind with
 | false=>rfl
 | true =>
   simp only [Bool.not_true,cond_false]
   cases hr:rng f with
   | false=>rfl
   | true =>
     simp only [Bool.not_true,cond_false]
     by_cases h1:32 < f.Data.length
     · have:(32:Int) < f.Data.length:=by omega
       simp [h1,this]
     · have:¬ (32:Int) < f.Data.length:=by omega
       by_cases h2:4 < f.Pairs.length
       · have h3:(4:Int) < f.Pairs.length:=by omega
         simp [h1,this,h2,h3]
       · have h3:¬ (4:Int) < f.Pairs.length:=by omega
         simp [h1,this,h2,h3]
end Go.Fn
open Go Go.IL
namespace Go.Fn
end Go.Fn
open Go Go.IL
namespace Go.Fn
theorem aDq {l:List Int} (hl:l.length ≤ 1000000):∀ (k i:Nat),l.length - i < k → i ≤ l.length → (∀ x ∈ l.take i,¬ vbad x) → jH l k ((l.take i).flatMap vput) (i:Int)=some (wG l):=by
 intro k
 induction k with
 | zero=>intro i h; omega
 | succ k ih =>
   intro i h hi ha
   unfold jH
   simp only [gI]
   by_cases hc:i < l.length
   · rw [decide_eq_true (by omega),cond_true,lM,List.getElem?_eq_getElem hc,dI,aFn,dI]
     have hq:l[i]? = some l[i]:=List.getElem?_eq_getElem hc
     have h8:=tS l[i]
     have hfl:=aBS (l:=l) i (by omega)
     by_cases hb:vbad l[i]
     · rw [if_pos hb,aDD hq hb]; rfl
     · simp only [if_neg hb,decide_true,Bool.not_true,cond_false]
       rw [jY (by omega) (by omega),dI,sS hc (by omega),← flat_take hq]
       exact ih (i + 1) (by omega) (by omega) (aFb ha hq hb)
   · have:i=l.length:=by omega
     subst this
     rw [decide_eq_false (by omega),cond_false,List.take_length]
     rw [List.take_length] at ha
     rw [zN ha]
theorem join_is {l:List Int} (hl:l.length ≤ 1000000):mV l=some (wG l):=by
 unfold mV qG
 have:=aDq hl fuel 0 (eM (by omega)) (Nat.zero_le _) (by simp)
 simp only [List.take_zero,List.flatMap_nil] at this
 rw [show (0:Int)=((0:Nat):Int) from rfl,this,dI]
theorem aAi (l:List Int):(wG l).1.length ≤ 8 * l.length:=by
 unfold wG; split
 · exact qU l
 · simp
def pl (l:List bL):List Int:=l.flatMap fun p=>[p.ID,p.Value]
theorem yW:∀ (l:List bL),(pl l).length=2 * l.length
 | []=>rfl
 | p :: l=>by
   have:=yW l
   simp only [pl,List.flatMap_cons,List.length_append,List.length_cons,List.length_nil] at this ⊢
   omega
def vals (f:aH):List Int:=(mK f.Kind).map (nv f) ++ pl f.Pairs
def pay (f:aH):List UInt8:=(wG (vals f)).1 ++ f.Data
def Lite (f:aH):Prop:=f.Pairs.length ≤ 1000 ∧ f.Data.length ≤ 1000
theorem aEh (f:aH):(vals f).length ≤ 3 + 2 * f.Pairs.length:=by
 unfold vals
 rw [List.length_append,List.length_map,yW]
 have:=(lA f.Kind).1; omega
theorem pay_end {f:aH} (h:Lite f) (l:List Int) (hl:l.length ≤ 3000):(bno (mV l) fun x42=>bno (cat x42.1 f.Data) fun x43=>some x43)=some ((wG l).1 ++ f.Data):=by
 rw [join_is (by omega),dI]
 have:=aAi l
 rw [wE (by have:=h.2; omega),dI]
theorem pl_step {l:List bL} {i:Nat} (hc:i < l.length):pl (l.take (i + 1))=pl (l.take i) ++ [l[i].ID,l[i].Value]:=by
 unfold pl; rw [List.take_succ_eq_append_getElem hc,List.flatMap_append]; rfl
theorem pay_L1 {f:aH} (h:Lite f) (a:List Int) (ha:a.length ≤ 3):∀ (k i:Nat),f.Pairs.length - i < k → i ≤ f.Pairs.length → eP f k (a ++ pl (f.Pairs.take i)) (i:Int)=some ((wG (a ++ pl f.Pairs)).1 ++ f.Data):=by
 have hp:=h.1
 intro k
 induction k with
 | zero=>intro i h; omega
 | succ k ih =>
   intro i hk hi
   unfold eP
   simp only [gI]
   by_cases hc:i < f.Pairs.length
   · have hpl:=yW (f.Pairs.take i)
     rw [List.length_take] at hpl
     rw [decide_eq_true (by omega),cond_true,lM,List.getElem?_eq_getElem hc,dI,jY (by simp only [List.length_append,List.length_cons,List.length_nil]; omega) (by simp only [List.length_append,List.length_cons,List.length_nil]; omega),dI,sS hc (by omega),List.append_assoc,← pl_step hc]
     exact ih (i + 1) (by omega) (by omega)
   · have:i=f.Pairs.length:=by omega
     subst this
     rw [decide_eq_false (by omega),cond_false,List.take_length]
     exact pay_end h _ (by rw [List.length_append,yW]; omega)
theorem aCM (f:aH) {o:Nat} (h:2 ≤ o) (h2:o ≤ 7):aAR [none,none,some f.Stream,some f.Offset,some f.Dep,some f.Weight,some f.N,some f.Code,none,none] o=some (nv f o):=by
 obtain rfl | rfl | rfl | rfl | rfl | rfl:o=2 ∨ o=3 ∨ o=4 ∨ o=5 ∨ o=6 ∨ o=7:=by omega
 all_goals rfl
theorem aEz {α β:Type} {l:List α} {g:α → β} {i:Nat} (hc:i < l.length):(l.take (i + 1)).map g=(l.take i).map g ++ [g l[i]]:=by
 rw [List.take_succ_eq_append_getElem hc,List.map_append]; rfl
theorem pay_L0 {f:aH} (h:Lite f) {l:List Nat} (hl:l.length ≤ 3) (hr:∀ o ∈ l,2 ≤ o ∧ o ≤ 7):∀ (k i:Nat),l.length - i < k → i ≤ l.length → eQ f l k ((l.take i).map (nv f)) (i:Int)=some ((wG (l.map (nv f) ++ pl f.Pairs)).1 ++ f.Data):=by
 intro k
 induction k with
 | zero=>intro i h; omega
 | succ k ih =>
   intro i hk hi
   unfold eQ
   simp only [gI]
   by_cases hc:i < l.length
   · have hx:=hr _ (List.getElem_mem hc)
     rw [decide_eq_true (by omega),cond_true,lM,Int.toNat_natCast,List.getElem?_eq_getElem hc,dI,dI,aCM f hx.1 hx.2,dI,jY (by simp; omega) (by simp; omega),dI,sS hc (by omega),← aEz hc]
     exact ih (i + 1) (by omega) (by omega)
   · have:i=l.length:=by omega
     subst this
     rw [decide_eq_false (by omega),cond_false,List.take_length]
     have:=pay_L1 h (l.map (nv f)) (by simp; omega) fuel 0 (eM (by have:=h.1; omega)) (Nat.zero_le _)
     simpa [pl] using this
theorem pay_is {f:aH} (h:Lite f):iG f=some (pay f):=by
 unfold iG pay vals
 rw [vP,dI]
 have hb:=lA f.Kind
 have:=pay_L0 h hb.1 hb.2 fuel 0 (eM (by omega)) (Nat.zero_le _)
 simpa using this
theorem aDe {f:aH} (h:Lite f):(pay f).length ≤ 20000:=by
 unfold pay
 have h1:=aAi (vals f)
 have h2:=aEh f
 have:=h.1; have:=h.2
 rw [List.length_append]; omega

theorem aFS {l:List UInt8} (hl:l.length ≤ 1000000):fK l=some l:=by
 unfold fK
 rw [jY (by simp; omega) (by simp; omega)]
 exact sL (fun h=>by subst h; rfl)
theorem aFq {l:List UInt8} {n:Int} (hl:l.length ≤ 1000) (h0:0 ≤ n) (h1:n < 256):oH l n 1=some (l ++ [UInt8.ofNat n.toNat]):=by
 unfold oH
 rw [aFS (by omega),dI]
 have hf:oT n 1=some true:=by
  unfold oT
  simp only [gI]
  rw [decide_eq_true h0,w64 (by decide) (by decide)]
  simp only [decide_true,show decide ((1:Int) ≤ 7)=true from rfl,show decide ((1:Int) ≤ 1)=true from rfl,Bool.and_self,beq_self_eq_true,gd,cond_true]
  rw [xD (k:=.i64) (b:=8 * 1) 8 rfl (by decide),dI]
  have:n / 2 ^ 8=0:=by omega
  rw [this]; rfl
 rw [hf,dI]
 obtain ⟨m,hm⟩:=fuel_is 2 (by decide)
 rw [hm]
 simp only [Bool.not_true,cond_false,lK,gI]
 rw [show decide ((0:Int) < 1)=true from rfl,cond_true,w64 (n:=1 - 1) (by decide) (by decide),w64 (n:=1 - 1 - 0) (by decide) (by decide),w64 (n:=8 * (1 - 1 - 0)) (by decide) (by decide),xD (k:=.i64) (b:=8 * (1 - 1 - 0)) 0 rfl (by decide),dI,w64 (n:=0 + 1) (by decide) (by decide)]
 rw [Int.pow_zero,Int.ediv_one,wU8 h0 h1,aBe h0 h1,dI,jY (by simp; omega) (by simp; omega),dI]
 rfl
def putF (f:aH):List UInt8 × Int:=if chkF f=0 then ([UInt8.ofNat f.Kind.toNat,if f.Flag then 1 else 0] ++ vput (pay f).length ++ pay f,0) else ([],chkF f)
theorem aE0 {f:aH} (h:Lite f):¬ vbad ((pay f).length:Int):=by
 have:=aDe h
 unfold vbad; omega
theorem put_F {f:aH} (hk0:0 ≤ f.Kind) (hk1:f.Kind ≤ 255) (h:Lite f):rW f=some (putF f):=by
 have hJ:∀ v:Int,0 ≤ v → v < 2 → mH f v=some ([UInt8.ofNat f.Kind.toNat,UInt8.ofNat v.toNat] ++ vput (pay f).length ++ pay f,0):=by
  intro v h0 h1
  unfold mH
  have h8:=tS ((pay f).length:Int)
  have hp:=aDe h
  rw [pay_is h,dI,aFn,dI]
  simp only [if_neg (aE0 h),gI,decide_true,Bool.not_true,cond_false]
  rw [w64 (by omega) (by omega),aFq (by simp) hk0 (by omega),dI,aFq (by simp) h0 (by omega),dI,wE (by simp; omega),dI,wE (by simp; omega),dI]
  rfl
 unfold rW putF
 rw [aCS (by have:=h.1; omega),dI,gI]
 by_cases hc:chkF f=0
 · rw [decide_eq_true hc,if_pos hc,hJ 1 (by decide) (by decide),hJ 0 (by decide) (by decide)]
   cases f.Flag <;> rfl
 · rw [decide_eq_false hc,if_neg hc]; rfl
end Go.Fn

namespace Go.Fn
open Go Go.IL
theorem aAG (f:aH):lG f=some (decide ((f.Pairs.length:Int) ≤ 10) && decide ((f.Data.length:Int) ≤ 100)):=rfl
end Go.Fn
open Go Go.IL
namespace Go.Fn

def zF:aH:=⟨0,false,0,0,0,0,0,0,[],[]⟩
def setv (g:aH) (o:Nat) (v:Int):aH :=
 ⟨g.Kind,g.Flag,bif Nat.beq o 2 then v else g.Stream,bif Nat.beq o 3 then v else g.Offset,bif Nat.beq o 4 then v else g.Dep,bif Nat.beq o 5 then v else g.Weight,bif Nat.beq o 6 then v else g.N,bif Nat.beq o 7 then v else g.Code,g.Pairs,g.Data⟩
def rd:List Nat → List UInt8 → aH → Option (List UInt8 × aH)
 | [],s,g=>some (s,g)
 | o :: os,s,g=>if (vget s).2.2=0 then rd os (s.drop (vget s).2.1.toNat) (setv g o (vget s).1) else none
def qV:List Int → List bL
 | a :: b :: l=>⟨a,b⟩ :: qV l
 | _=>[]
def setS (s:List UInt8):Option (List bL):=if (vall s).2=0 ∧ (vall s).1.length % 2=0 then some (qV (vall s).1) else none
def body (s:List UInt8) (g:aH):Option aH :=
 if g.Kind=0 then some ⟨g.Kind,g.Flag,g.Stream,g.Offset,g.Dep,g.Weight,g.N,g.Code,g.Pairs,s⟩
 else if g.Kind=4 then (setS s).map fun p=>⟨g.Kind,g.Flag,g.Stream,g.Offset,g.Dep,g.Weight,g.N,g.Code,p,g.Data⟩
 else if s=[] then some g else none
def sM (s:List UInt8) (g:aH):Option aH:=(rd (mK g.Kind) s g).bind fun q=>body q.1 q.2
def getF:List UInt8 → aH × Int × Int
 | []=>(zF,0,3)
 | k :: r=>if pB k.toNat=false then (zF,0,12) else match r with
   | []=>(zF,0,3)
   | b :: t=>if 1 < b.toNat then (zF,0,4) else if (vget t).2.2 ≠ 0 then (zF,0,(vget t).2.2) else if 64 < (vget t).1 then (zF,0,5)
     else if (t.length:Int) - (vget t).2.1 < (vget t).1 then (zF,0,3)
     else match sM ((t.drop (vget t).2.1.toNat).take (vget t).1.toNat) ⟨k.toNat,decide ((b.toNat:Int)=1),0,0,0,0,0,0,[],[]⟩ with
      | none=>(zF,0,4)
      | some g=>if chkF g=0 then (g,2 + (vget t).2.1 + (vget t).1,0) else (zF,0,chkF g)

theorem tD {s:List UInt8}:0 ≤ (vget s).1 ∧ (vget s).1 ≤ 4611686018427387903:=by
 cases s with
 | nil=>exact ⟨by decide,by decide⟩
 | cons b r =>
   by_cases h1:(b :: r).length < 2 ^ (b.toNat / 64)
   · rw [pK h1]; exact ⟨by decide,by decide⟩
   · by_cases h2:iC (beN (b.toNat % 64) (r.take (2 ^ (b.toNat / 64) - 1)))=((b.toNat / 64:Nat):Int)
     · rw [tC h1 h2]
       have h3:¬ vbad (beN (b.toNat % 64) (r.take (2 ^ (b.toNat / 64) - 1))):=by rw [← wZ,h2]; omega
       unfold vbad at h3; exact ⟨by simp only; omega,by simp only; omega⟩
     · rw [pL h1 h2]; exact ⟨by decide,by decide⟩
theorem aAl:∀ (f:Nat) (s:List UInt8) (acc:List Int),s.length ≤ f → (qH f s acc).1.length ≤ acc.length + s.length
 | 0,s,acc,_=>by simp [qH]
 | f + 1,s,acc,h=>by
   unfold qH
   split
   · simp
   · split
     · rename_i h1 h2
       have h3:=mI h2
       have:=aAl f (s.drop (vget s).2.1.toNat) (acc ++ [(vget s).1]) (by rw [List.length_drop]; omega)
       rw [List.length_append,List.length_drop] at this
       simp only [List.length_cons,List.length_nil] at this
       omega
     · simp
theorem aFc:∀ (k f:Nat) (s:List UInt8) (acc:List Int),s.length < k → s.length ≤ f → acc.length + s.length ≤ 1000000 → kC k s acc=some (qH f s acc):=by
 intro k
 induction k with
 | zero=>intro f s acc h; omega
 | succ k ih =>
   intro f s acc hk hf hl
   unfold kC
   simp only [gI]
   by_cases hs:s=[]
   · subst hs; rw [aAk]; rfl
   · rw [decide_eq_false hs,Bool.not_false,cond_true,aEC,dI]
     by_cases h:(vget s).2.2=0
     · have h3:=mI h
       obtain ⟨f',hf',he⟩:=aCb (acc:=acc) hs hf h
       rw [decide_eq_true h,Bool.not_true,cond_false,jY (by simp; omega) (by simp; omega),dI,aBY (by omega) (by omega),dI,he]
       exact ih f' _ _ (by rw [List.length_drop]; omega) hf' (by rw [List.length_append,List.length_drop]; simp; omega)
     · rw [decide_eq_false h,Bool.not_false,cond_true,aDE hs hf h]
theorem all_is {s:List UInt8} (h:s.length ≤ 1000000):pM s=some (vall s):=by
 unfold pM vall
 exact aFc fuel _ s [] (eM (by omega)) (Nat.le_refl _) (by simpa using h)
theorem aCB (s:List UInt8):(vall s).1.length ≤ s.length:=by
 have:=aAl s.length s [] (Nat.le_refl _)
 simpa [vall] using this

theorem zR:∀ (k:Nat) (l:List Int) (acc:List bL),l.length < k → l.length % 2=0 → acc.length + l.length ≤ 1000000 → gB k l acc=some (acc ++ qV l,true):=by
 intro k
 induction k with
 | zero=>intro l acc h; omega
 | succ k ih =>
   intro l acc hk h2 hl
   unfold gB
   simp only [gI]
   match l,hk,h2,hl with
   | [],_,_,_=>simp [qV]
   | [a],_,h2,_=>simp at h2
   | a :: b :: l,hk,h2,hl =>
     simp only [List.length_cons] at hk h2 hl
     rw [decide_eq_true (by simp; omega),cond_true,aAT (by decide) (by simp),dI,aAT (by decide) (by simp),dI,jY (by simp; omega) (by simp; omega),dI,aBY (by decide) (by simp; omega),dI]
     have:=ih l (acc ++ [⟨a,b⟩]) (by omega) (by omega) (by simp; omega)
     rw [List.append_assoc] at this
     exact this
theorem aBh {s:List UInt8} (h:s.length ≤ 1000000):∃ x,kQ s=some (x,(setS s).isSome) ∧ ∀ p,setS s=some p → x=p:=by
 unfold kQ setS
 rw [all_is h,dI]
 simp only [gI]
 have hl:=aCB s
 by_cases h0:(vall s).2=0
 · rw [decide_eq_true h0,show ((!true) == false)=true from rfl,gd_tt,oZ (by omega) (by decide),dI]
   by_cases h2:(vall s).1.length % 2=0
   · rw [decide_eq_false (by omega),if_pos ⟨h0,h2⟩]
     simp only [Bool.not_true,Bool.or_false,cond_false]
     rw [zR fuel _ [] (eM (by omega)) h2 (by simp; omega)]
     exact ⟨_,rfl,fun p hp=>by simpa using hp⟩
   · rw [decide_eq_true (by omega),if_neg (fun h=>h2 h.2)]
     exact ⟨_,rfl,fun p hp=>by cases hp⟩
 · rw [decide_eq_false h0,if_neg (fun h=>h0 h.1)]
   exact ⟨_,rfl,fun p hp=>by cases hp⟩

theorem aC5 {f:aH} {s:List UInt8} (h:s.length ≤ 1000000):∃ x,(bnd (decide (f.Kind=0)) fun x40 =>
 bif x40 then (
  some (true,(⟨f.Kind,f.Flag,f.Stream,f.Offset,f.Dep,f.Weight,f.N,f.Code,f.Pairs,s⟩:aH))
 ) else (
   bnd (decide (f.Kind=4)) fun x42 =>
   bif x42 then (
    bno (kQ s) fun x44 =>
    some (x44.2,(⟨f.Kind,f.Flag,f.Stream,f.Offset,f.Dep,f.Weight,f.N,f.Code,x44.1,f.Data⟩:aH))
   ) else (
     bnd (decide (s=([]:List UInt8))) fun x45 =>
     some (x45,(⟨f.Kind,f.Flag,f.Stream,f.Offset,f.Dep,f.Weight,f.N,f.Code,f.Pairs,f.Data⟩:aH))
   )
 ))=some ((body s f).isSome,x) ∧ ∀ y,body s f=some y → x=y:=by
 unfold body
 simp only [gI]
 by_cases h0:f.Kind=0
 · rw [decide_eq_true h0,if_pos h0]; exact ⟨_,rfl,fun y hy=>by simpa using hy⟩
 · rw [decide_eq_false h0,if_neg h0,cond_false]
   by_cases h4:f.Kind=4
   · rw [decide_eq_true h4,if_pos h4,cond_true]
     obtain ⟨x,hx,hp⟩:=aBh h
     rw [hx,dI]
     cases hs:setS s with
     | none=>exact ⟨_,rfl,fun y hy=>by cases hy⟩
     | some p=>rw [hp p hs]; exact ⟨_,rfl,fun y hy=>by simpa using hy⟩
   · rw [decide_eq_false h4,if_neg h4,cond_false]
     by_cases hs:s=[]
     · rw [decide_eq_true hs,if_pos hs]; exact ⟨_,rfl,fun y hy=>by simpa using hy⟩
     · rw [decide_eq_false hs,if_neg hs]; exact ⟨f,rfl,fun y hy=>by cases hy⟩
theorem aDQ {g:aH} {l:List Nat} (hr:∀ o ∈ l,2 ≤ o ∧ o ≤ 7) (hll:l.length ≤ 3):∀ (k i:Nat) (s:List UInt8) (a b c d e f:Int),l.length - i < k → i ≤ l.length → s.length ≤ 1000000 →
 ∃ x,eW g l k s (i:Int) a b c d e f=some (((rd (l.drop i) s ⟨g.Kind,g.Flag,a,b,c,d,e,f,g.Pairs,g.Data⟩).bind fun q=>body q.1 q.2).isSome,x) ∧ ∀ y,((rd (l.drop i) s ⟨g.Kind,g.Flag,a,b,c,d,e,f,g.Pairs,g.Data⟩).bind fun q=>body q.1 q.2)=some y → x=y:=by
 intro k
 induction k with
 | zero=>intro i s a b c d e f h; omega
 | succ k ih =>
   intro i s a b c d e f hk hi hs
   unfold eW
   by_cases hc:i < l.length
   · have hx:=hr _ (List.getElem_mem hc)
     rw [List.drop_eq_getElem_cons hc]
     unfold rd
     simp only [gI]
     rw [decide_eq_true (by omega),cond_true,lM,Int.toNat_natCast,List.getElem?_eq_getElem hc,dI,dI,aEC,dI]
     by_cases h:(vget s).2.2=0
     · have h3:=mI h
       have hic:=aCM ⟨g.Kind,g.Flag,a,b,c,d,e,f,g.Pairs,g.Data⟩ hx.1 hx.2
       simp only at hic
       rw [decide_eq_true h,Bool.not_true,cond_false,hic,dI,aBY (by omega) (by omega),dI,sS hc (by omega),if_pos h]
       exact ih (i + 1) _ _ _ _ _ _ _ (by omega) (by omega) (by rw [List.length_drop]; omega)
     · rw [decide_eq_false h,Bool.not_false,cond_true,if_neg h]
       exact ⟨_,rfl,fun y hy=>by cases hy⟩
   · have:i=l.length:=by omega
     subst this
     rw [List.drop_length]
     unfold rd
     simp only [gI,Option.bind_some]
     rw [decide_eq_false (by omega),cond_false]
     exact aC5 (f:=⟨g.Kind,g.Flag,a,b,c,d,e,f,g.Pairs,g.Data⟩) hs
theorem read_is {s:List UInt8} {g:aH} (h:s.length ≤ 1000000):∃ x,jD s g=some ((sM s g).isSome,x) ∧ ∀ y,sM s g=some y → x=y:=by
 unfold jD sM
 rw [vP,dI]
 have hb:=lA g.Kind
 exact aDQ hb.2 hb.1 fuel 0 s _ _ _ _ _ _ (eM (by omega)) (Nat.zero_le _) h
theorem zU:∀ (os:List Nat) (s t:List UInt8) (g y:aH),rd os s g=some (t,y) → t.length ≤ s.length ∧ y.Pairs=g.Pairs ∧ y.Data=g.Data ∧ y.Kind=g.Kind ∧ y.Flag=g.Flag
 | [],s,t,g,y,h=>by simp only [rd,Option.some.injEq,Prod.mk.injEq] at h; obtain ⟨rfl,rfl⟩:=h; exact ⟨Nat.le_refl _,rfl,rfl,rfl,rfl⟩
 | o :: os,s,t,g,y,h=>by
   unfold rd at h
   split at h
   · have:=zU os _ t _ y h
     rw [List.length_drop] at this
     exact ⟨by omega,this.2⟩
   · cases h
theorem yX:∀ (l:List Int),(qV l).length ≤ l.length
 | []=>by simp [qV]
 | [a]=>by simp [qV]
 | a :: b :: l=>by have:=yX l; simp [qV]; omega
theorem xH {s:List UInt8} {g y:aH} (h:sM s g=some y):y.Pairs.length ≤ g.Pairs.length + s.length ∧ y.Data.length ≤ g.Data.length + s.length ∧ y.Kind=g.Kind ∧ y.Flag=g.Flag:=by
 unfold sM at h
 cases hr:rd (mK g.Kind) s g with
 | none=>rw [hr] at h; cases h
 | some q =>
   obtain ⟨t,z⟩:=q
   rw [hr] at h
   obtain ⟨h1,h2,h3,h4,h5⟩:=zU _ _ _ _ _ hr
   simp only [Option.bind_some] at h
   unfold body at h
   split at h
   · simp only [Option.some.injEq] at h; subst h; simp only; rw [h2]; exact ⟨by omega,by omega,h4,h5⟩
   · split at h
     · cases hs:setS t with
       | none=>rw [hs] at h; cases h
       | some p =>
         rw [hs] at h; simp only [Option.map_some,Option.some.injEq] at h; subst h
         unfold setS at hs
         split at hs
         · simp only [Option.some.injEq] at hs; subst hs
           have:=yX (vall t).1
           have:=aCB t
           simp only; rw [h3]; exact ⟨by omega,by omega,h4,h5⟩
         · cases hs
     · split at h
       · simp only [Option.some.injEq] at h; subst h; rw [h2,h3]; exact ⟨by omega,by omega,h4,h5⟩
       · cases h
theorem sG {k:UInt8} {r:List UInt8} (h:pB k.toNat=false):getF (k :: r)=(zF,0,12):=by
 unfold getF; simp only; rw [if_pos h]
theorem wR {k:UInt8} (h:pB k.toNat=true):getF [k]=(zF,0,3):=by
 unfold getF; simp only; rw [if_neg (by rw [h]; decide)]
theorem pD {k b:UInt8} {t:List UInt8} (h:pB k.toNat=true):getF (k :: b :: t)=if 1 < b.toNat then (zF,0,4) else if (vget t).2.2 ≠ 0 then (zF,0,(vget t).2.2) else if 64 < (vget t).1 then (zF,0,5)
 else if (t.length:Int) - (vget t).2.1 < (vget t).1 then (zF,0,3)
 else match sM ((t.drop (vget t).2.1.toNat).take (vget t).1.toNat) ⟨k.toNat,decide ((b.toNat:Int)=1),0,0,0,0,0,0,[],[]⟩ with
  | none=>(zF,0,4)
  | some g=>if chkF g=0 then (g,2 + (vget t).2.1 + (vget t).1,0) else (zF,0,chkF g):=by
 rw [getF]; rw [if_neg (by rw [h]; decide)]
theorem get_F {s : List UInt8} (hs:s.length ≤ 1000000):qA s=some (getF s):=by
 unfold qA sH
 match s,hs with
 | [],_=>rfl
 | k :: r, hs =>
   simp only [gI,aAT (l:=k :: r) (i:=0) (by decide) (by simp),dI,aCI]
   rw [decide_eq_false (by simp),cond_false]
   simp only [List.getElem_cons_zero,Int.toNat_zero]
   cases hk:pB (k.toNat:Int) with
   | false=>rw [sG hk]; rfl
   | true =>
     match r,hs with
     | [],_=>rw [wR hk]; rfl
     | b :: t, hs =>
       rw [pD hk]
       simp only [List.length_cons] at hs
       simp only [Bool.not_true,cond_false,aAT (l:=k :: b :: t) (i:=1) (by decide) (by simp),dI,Int.toNat_one,List.getElem_cons_succ,List.getElem_cons_zero]
       rw [decide_eq_false (by simp; omega),cond_false]
       by_cases hb:1 < b.toNat
       · rw [decide_eq_true (by omega),if_pos hb]; rfl
       · rw [decide_eq_false (by omega),if_neg hb,cond_false,aBY (by decide) (by simp; omega),dI]
         rw [show (2:Int).toNat=2 from rfl,List.drop_succ_cons,List.drop_succ_cons,List.drop_zero,aEC,dI]
         by_cases hv:(vget t).2.2=0
         · rw [decide_eq_true hv,if_neg (fun h=>h hv)]
           have h3:=mI hv
           simp only [Bool.not_true,cond_false]
           by_cases h64:64 < (vget t).1
           · rw [decide_eq_true h64,if_pos h64]; rfl
           · rw [decide_eq_false h64,if_neg h64,cond_false,w64 (n:=((k :: b :: t).length:Int) - 2) (by simp; omega) (by simp; omega),w64 (by simp; omega) (by simp; omega)]
             have hlen:((k :: b :: t).length:Int) - 2 - (vget t).2.1=(t.length:Int) - (vget t).2.1:=by simp; omega
             rw [hlen]
             by_cases hl:(t.length:Int) - (vget t).2.1 < (vget t).1
             · rw [decide_eq_true hl,if_pos hl]; rfl
             · have h5:=tD (s:=t)
               rw [decide_eq_false hl,if_neg hl,cond_false,w64 (n:=2 + (vget t).2.1) (by omega) (by omega),w64 (by omega) (by omega),dI]
               simp only [show decide ((0:Int)=0)=true from rfl,Bool.not_true,cond_false]
               rw [aEM (by omega) (by omega) (by simp; omega),dI]
               have ecut:((k :: b :: t).take (2 + (vget t).2.1 + (vget t).1).toNat).drop (2 + (vget t).2.1).toNat=(t.drop (vget t).2.1.toNat).take (vget t).1.toNat:=by
                have e1:(2 + (vget t).2.1 + (vget t).1).toNat=((vget t).2.1.toNat + (vget t).1.toNat) + 1 + 1:=by omega
                have e2:(2 + (vget t).2.1).toNat=(vget t).2.1.toNat + 1 + 1:=by omega
                rw [e1,e2,List.take_succ_cons,List.take_succ_cons,List.drop_succ_cons,List.drop_succ_cons,List.take_drop]
               rw [ecut]
               obtain ⟨x,hx,hy⟩:=read_is (s:=(t.drop (vget t).2.1.toNat).take (vget t).1.toNat) (g:=⟨k.toNat,decide ((b.toNat:Int)=1),0,0,0,0,0,0,[],[]⟩) (by rw [List.length_take,List.length_drop]; omega)
               rw [hx,dI]
               cases hR:sM ((t.drop (vget t).2.1.toNat).take (vget t).1.toNat) ⟨k.toNat,decide ((b.toNat:Int)=1),0,0,0,0,0,0,[],[]⟩ with
               | none=>rfl
               | some g =>
                 obtain rfl:=hy g hR
                 have hb:=xH hR
                 rw [List.length_take,List.length_drop] at hb
                 simp only [Option.isSome_some,Bool.not_true,cond_false]
                 rw [aCS (by have:=hb.1; simp at this; omega),dI]
                 by_cases hc:chkF x=0
                 · rw [decide_eq_true hc,if_pos hc]; rfl
                 · rw [decide_eq_false hc,if_neg hc]; rfl
         · rw [decide_eq_false hv,if_pos hv]
           simp only [Bool.not_false,cond_true,dI]
           rw [decide_eq_false hv]; rfl

theorem aC0 (s : List UInt8):(getF s).1.Pairs.length ≤ s.length ∧ (getF s).1.Data.length ≤ s.length:=by
 match s with
 | []=>exact ⟨by simp [getF,zF],by simp [getF,zF]⟩
 | k :: r =>
   cases hk:pB (k.toNat:Int) with
   | false=>rw [sG hk]; simp [zF]
   | true =>
     match r with
     | []=>rw [wR hk]; simp [zF]
     | b :: t =>
       rw [pD hk]
       split
       · simp [zF]
       · split
         · simp [zF]
         · split
           · simp [zF]
           · split
             · simp [zF]
             · cases hR:sM ((t.drop (vget t).2.1.toNat).take (vget t).1.toNat) ⟨k.toNat,decide ((b.toNat:Int)=1),0,0,0,0,0,0,[],[]⟩ with
               | none=>simp [zF]
               | some g =>
                 have hb:=xH hR
                 rw [List.length_take,List.length_drop] at hb
                 simp only
                 split
                 · have h1:=hb.1; have h2:=hb.2.1
                   simp only [List.length_nil] at h1 h2
                   simp only [List.length_cons]
                   constructor <;> omega
                 · simp [zF]
end Go.Fn
open Go Go.IL
namespace Go.Fn

theorem aEW (n:Int):∀ (m:Nat) (a:Int),beN a (beb n m)=a * 256 ^ m + n % 256 ^ m
 | 0,a=>by simp [beb,beN]
 | m + 1,a=>by
   have ih:=aEW n m (a * 256 + n / 256 ^ m % 256)
   simp only [beb,beN,List.foldl_cons,aBc] at ih ⊢
   rw [ih]
   have hP:(0:Int) < 256 ^ m:=Int.pow_pos (by decide)
   have e1:=Int.mul_ediv_add_emod n (256 ^ m)
   have e2:=Int.mul_ediv_add_emod (n / 256 ^ m) 256
   have r0:=Int.emod_nonneg n (b:=256 ^ m) (by omega)
   have r1:=Int.emod_lt_of_pos n hP
   have q0:=Int.emod_nonneg (n / 256 ^ m) (b:=256) (by decide)
   have q1:=Int.emod_lt_of_pos (n / 256 ^ m) (b:=256) (by decide)
   have key:n % 256 ^ (m + 1)=256 ^ m * (n / 256 ^ m % 256) + n % 256 ^ m:=by
    have e3:n=256 ^ m * (n / 256 ^ m % 256) + n % 256 ^ m + 256 ^ (m + 1) * (n / 256 ^ m / 256):=by
     rw [Int.pow_succ]
     have:256 ^ m * 256 * (n / 256 ^ m / 256)=256 ^ m * (256 * (n / 256 ^ m / 256)):=Int.mul_assoc ..
     rw [this]
     have:256 ^ m * (n / 256 ^ m)=256 ^ m * (256 * (n / 256 ^ m / 256)) + 256 ^ m * (n / 256 ^ m % 256):=by rw [← Int.mul_add,e2]
     omega
    have h0:0 ≤ 256 ^ m * (n / 256 ^ m % 256):=Int.mul_nonneg (by omega) q0
    have h1:256 ^ m * (n / 256 ^ m % 256) ≤ 256 ^ m * 255:=Int.mul_le_mul_of_nonneg_left (by omega) (by omega)
    have:=congrArg (fun x=>x % (256:Int) ^ (m + 1)) e3
    simp only [Int.add_mul_emod_self_left] at this
    rw [this]
    apply Int.emod_eq_of_lt
    · omega
    · rw [Int.pow_succ]; omega
   rw [key,Int.add_mul,Int.pow_succ,Int.mul_assoc,Int.mul_comm 256 (256 ^ m),Int.mul_comm (n / 256 ^ m % 256)]
   omega
theorem xA {n:Int} (h:¬ vbad n) (t:List UInt8):vget (vput n ++ t)=(n,mT n,0):=by
 have hk:0 ≤ iC n:=by rcases sA n with h' | h'; exact absurd h'.1 h; exact h'.2.1
 have hk3:=(qF n).2
 obtain ⟨m,hm7,hm,hp,_⟩:=aB9 hk
 have ht:=aAm h hm
 have hmod:n / 256 ^ m % 256=n / 256 ^ m:=Int.emod_eq_of_lt ht.1 (by omega)
 rw [aBd hm,hmod,List.cons_append]
 have hb:(UInt8.ofNat ((n / 256 ^ m).toNat + 64 * (iC n).toNat)).toNat=(n / 256 ^ m).toNat + 64 * (iC n).toNat:=by simp; omega
 have hd:(UInt8.ofNat ((n / 256 ^ m).toNat + 64 * (iC n).toNat)).toNat / 64=(iC n).toNat:=by rw [hb]; omega
 have hr:((UInt8.ofNat ((n / 256 ^ m).toNat + 64 * (iC n).toNat)).toNat:Int) % 64=((n / 256 ^ m).toNat:Int):=by rw [hb]; omega
 have hp2:2 ^ (iC n).toNat=m + 1:=by exact_mod_cast hp
 have hlen:=vS n m
 have hval:beN ((n / 256 ^ m).toNat:Int) (beb n m)=n:=by
  rw [aEW,Int.toNat_of_nonneg ht.1,Int.mul_comm]
  exact Int.mul_ediv_add_emod n (256 ^ m)
 have htk:(beb n m ++ t).take m=beb n m:=by rw [List.take_append_of_le_length (by omega),List.take_of_length_le (by omega)]
 rw [tC (by rw [hd,hp2]; simp; omega) ?_]
 · rw [hd,hr,hp2,Nat.add_sub_cancel,htk]
   have hc:((((n / 256 ^ m).toNat:Nat):Int))=((n / 256 ^ m).toNat:Int):=rfl
   rw [hval]
   have:mT n=((m + 1:Nat):Int):=by have:=qE n; omega
   rw [this]
 · rw [hd,hr,hp2,Nat.add_sub_cancel,htk,hval]; omega
theorem aCV:∀ (q:List UInt8) (a:Int),0 ≤ a → beN a q / 256 ^ q.length=a ∧ beb (beN a q) q.length=q
 | [],a,h=>by simp [beN,beb]
 | c :: q,a,h=>by
   have hc:=c.toNat_lt
   have ih:=aCV q (a * 256 + c.toNat) (by omega)
   have e:beN a (c :: q)=beN (a * 256 + c.toNat) q:=rfl
   rw [e,List.length_cons]
   constructor
   · rw [← aEK,ih.1]; omega
   · rw [beb,ih.2,ih.1]
     have:by8 (a * 256 + c.toNat)=c:=by
      unfold by8
      have:(a * 256 + (c.toNat:Int)) % 256=c.toNat:=by omega
      rw [this]; simp
     rw [this]
theorem tR {s:List UInt8} (h:(vget s).2.2=0):¬ vbad (vget s).1 ∧ vput (vget s).1=s.take (vget s).2.1.toNat:=by
 cases s with
 | nil=>exact absurd h (by decide)
 | cons b r =>
   by_cases h1:(b :: r).length < 2 ^ (b.toNat / 64)
   · rw [pK h1] at h; exact absurd h (by decide)
   · by_cases h2:iC (beN (b.toNat % 64) (r.take (2 ^ (b.toNat / 64) - 1)))=((b.toNat / 64:Nat):Int)
     · rw [tC h1 h2]
       simp only
       have hlen:=aEB h1
       have hk4:=k4 b
       have hpk:=zY hk4
       generalize hv:beN (b.toNat % 64) (r.take (2 ^ (b.toNat / 64) - 1))=v at h2
       have hnb:¬ vbad v:=by rw [← wZ,h2]; omega
       have hsz:mT v=((2 ^ (b.toNat / 64):Nat):Int):=(aDB hk4).2 h2
       have hm:(mT v).toNat=(2 ^ (b.toNat / 64) - 1) + 1:=by rw [hsz]; omega
       have hbk:=aCV (r.take (2 ^ (b.toNat / 64) - 1)) ((b.toNat:Int) % 64) (by omega)
       rw [hlen] at hbk
       rw [hv] at hbk
       refine ⟨hnb,?_⟩
       rw [aBd hm,hbk.1,hbk.2,h2]
       have e1:UInt8.ofNat (((b.toNat:Int) % 64 % 256).toNat + 64 * (((b.toNat / 64:Nat):Int)).toNat)=b:=by
        have hb:=b.toNat_lt
        have:(((b.toNat:Int) % 64 % 256).toNat + 64 * (((b.toNat / 64:Nat):Int)).toNat)=b.toNat:=by omega
        rw [this]; simp
       rw [e1,Int.toNat_natCast]
       obtain ⟨p,hp⟩:∃ p,2 ^ (b.toNat / 64)=p + 1:=⟨2 ^ (b.toNat / 64) - 1,by omega⟩
       rw [hp,List.take_succ_cons,Nat.add_sub_cancel]
     · rw [pL h1 h2] at h; exact absurd h (by decide)
theorem zM {n:Int} (h:¬ vbad n):1 ≤ (vput n).length ∧ ((vput n).length:Int)=mT n:=by
 rw [aCA]
 have:=qE n
 have h2:=aCa (n:=n)
 have:mT n ≠ 0:=fun e=>h (h2.1 e)
 omega

theorem aAE {g:aH} {o p:Nat} (h:2 ≤ o) (h2:o ≤ 7) (h3:2 ≤ p) (h4:p ≤ 7) (v:Int):nv (setv g o v) p=if p=o then v else nv g p:=by
 obtain rfl | rfl | rfl | rfl | rfl | rfl:o=2 ∨ o=3 ∨ o=4 ∨ o=5 ∨ o=6 ∨ o=7:=by omega
 all_goals
  obtain rfl | rfl | rfl | rfl | rfl | rfl:p=2 ∨ p=3 ∨ p=4 ∨ p=5 ∨ p=6 ∨ p=7:=by omega
  all_goals rfl
theorem aFk (h:Nat → Int):∀ (os:List Nat) (t:List UInt8) (g:aH),(∀ o ∈ os,¬ vbad (h o)) → (∀ o ∈ os,2 ≤ o ∧ o ≤ 7) →
 ∃ g',rd os ((os.map h).flatMap vput ++ t) g=some (t,g') ∧ (∀ o ∈ os,nv g' o=h o) ∧ ∀ p,2 ≤ p → p ≤ 7 → p ∉ os → nv g' p=nv g p
 | [],t,g,_,_=>⟨g,rfl,by simp,fun _ _ _ _=>rfl⟩
 | o :: os,t,g,hb,hr=>by
   have ho:=hr o (by simp)
   have hn:=hb o (by simp)
   obtain ⟨g',h1,h2,h3⟩:=aFk h os t (setv g o (h o)) (fun p hp=>hb p (by simp [hp])) (fun p hp=>hr p (by simp [hp]))
   refine ⟨g',?_,?_,?_⟩
   · rw [List.map_cons,List.flatMap_cons,List.append_assoc]
     unfold rd
     rw [xA hn]
     simp only [if_true]
     rw [← (zM hn).2,Int.toNat_natCast,List.drop_left]
     exact h1
   · intro p hp
     by_cases hpo:p ∈ os
     · exact h2 p hpo
     · have:p=o:=by simpa [hpo] using hp
       subst this
       rw [h3 p ho.1 ho.2 hpo,aAE ho.1 ho.2 ho.1 ho.2,if_pos rfl]
   · intro p hp2 hp7 hp
     rw [List.mem_cons,not_or] at hp
     rw [h3 p hp2 hp7 hp.2,aAE ho.1 ho.2 hp2 hp7,if_neg hp.1]
theorem aFl:∀ (os:List Nat) (s t:List UInt8) (g g':aH),os.Nodup → (∀ o ∈ os,2 ≤ o ∧ o ≤ 7) → rd os s g=some (t,g') →
 s=(os.map (nv g')).flatMap vput ++ t ∧ (∀ o ∈ os,¬ vbad (nv g' o)) ∧ ∀ p,2 ≤ p → p ≤ 7 → p ∉ os → nv g' p=nv g p
 | [],s,t,g,g',_,_,h=>by simp only [rd,Option.some.injEq,Prod.mk.injEq] at h; obtain ⟨rfl,rfl⟩:=h; simp
 | o :: os,s,t,g,g',hd,hr,h=>by
   have ho:=hr o (by simp)
   rw [List.nodup_cons] at hd
   unfold rd at h
   split at h
   · rename_i hz
     obtain ⟨h1,h2,h3⟩:=aFl os _ t _ g' hd.2 (fun p hp=>hr p (by simp [hp])) h
     have hv:=tR hz
     have e:nv g' o=(vget s).1:=by rw [h3 o ho.1 ho.2 hd.1,aAE ho.1 ho.2 ho.1 ho.2,if_pos rfl]
     refine ⟨?_,?_,?_⟩
     · rw [List.map_cons,List.flatMap_cons,List.append_assoc,← h1,e,hv.2,List.take_append_drop]
     · intro p hp
       by_cases hpo:p ∈ os
       · exact h2 p hpo
       · have:p=o:=by simpa [hpo] using hp
         subst this; rw [e]; exact hv.1
     · intro p hp2 hp7 hp
       rw [List.mem_cons,not_or] at hp
       rw [h3 p hp2 hp7 hp.2,aAE ho.1 ho.2 hp2 hp7,if_neg hp.1]
   · cases h
theorem aCr (k:Int):(mK k).Nodup:=by unfold mK; (repeat' split) <;> decide
theorem yE {f g:aH} (h1:f.Kind=g.Kind) (h2:f.Flag=g.Flag) (h3:∀ p,2 ≤ p → p ≤ 7 → nv f p=nv g p) (h4:f.Pairs=g.Pairs) (h5:f.Data=g.Data):f=g:=by
 have a2:=h3 2 (by decide) (by decide)
 have a3:=h3 3 (by decide) (by decide)
 have a4:=h3 4 (by decide) (by decide)
 have a5:=h3 5 (by decide) (by decide)
 have a6:=h3 6 (by decide) (by decide)
 have a7:=h3 7 (by decide) (by decide)
 simp only [nv] at a2 a3 a4 a5 a6 a7
 obtain ⟨⟩:=f; obtain ⟨⟩:=g
 simp_all

theorem yQ:∀ (l:List Int) (f:Nat) (acc:List Int),(l.flatMap vput).length ≤ f → (∀ x ∈ l,¬ vbad x) → qH f (l.flatMap vput) acc=(acc ++ l,0)
 | [],f,acc,_,_=>by simp [aAk]
 | x :: l,f,acc,hf,hb=>by
   have hx:=hb x (by simp)
   have hv:=zM hx
   rw [List.flatMap_cons,List.length_append] at hf
   rw [List.flatMap_cons]
   have hg:=xA hx (l.flatMap vput)
   have hne:vput x ++ l.flatMap vput ≠ []:=by intro e; have:=congrArg List.length e; simp at this; have:=hv.1; simp_all
   cases f with
   | zero=>omega
   | succ f =>
     rw [qH,if_neg hne,hg]
     simp only [if_true]
     rw [← hv.2,Int.toNat_natCast,List.drop_left,yQ l f _ (by omega) (fun y hy=>hb y (by simp [hy])),List.append_assoc]
     rfl
theorem yR:∀ (f:Nat) (s:List UInt8) (acc:List Int),s.length ≤ f → (qH f s acc).2=0 → ∃ l,(qH f s acc).1=acc ++ l ∧ s=l.flatMap vput ∧ ∀ x ∈ l,¬ vbad x
 | 0,s,acc,hf,h=>⟨[],by simp [qH],by simpa using hf,by simp⟩
 | f + 1,s,acc,hf,h=>by
   rw [qH] at h ⊢
   by_cases hs:s=[]
   · rw [if_pos hs]; exact ⟨[],by simp,by simpa using hs,by simp⟩
   · rw [if_neg hs] at h ⊢
     by_cases hz:(vget s).2.2=0
     · rw [if_pos hz] at h ⊢
       have hsz:=mI hz
       obtain ⟨l,h1,h2,h3⟩:=yR f (s.drop (vget s).2.1.toNat) (acc ++ [(vget s).1]) (by rw [List.length_drop]; omega) h
       have hv:=tR hz
       refine ⟨(vget s).1 :: l,by rw [h1,List.append_assoc]; rfl,?_,?_⟩
       · rw [List.flatMap_cons,← h2,hv.2,List.take_append_drop]
       · intro x hx
         rcases List.mem_cons.1 hx with rfl | hx
         · exact hv.1
         · exact h3 x hx
     · rw [if_neg hz] at h; exact absurd h hz
theorem aAz:∀ (l:List bL),qV (pl l)=l
 | []=>rfl
 | p :: l=>by
   have:=aAz l
   simp only [pl,List.flatMap_cons,List.cons_append,List.nil_append] at this ⊢
   rw [qV,this]
theorem aAy:∀ (l:List Int),l.length % 2=0 → pl (qV l)=l
 | [],_=>rfl
 | [a],h=>by simp at h
 | a :: b :: l,h=>by
   have:=aAy l (by simp only [List.length_cons] at h; omega)
   simp only [qV,pl,List.flatMap_cons,List.cons_append,List.nil_append] at this ⊢
   rw [this]

structure Good (f:aH):Prop where
 known:pB f.Kind=true
 rng:rng f=true
 data:f.Data.length ≤ 32
 pairs:f.Pairs.length ≤ 4
 spr:spr f=false
theorem aAY {f:aH} (h:chkF f=0):Good f:=by
 unfold chkF at h
 cases hk:pB f.Kind with
 | false=>rw [hk] at h; simp at h
 | true =>
   rw [hk,if_neg (by decide)] at h
   cases hr:rng f with
   | false=>rw [hr] at h; simp at h
   | true =>
     rw [hr,if_neg (by decide)] at h
     by_cases hl:32 < f.Data.length ∨ 4 < f.Pairs.length
     · rw [if_pos hl] at h; simp at h
     · rw [if_neg hl] at h
       cases hs:spr f with
       | true=>rw [hs] at h; simp at h
       | false=>exact ⟨hk,hr,by omega,by omega,hs⟩
theorem Good.zero {f:aH} (h:Good f) {p:Nat} (h2:2 ≤ p) (h7:p ≤ 7) (hp:p ∉ mK f.Kind):nv f p=0:=by
 have hs:=h.spr
 have hz:zr f p=true:=by
  unfold Fn.spr at hs
  simp only [Bool.or_eq_false_iff,Bool.not_eq_false',Bool.and_eq_true] at hs
  obtain rfl | rfl | rfl | rfl | rfl | rfl:p=2 ∨ p=3 ∨ p=4 ∨ p=5 ∨ p=6 ∨ p=7:=by omega
  all_goals simp_all
 unfold zr at hz
 simpa [hp] using hz
theorem Good.nodata {f:aH} (h:Good f) (hk:f.Kind ≠ 0):f.Data=[]:=by
 have hs:=h.spr
 unfold Fn.spr at hs
 simp only [Bool.or_eq_false_iff] at hs
 have:=hs.1.1.2
 simpa [hk] using this
theorem Good.nopairs {f:aH} (h:Good f) (hk:f.Kind ≠ 4):f.Pairs=[]:=by
 have hs:=h.spr
 unfold Fn.spr at hs
 simp only [Bool.or_eq_false_iff] at hs
 have:=hs.1.2
 simpa [hk] using this
theorem mG {x a b:Int} (h:inb x a b=true):a ≤ x ∧ x ≤ b:=by unfold inb at h; simpa using h
theorem qJ {f:aH} {a b c:Int} (h:rngs f a b c=true):(∀ p ∈ f.Pairs,qW p=true) ∧ (0 ≤ f.Stream ∧ f.Stream ≤ 1048576) ∧ (0 ≤ f.Offset ∧ f.Offset ≤ 1099511627776) ∧ (0 ≤ f.Dep ∧ f.Dep ≤ 1048576) ∧ (a ≤ f.N ∧ f.N ≤ b) ∧ 0 ≤ f.Code ∧ f.Code ≤ c:=by
 unfold rngs at h
 simp only [Bool.and_eq_true,List.all_eq_true] at h
 exact ⟨h.1.1.1.1.1,mG h.1.1.1.1.2,mG h.1.1.1.2,mG h.1.1.2,mG h.1.2,mG h.2⟩
theorem Good.vals {f:aH} (h:Good f):∀ x ∈ vals f,¬ vbad x:=by
 have hr:=h.rng
 have hR:(∀ p ∈ f.Pairs,qW p=true) ∧ (0 ≤ f.Stream ∧ f.Stream ≤ 1048576) ∧ (0 ≤ f.Offset ∧ f.Offset ≤ 1099511627776) ∧ (0 ≤ f.Dep ∧ f.Dep ≤ 1048576) ∧ (0 ≤ f.N ∧ f.N ≤ 1099511627776) ∧ (0 ≤ f.Code ∧ f.Code ≤ 255) ∧ (5 ∈ mK f.Kind → 0 ≤ f.Weight ∧ f.Weight ≤ 256):=by
  unfold Fn.rng at hr
  by_cases h8:f.Kind=8
  · rw [if_pos h8] at hr
    have:=qJ hr
    exact ⟨this.1,this.2.1,this.2.2.1,this.2.2.2.1,by omega,by omega,by rw [h8]; intro h5; exact absurd h5 (by decide)⟩
  · rw [if_neg h8] at hr
    by_cases h10:f.Kind=10
    · rw [if_pos h10] at hr
      have:=qJ hr
      exact ⟨this.1,this.2.1,this.2.2.1,this.2.2.2.1,by omega,by omega,by rw [h10]; intro h5; exact absurd h5 (by decide)⟩
    · rw [if_neg h10] at hr
      by_cases h12:f.Kind=1 ∨ f.Kind=2
      · rw [if_pos h12,Bool.and_eq_true] at hr
        have:=qJ hr.2
        have hw:=mG hr.1
        exact ⟨this.1,this.2.1,this.2.2.1,this.2.2.2.1,by omega,by omega,fun _=>by omega⟩
      · rw [if_neg h12] at hr
        have:=qJ hr
        refine ⟨this.1,this.2.1,this.2.2.1,this.2.2.2.1,by omega,by omega,fun h5=>?_⟩
        unfold mK at h5
        rw [if_neg (c:=f.Kind=1) (fun e=>h12 (.inl e)),if_neg (c:=f.Kind=2) (fun e=>h12 (.inr e))] at h5
        revert h5
        (repeat' split) <;> intro h5 <;> exact absurd h5 (by decide)
 intro x hx
 unfold Fn.vals at hx
 rw [List.mem_append,List.mem_map] at hx
 rcases hx with ⟨o,ho,rfl⟩ | hx
 · have hb:=(lA f.Kind).2 o ho
   unfold vbad
   obtain rfl | rfl | rfl | rfl | rfl | rfl:o=2 ∨ o=3 ∨ o=4 ∨ o=5 ∨ o=6 ∨ o=7:=by omega
   · simp only [nv]; simp; omega
   · simp only [nv]; simp; omega
   · simp only [nv]; simp; omega
   · have:=hR.2.2.2.2.2.2 ho; simp only [nv]; simp; omega
   · simp only [nv]; simp; omega
   · simp only [nv]; simp; omega
 · unfold pl at hx
   rw [List.mem_flatMap] at hx
   obtain ⟨p,hp,hx⟩:=hx
   have:=hR.1 p hp
   unfold qW at this
   rw [Bool.and_eq_true] at this
   have h1:=mG this.1
   have h2:=mG this.2
   unfold vbad
   simp at hx
   rcases hx with rfl | rfl <;> omega
theorem Good.pay {f:aH} (h:Good f):pay f=((mK f.Kind).map (nv f)).flatMap vput ++ ((pl f.Pairs).flatMap vput ++ f.Data):=by
 unfold Fn.pay
 rw [zN h.vals]
 unfold Fn.vals
 rw [List.flatMap_append,List.append_assoc]
theorem Good.pay_le {f:aH} (h:Good f):(Fn.pay f).length ≤ 64:=by
 rw [h.pay]
 have h1:=qU ((mK f.Kind).map (nv f))
 have h2:=qU (pl f.Pairs)
 rw [yW] at h2
 have h3:=(lA f.Kind).1
 rw [List.length_map] at h1
 simp only [List.length_append]
 have hd:=h.data
 have hp:=h.pairs
 by_cases h4:f.Kind=4
 · have e:mK f.Kind=[]:=by rw [h4]; rfl
   have hn:=h.nodata (by omega)
   rw [e] at h1
   simp only [List.length_nil] at h1
   rw [hn]; simp only [List.length_nil]
   rw [e]; omega
 · have hn:=h.nopairs h4
   rw [hn] at h2 ⊢
   simp only [List.length_nil] at h2
   omega
theorem Good.read {f:aH} (h:Good f):sM (Fn.pay f) ⟨f.Kind,f.Flag,0,0,0,0,0,0,[],[]⟩=some f:=by
 have hb:=lA f.Kind
 obtain ⟨g,h1,h2,h3⟩:=aFk (nv f) (mK f.Kind) ((pl f.Pairs).flatMap vput ++ f.Data) ⟨f.Kind,f.Flag,0,0,0,0,0,0,[],[]⟩
  (fun o ho=>h.vals _ (by unfold Fn.vals; rw [List.mem_append,List.mem_map]; exact .inl ⟨o,ho,rfl⟩)) hb.2
 obtain ⟨_,k1,k2,k3,k4⟩:=zU _ _ _ _ _ h1
 have hz:∀ p,2 ≤ p → p ≤ 7 → nv ⟨f.Kind,f.Flag,0,0,0,0,0,0,[],[]⟩ p=0:=by
  intro p h2 h7
  obtain rfl | rfl | rfl | rfl | rfl | rfl:p=2 ∨ p=3 ∨ p=4 ∨ p=5 ∨ p=6 ∨ p=7:=by omega
  all_goals rfl
 have hall:∀ p,2 ≤ p → p ≤ 7 → nv g p=nv f p:=by
  intro p hp2 hp7
  by_cases hp:p ∈ mK f.Kind
  · exact h2 p hp
  · rw [h3 p hp2 hp7 hp,h.zero hp2 hp7 hp,hz p hp2 hp7]
 unfold sM
 rw [h.pay]
 simp only
 rw [h1,Option.bind_some]
 unfold body
 simp only at k1 k2 k3 k4
 have hnv:∀ (P:List bL) (D:List UInt8) p,nv ⟨g.Kind,g.Flag,g.Stream,g.Offset,g.Dep,g.Weight,g.N,g.Code,P,D⟩ p=nv g p:=fun _ _ _=>rfl
 by_cases h0:f.Kind=0
 · rw [if_pos (by rw [k3]; exact h0)]
   have hp:=h.nopairs (by omega)
   rw [hp]
   congr 1
   refine yE (by simp only [k3]) (by simp only [k4]) (fun p a b=>by rw [hnv,hall p a b]) (by simp only [k1]; rw [hp]) ?_
   simp [pl]
 · rw [if_neg (by rw [k3]; exact h0)]
   have hd:=h.nodata h0
   rw [hd,List.append_nil]
   by_cases h4:f.Kind=4
   · rw [if_pos (by rw [k3]; exact h4)]
     have hv:vall ((pl f.Pairs).flatMap vput)=(pl f.Pairs,0):=by
      unfold vall
      rw [yQ _ _ _ (Nat.le_refl _) (fun x hx=>h.vals x (by unfold Fn.vals; rw [List.mem_append]; exact .inr hx)),List.nil_append]
     have hl:=yW f.Pairs
     unfold setS
     rw [hv,if_pos ⟨rfl,by simp only; omega⟩,Option.map_some]
     congr 1
     exact yE (by simp only [k3]) (by simp only [k4]) (fun p a b=>by rw [hnv,hall p a b]) (by simp only [aAz]) (by simp only [k2]; rw [hd])
   · rw [if_neg (by rw [k3]; exact h4)]
     have hp:=h.nopairs h4
     rw [hp]
     rw [if_pos (by simp [pl])]
     congr 1
     exact yE k3 k4 hall (by rw [k1,hp]) (by rw [k2,hd])
theorem Good.vpay {f:aH} (h:Good f):¬ vbad ((Fn.pay f).length:Int):=by have:=h.pay_le; unfold vbad; omega
theorem aFI {f:aH} (hk0:0 ≤ f.Kind) (hk1:f.Kind ≤ 255) (hc:chkF f=0) (rest:List UInt8):getF ((putF f).1 ++ rest)=(f,((putF f).1.length:Int),0):=by
 have h:=aAY hc
 have hl:=h.pay_le
 have hv:=zM h.vpay
 unfold putF
 rw [if_pos hc]
 simp only [List.cons_append,List.nil_append,List.append_assoc]
 have hkk:(((UInt8.ofNat f.Kind.toNat).toNat:Nat):Int)=f.Kind:=by simp; omega
 rw [pD (by rw [hkk]; exact h.known),xA h.vpay]
 simp only
 rw [if_neg (by cases f.Flag <;> decide),if_neg (by decide),if_neg (by omega),if_neg (by rw [← hv.2]; simp; omega),hkk,← hv.2,Int.toNat_natCast,Int.toNat_natCast,List.drop_left,List.take_left]
 have hfl:decide (((if f.Flag=true then 1 else 0:UInt8).toNat:Int)=1)=f.Flag:=by cases f.Flag <;> rfl
 rw [hfl,h.read]
 simp only [hc,if_true]
 congr 2
 simp; omega
theorem aC1 (s : List UInt8):(∃ c,c ≠ 0 ∧ getF s=(zF,0,c)) ∨ ∃ k b t g,s=k :: b :: t ∧ ¬ 1 < b.toNat ∧ (vget t).2.2=0 ∧ ¬ (t.length:Int) - (vget t).2.1 < (vget t).1 ∧
 sM ((t.drop (vget t).2.1.toNat).take (vget t).1.toNat) ⟨k.toNat,decide ((b.toNat:Int)=1),0,0,0,0,0,0,[],[]⟩=some g ∧ chkF g=0 ∧ getF s=(g,2 + (vget t).2.1 + (vget t).1,0):=by
 match s with
 | []=>exact .inl ⟨3,by decide,rfl⟩
 | k :: r =>
   cases hk:pB (k.toNat:Int) with
   | false=>exact .inl ⟨12,by decide,sG hk⟩
   | true =>
     match r with
     | []=>exact .inl ⟨3,by decide,wR hk⟩
     | b :: t =>
       rw [pD hk]
       by_cases hb:1 < b.toNat
       · rw [if_pos hb]; exact .inl ⟨4,by decide,rfl⟩
       · rw [if_neg hb]
         by_cases hv:(vget t).2.2=0
         · rw [if_neg (fun h=>h hv)]
           by_cases h64:64 < (vget t).1
           · rw [if_pos h64]; exact .inl ⟨5,by decide,rfl⟩
           · rw [if_neg h64]
             by_cases hl:(t.length:Int) - (vget t).2.1 < (vget t).1
             · rw [if_pos hl]; exact .inl ⟨3,by decide,rfl⟩
             · rw [if_neg hl]
               cases hR:sM ((t.drop (vget t).2.1.toNat).take (vget t).1.toNat) ⟨k.toNat,decide ((b.toNat:Int)=1),0,0,0,0,0,0,[],[]⟩ with
               | none=>exact .inl ⟨4,by decide,rfl⟩
               | some g =>
                 by_cases hc:chkF g=0
                 · refine .inr ⟨k,b,t,g,rfl,hb,hv,hl,hR,hc,?_⟩
                   simp only [hc,if_true]
                 · refine .inl ⟨chkF g,hc,?_⟩
                   simp only [hc,if_false]
         · rw [if_pos hv]; exact .inl ⟨_,hv,rfl⟩
theorem aDR {p:List UInt8} {g0 g:aH} (hp0:g0.Pairs=[]) (hd0:g0.Data=[]) (h:sM p g0=some g):pay g=p:=by
 unfold sM at h
 cases hr:rd (mK g0.Kind) p g0 with
 | none=>rw [hr] at h; cases h
 | some q =>
   obtain ⟨t,z⟩:=q
   rw [hr] at h
   simp only [Option.bind_some] at h
   have hb:=lA g0.Kind
   obtain ⟨h1,h2,h3⟩:=aFl _ _ _ _ _ (aCr g0.Kind) hb.2 hr
   obtain ⟨_,k1,k2,k3,k4⟩:=zU _ _ _ _ _ hr
   have key:∀ (l:List Int) (P:List bL) (D:List UInt8),pl P=l → (∀ x ∈ l,¬ vbad x) → t=l.flatMap vput ++ D → pay ⟨z.Kind,z.Flag,z.Stream,z.Offset,z.Dep,z.Weight,z.N,z.Code,P,D⟩=p:=by
    intro l P D e hl ht
    unfold pay vals
    simp only
    have hnv:nv ⟨z.Kind,z.Flag,z.Stream,z.Offset,z.Dep,z.Weight,z.N,z.Code,P,D⟩=nv z:=rfl
    rw [hnv,k3,e,zN,List.flatMap_append,List.append_assoc,← ht,← h1]
    intro x hx
    rw [List.mem_append,List.mem_map] at hx
    rcases hx with ⟨o,ho,rfl⟩ | hx
    · exact h2 o ho
    · exact hl x hx
   unfold body at h
   split at h
   · simp only [Option.some.injEq] at h; subst h
     exact key [] z.Pairs t (by rw [k1,hp0]; rfl) (by simp) (by simp)
   · split at h
     · cases hs:setS t with
       | none=>rw [hs] at h; cases h
       | some P =>
         rw [hs] at h; simp only [Option.map_some,Option.some.injEq] at h; subst h
         unfold setS at hs
         split at hs
         · rename_i hv
           simp only [Option.some.injEq] at hs; subst hs
           obtain ⟨l,e1,e2,e3⟩:=yR t.length t [] (Nat.le_refl _) hv.1
           have e4:(vall t).1=l:=by unfold vall; rw [e1,List.nil_append]
           refine key l _ _ ?_ e3 (by rw [k2,hd0,List.append_nil]; exact e2)
           rw [e4] at hv ⊢
           exact aAy l hv.2
         · cases hs
     · split at h
       · rename_i ht
         simp only [Option.some.injEq] at h; subst h
         exact key [] z.Pairs z.Data (by rw [k1,hp0]; rfl) (by simp) (by rw [k2,hd0]; simpa using ht)
       · cases h
theorem pY {s:List UInt8} (h:(getF s).2.2=0):chkF (getF s).1=0 ∧ 0 < (getF s).2.1 ∧ (getF s).2.1 ≤ s.length ∧ putF (getF s).1=(s.take (getF s).2.1.toNat,0) ∧ 0 ≤ (getF s).1.Kind ∧ (getF s).1.Kind ≤ 255:=by
 rcases aC1 s with ⟨c,hc,e⟩ | ⟨k,b,t,g,rfl,hb,hv,hl,hR,hc,e⟩
 · rw [e] at h; exact absurd h hc
 · rw [e]
   have h3:=mI hv
   have h4:=tD (s:=t)
   have hkk:=(xH hR).2.2
   have hp:=aDR rfl rfl hR
   have hbt:=k.toNat_lt
   simp only at hkk ⊢
   have hk2:g.Kind=(k.toNat:Int):=hkk.1
   refine ⟨hc,by omega,by simp; omega,?_,by omega,by omega⟩
   unfold putF
   rw [if_pos hc,hp]
   have hlen:(((t.drop (vget t).2.1.toNat).take (vget t).1.toNat).length:Int)=(vget t).1:=by rw [List.length_take,List.length_drop]; omega
   have hpv:=tR hv
   have e2:(2 + (vget t).2.1 + (vget t).1).toNat=((vget t).2.1.toNat + (vget t).1.toNat) + 1 + 1:=by omega
   have hfb:(if g.Flag=true then 1 else 0:UInt8)=b:=by
    rw [hkk.2]
    have hbn:b.toNat=0 ∨ b.toNat=1:=by omega
    rcases hbn with hbn | hbn
    · have:b=0:=UInt8.toNat_inj.1 hbn
      subst this; rfl
    · have:b=1:=UInt8.toNat_inj.1 hbn
      subst this; rfl
   have hkb:UInt8.ofNat g.Kind.toNat=k:=by rw [hk2,Int.toNat_natCast]; simp
   rw [hlen,hpv.2,hfb,hkb,e2,List.take_succ_cons,List.take_succ_cons]
   congr 1
   simp only [List.cons_append,List.nil_append,List.append_assoc]
   congr 2
   rw [List.take_add]

end Go.Fn
open Go Go.IL
namespace Go.Fn

theorem aAj {s:List UInt8} (h:(vget s).2.2 ≠ 3) (t:List UInt8):vget (s ++ t)=vget s:=by
 cases s with
 | nil=>exact absurd rfl h
 | cons b r =>
   by_cases h1:(b :: r).length < 2 ^ (b.toNat / 64)
   · rw [pK h1] at h; exact absurd rfl h
   · have h1':¬ (b :: (r ++ t)).length < 2 ^ (b.toNat / 64):=by simp only [List.length_cons,List.length_append] at h1 ⊢; omega
     have htk:(r ++ t).take (2 ^ (b.toNat / 64) - 1)=r.take (2 ^ (b.toNat / 64) - 1):=List.take_append_of_le_length (by simp only [List.length_cons] at h1; omega)
     rw [List.cons_append]
     by_cases h2:iC (beN (b.toNat % 64) (r.take (2 ^ (b.toNat / 64) - 1)))=((b.toNat / 64:Nat):Int)
     · rw [tC h1 h2,tC h1' (by rw [htk]; exact h2),htk]
     · rw [pL h1 h2,pL h1' (by rw [htk]; exact h2)]
theorem aBP {s : List UInt8} (h:(getF s).2.2 ≠ 3) (t:List UInt8):getF (s ++ t)=getF s:=by
 match s with
 | []=>exact absurd rfl h
 | k :: r =>
   cases hk:pB (k.toNat:Int) with
   | false=>rw [List.cons_append,sG hk,sG hk]
   | true =>
     match r with
     | []=>rw [wR hk] at h; exact absurd rfl h
     | b :: q =>
       rw [pD hk] at h
       rw [List.cons_append,List.cons_append,pD hk,pD hk]
       by_cases hb:1 < b.toNat
       · rw [if_pos hb,if_pos hb]
       · rw [if_neg hb] at h; rw [if_neg hb,if_neg hb]
         by_cases hv:(vget q).2.2=0
         · have hm:=aAj (s:=q) (by rw [hv]; decide) t
           rw [if_neg (fun e=>e hv)] at h
           rw [hm,if_neg (c:=(vget q).2.2 ≠ 0) (fun e=>e hv),if_neg (c:=(vget q).2.2 ≠ 0) (fun e=>e hv)]
           by_cases h64:64 < (vget q).1
           · rw [if_pos h64,if_pos h64]
           · rw [if_neg h64] at h; rw [if_neg h64,if_neg h64]
             by_cases hl:(q.length:Int) - (vget q).2.1 < (vget q).1
             · rw [if_pos hl] at h; exact absurd rfl h
             · have h3:=mI hv
               have h4:=tD (s:=q)
               rw [if_neg hl,if_neg (by rw [List.length_append]; omega)]
               have:((q ++ t).drop (vget q).2.1.toNat).take (vget q).1.toNat=(q.drop (vget q).2.1.toNat).take (vget q).1.toNat:=by
                rw [List.drop_append_of_le_length (by omega),List.take_append_of_le_length (by rw [List.length_drop]; omega)]
               rw [this]
         · rw [if_pos hv] at h
           have hm:=aAj (s:=q) h t
           rw [hm,if_pos hv,if_pos hv]
theorem aBQ {s : List UInt8} (h:(getF s).2.2=3):s.length ≤ 80:=by
 match s with
 | []=>simp
 | k :: r =>
   cases hk:pB (k.toNat:Int) with
   | false=>rw [sG hk] at h; exact absurd h (by decide)
   | true =>
     match r with
     | []=>simp
     | b :: q =>
       rw [pD hk] at h
       by_cases hb:1 < b.toNat
       · rw [if_pos hb] at h; exact absurd h (by decide)
       · rw [if_neg hb] at h
         by_cases hv:(vget q).2.2=0
         · rw [if_neg (fun e=>e hv)] at h
           have h3:=mI hv
           have h8:(vget q).2.1 ≤ 8:=by
            have:=tS (vget q).1
            rw [(tR hv).2,List.length_take] at this; omega
           by_cases h64:64 < (vget q).1
           · rw [if_pos h64] at h; exact absurd h (by decide)
           · rw [if_neg h64] at h
             by_cases hl:(q.length:Int) - (vget q).2.1 < (vget q).1
             · simp only [List.length_cons]; omega
             · rw [if_neg hl] at h
               exfalso
               revert h
               cases hR:sM ((q.drop (vget q).2.1.toNat).take (vget q).1.toNat) ⟨k.toNat,decide ((b.toNat:Int)=1),0,0,0,0,0,0,[],[]⟩ with
               | none=>intro h; simp at h
               | some g =>
                 simp only
                 split
                 · intro h; simp at h
                 · rename_i hc
                   intro h
                   simp only at h
                   unfold chkF at h
                   (repeat' split at h) <;> simp at h
         · rw [if_pos hv] at h
           simp only at h
           cases q with
           | nil=>simp
           | cons c u =>
             by_cases h1:(c :: u).length < 2 ^ (c.toNat / 64)
             · have:=zY (k4 c)
               simp only [List.length_cons] at h1 ⊢; omega
             · by_cases h2:iC (beN (c.toNat % 64) (u.take (2 ^ (c.toNat / 64) - 1)))=((c.toNat / 64:Nat):Int)
               · rw [tC h1 h2] at h; simp at h
               · rw [pL h1 h2] at h; simp at h

def eatF:Nat → List UInt8 → List aH × List UInt8 × Int
 | 0,s=>([],s,0)
 | f + 1,s=>if (getF s).2.2=0 then ((getF s).1 :: (eatF f (s.drop (getF s).2.1.toNat)).1,(eatF f (s.drop (getF s).2.1.toNat)).2) else if (getF s).2.2=3 then ([],s,0) else ([],[],(getF s).2.2)
def eat (s:List UInt8):List aH × List UInt8 × Int:=eatF (s.length + 1) s
theorem aBX:∀ (f g:Nat) (s:List UInt8),s.length < f → s.length < g → eatF f s=eatF g s
 | 0,_,s,h,_=>by omega
 | _,0,s,_,h=>by omega
 | f + 1,g + 1,s,h1,h2=>by
   unfold eatF
   by_cases h:(getF s).2.2=0
   · have h3:=pY h
     have hd:(s.drop (getF s).2.1.toNat).length=s.length - (getF s).2.1.toNat:=List.length_drop
     rw [if_pos h,if_pos h,aBX f g _ (by omega) (by omega)]
   · rw [if_neg h,if_neg h]
theorem aBV {s:List UInt8} (h:(getF s).2.2=0):eat s=((getF s).1 :: (eat (s.drop (getF s).2.1.toNat)).1,(eat (s.drop (getF s).2.1.toNat)).2):=by
 have h3:=pY h
 have hd:(s.drop (getF s).2.1.toNat).length=s.length - (getF s).2.1.toNat:=List.length_drop
 unfold eat
 rw [eatF,if_pos h,aBX s.length _ _ (by omega) (Nat.lt_succ_self _)]
theorem tO {s:List UInt8} (h:(getF s).2.2=3):eat s=([],s,0):=by
 unfold eat; rw [eatF,if_neg (by rw [h]; decide),if_pos h]
theorem aAW {s:List UInt8} (h:(getF s).2.2 ≠ 0) (h3:(getF s).2.2 ≠ 3):eat s=([],[],(getF s).2.2):=by
 unfold eat; rw [eatF,if_neg h,if_neg h3]
theorem aEJ {P:List UInt8 → Prop} (h:∀ s,((getF s).2.2=0 → P (s.drop (getF s).2.1.toNat)) → P s) (s:List UInt8):P s:=by
 have key:∀ n (s:List UInt8),s.length < n → P s:=by
  intro n
  induction n with
  | zero=>intro s hs; omega
  | succ n ih =>
    intro s hs
    refine h s fun h0=>ih _ ?_
    have h3:=pY h0
    rw [List.length_drop]; omega
 exact key _ s (Nat.lt_succ_self _)
theorem zJ (s:List UInt8):∀ t,eat (s ++ t)=if (eat s).2.2=0 then ((eat s).1 ++ (eat ((eat s).2.1 ++ t)).1,(eat ((eat s).2.1 ++ t)).2) else eat s:=by
 refine aEJ (P:=fun s=>∀ t,eat (s ++ t)=if (eat s).2.2=0 then ((eat s).1 ++ (eat ((eat s).2.1 ++ t)).1,(eat ((eat s).2.1 ++ t)).2) else eat s) ?_ s
 intro s ih t
 by_cases h:(getF s).2.2=0
 · have hm:=aBP (s:=s) (by rw [h]; decide) t
   have h3:=pY h
   have hd:(s ++ t).drop (getF s).2.1.toNat=s.drop (getF s).2.1.toNat ++ t:=List.drop_append_of_le_length (by omega)
   rw [aBV (by rw [hm]; exact h),aBV h,hm,hd,ih h t]
   simp only
   split <;> rfl
 · by_cases h3:(getF s).2.2=3
   · rw [tO h3]; simp
   · have hm:=aBP h3 t
     rw [aAW (by rw [hm]; exact h) (by rw [hm]; exact h3),aAW h h3,hm]
     simp only [if_neg h]
theorem aBW (s:List UInt8):((eat s).2.2=0 → (getF (eat s).2.1).2.2=3 ∧ (eat s).2.1.length ≤ s.length) ∧ ((eat s).2.2 ≠ 0 → (eat s).2.1=[]) ∧ (eat s).1.length ≤ s.length ∧ ∀ g ∈ (eat s).1,g.Pairs.length ≤ s.length:=by
 refine aEJ (P:=fun s=>((eat s).2.2=0 → (getF (eat s).2.1).2.2=3 ∧ (eat s).2.1.length ≤ s.length) ∧ ((eat s).2.2 ≠ 0 → (eat s).2.1=[]) ∧ (eat s).1.length ≤ s.length ∧ ∀ g ∈ (eat s).1,g.Pairs.length ≤ s.length) ?_ s
 intro s ih
 by_cases h:(getF s).2.2=0
 · have h3:=pY h
   have hp:=aC0 s
   obtain ⟨i1,i2,i3,i4⟩:=ih h
   have hd:(s.drop (getF s).2.1.toNat).length=s.length - (getF s).2.1.toNat:=List.length_drop
   rw [hd] at i3 i4
   rw [aBV h]
   refine ⟨fun e=>⟨(i1 e).1,by have:=(i1 e).2; rw [hd] at this; exact Nat.le_trans this (Nat.sub_le _ _)⟩,i2,by rw [List.length_cons]; omega,fun g hg=>?_⟩
   rcases List.mem_cons.1 hg with rfl | hg
   · exact hp.1
   · have:=i4 g hg; omega
 · by_cases h3:(getF s).2.2=3
   · rw [tO h3]; simp [h3]
   · rw [aAW h h3]; simp [h]

def stOf (s:List UInt8):cE:=⟨(eat s).2.1,(eat s).2.2,((eat s).1.length:Int)⟩
theorem zK {s:List UInt8} (hs:s.length ≤ 1000000):kH (stOf s)=some 0:=by
 obtain ⟨h1,h2,h3,_⟩:=aBW s
 unfold kH stOf
 simp only [gI]
 by_cases hb:(eat s).2.2=0
 · obtain ⟨h4,h5⟩:=h1 hb
   have h6:=aBQ h4
   rw [decide_eq_true hb,get_F (by omega),dI,h4,decide_eq_false (show ¬ 80 < ((eat s).2.1.length:Int) by omega),decide_eq_false (show ¬ ((eat s).1.length:Int) < 0 by omega)]
   rfl
 · rw [decide_eq_false hb,h2 hb,get_F (by simp),dI,decide_eq_false (show ¬ ((eat s).1.length:Int) < 0 by omega)]
   rfl
theorem aEF (a:cE):∀ (k:Nat) (s:List UInt8) (n:Nat) (acc:List aH),s.length < k → acc.length + s.length ≤ 1000000 → n + s.length ≤ 1000000 →
 iH a k s (n:Int) acc=some (⟨(eat s).2.1,if (eat s).2.2=0 then a.Bad else (eat s).2.2,((n + (eat s).1.length:Nat):Int)⟩,acc ++ (eat s).1):=by
 intro k
 induction k with
 | zero=>intro s n acc h; omega
 | succ k ih =>
   intro s n acc hk hl hn
   unfold iH jT
   rw [get_F (by omega),dI]
   simp only [gI]
   by_cases h:(getF s).2.2=0
   · have h3:=pY h
     have hd:(s.drop (getF s).2.1.toNat).length=s.length - (getF s).2.1.toNat:=List.length_drop
     rw [decide_eq_true h,cond_true,aBY (by omega) h3.2.2.1,dI,w64 (by omega) (by omega),jY (by simp; omega) (by simp; omega),dI]
     simp only [Bool.not_true,cond_false]
     rw [show (n:Int) + 1=((n + 1:Nat):Int) by omega,ih _ (n + 1) _ (by omega) (by simp; omega) (by omega),aBV h]
     simp only [List.append_assoc,List.cons_append,List.nil_append,List.length_cons]
     congr 3; congr 1; omega
   · rw [decide_eq_false h,cond_false]
     by_cases h3:(getF s).2.2=3
     · rw [decide_eq_true h3,tO h3]; simp
     · rw [decide_eq_false h3,aAW h h3]; simp [h]
theorem st0:(⟨[],0,0⟩:cE)=stOf []:=by
 unfold stOf; rw [tO rfl]; rfl
theorem aB3 {a:List aH} (ha:a.length ≤ 1000000):∀ (k i:Nat),a.length - i < k → i ≤ a.length → eU a k (a.take i) (i:Int)=some a:=by
 intro k
 induction k with
 | zero=>intro i h; omega
 | succ k ih =>
   intro i hk hi
   unfold eU
   simp only [gI]
   by_cases hc:i < a.length
   · rw [decide_eq_true (by omega),cond_true,lM,List.getElem?_eq_getElem hc,dI,jY (by simp; omega) (by simp; omega),dI,sS hc (by omega),← List.take_succ_eq_append_getElem hc]
     exact ih (i + 1) (by omega) (by omega)
   · have:i=a.length:=by omega
     subst this
     rw [decide_eq_false (by omega),cond_false,List.take_length]
theorem aED {a:List aH} (ha:a.length ≤ 1000000):gK a=some a:=aB3 ha fuel 0 (eM (by omega)) (Nat.zero_le _)
theorem aAt {a:List aH} (ha:a.length ≤ 1000000) (hp:∀ g ∈ a,g.Pairs.length ≤ 1000000):∀ (k i:Nat),a.length - i < k → i ≤ a.length → eO a a k (i:Int)=some true:=by
 intro k
 induction k with
 | zero=>intro i h; omega
 | succ k ih =>
   intro i hk hi
   unfold eO
   simp only [gI]
   by_cases hc:i < a.length
   · have hm:=hp _ (List.getElem_mem hc)
     rw [decide_eq_true (by omega),cond_true,lM,List.getElem?_eq_getElem hc,dI,dI,aEp hm hm,dI]
     simp only [decide_true,Bool.not_true,cond_false]
     rw [sS hc (by omega)]
     exact ih (i + 1) (by omega) (by omega)
   · rw [decide_eq_false (by omega),cond_false]
theorem yU {a:List aH} (ha:a.length ≤ 1000000) (hp:∀ g ∈ a,g.Pairs.length ≤ 1000000):gA a a=some true:=by
 unfold gA
 simp only [gI,decide_true,Bool.not_true,cond_false]
 exact aAt ha hp fuel 0 (eM (by omega)) (Nat.zero_le _)
end Go.Fn
open Go Go.IL
namespace Go.Fn

end Go.Fn
open Go Go.IL
namespace Go.Fn

structure Fine (f:aH):Prop where
 k0:0 ≤ f.Kind
 k1:f.Kind ≤ 255
 ok:chkF f=0
def cats (l:List aH):List UInt8:=l.flatMap fun f=>(putF f).1
theorem put_pos {f:aH} (h:Fine f):0 < (putF f).1.length ∧ (putF f).1.length ≤ 76:=by
 have hg:=aAY h.ok
 have hl:=hg.pay_le
 have hv:=tS ((pay f).length:Int)
 unfold putF
 rw [if_pos h.ok]
 simp
 omega
theorem eat_put {f:aH} (h:Fine f) (t:List UInt8):eat ((putF f).1 ++ t)=(f :: (eat t).1,(eat t).2):=by
 have hb:=aFI h.k0 h.k1 h.ok t
 rw [aBV (by rw [hb]),hb]
 simp only [Int.toNat_natCast,List.drop_left]
theorem aAV:∀ (l:List aH),(∀ f ∈ l,Fine f) → eat (cats l)=(l,[],0)
 | [],_=>tO rfl
 | f :: l,h=>by
   have:cats (f :: l)=(putF f).1 ++ cats l:=rfl
   rw [this,eat_put (h f (by simp)),aAV l (fun g hg=>h g (by simp [hg]))]
end Go.Fn
open Go Go.IL
namespace Go.Fn
theorem iF {α:Type} {l p r:List α} {x:α} (h:l=p ++ x :: r):gix l (p.length:Int)=some x:=by
 subst h; rw [lM,List.getElem?_append_right (Nat.le_refl _)]; simp
theorem nO {α:Type} {l p r:List α} {x:α} (h:l=p ++ x :: r):decide ((p.length:Int) < (l.length:Int))=true:=by
 subst h; simp; omega
theorem uJ {α:Type} {l p:List α} (h:l=p ++ []):decide ((p.length:Int) < (l.length:Int))=false:=by
 subst h; simp
theorem sX {α:Type} {l:List α}:decide ((l.length:Int) < (l.length:Int))=false:=by simp
theorem w_at {α:Type} {l p r:List α} {x:α} (h:l=p ++ x :: r) (hl:l.length ≤ 1000000):IntKind.wrap .i64 ((p.length:Int) + 1)=((p ++ [x]).length:Int):=by
 subst h; simp only [List.length_append,List.length_cons,List.length_nil] at hl ⊢; rw [w64 (by omega) (by omega)]; omega
theorem kS {α:Type} {l p r:List α} {x:α} (h:l=p ++ x :: r):l=(p ++ [x]) ++ r:=by rw [h]; simp
theorem tf:(true == false)=false:=rfl
theorem ft:(false == true)=false:=rfl
theorem aFG {α:Type} {l p r:List α} {x y:α} (h:l=(p ++ [x]) ++ y :: r) (hl:l.length ≤ 1000000):gix l (IntKind.wrap .i64 (((p ++ [x]).length:Int) - 1))=some x:=by
 have hp:p.length ≤ 1000000:=by rw [h] at hl; simp at hl; omega
 rw [show ((p ++ [x]).length:Int) - 1=(p.length:Int) by simp,w64 (by omega) (by omega)]
 exact iF (r:=y :: r) (by rw [h]; simp)
theorem aEO {α:Type} {l p r:List α} (h:l=p ++ r):cut l 0 (p.length:Int)=some p:=by
 subst h; unfold cut; rw [if_pos (by simp; omega)]; simp
theorem aFQ {α:Type} {l p r:List α} (h:l=p ++ r):cut l (p.length:Int) (l.length:Int)=some r:=by
 subst h; unfold cut; rw [if_pos (by simp; omega),Int.toNat_natCast,Int.toNat_natCast,List.take_length,List.drop_left]
theorem wQ {α:Type} {L:Nat → Int → Option Int} {l:List α} {q:α → Bool}
 (h1:∀ p x r f,l=p ++ x :: r → L (f + 1) (p.length:Int)=bif q x then some (p.length:Int) else L f ((p ++ [x]).length:Int)) (h0:∀ f,L (f + 1) (l.length:Int)=some (-1)) :
 ∀ (r p:List α) (f:Nat),l=p ++ r → r.length < f → (∀ y ∈ p,q y=false) →
   (L f (p.length:Int)=some (-1) ∧ ∀ y ∈ l,q y=false) ∨ ∃ a x t,l=a ++ x :: t ∧ (∀ y ∈ a,q y=false) ∧ q x=true ∧ L f (p.length:Int)=some (a.length:Int)
 | [],p,f + 1,h,_,ha=>by
   left
   rw [List.append_nil] at h
   subst h
   exact ⟨h0 f,ha⟩
 | y :: r,p,f + 1,h,hf,ha=>by
   rw [h1 p y r f h]
   rcases Bool.eq_false_or_eq_true (q y) with hb | hb
   · right; exact ⟨p,y,r,h,ha,hb,by rw [hb]; rfl⟩
   · rw [hb,cU]
     exact wQ h1 h0 r (p ++ [y]) f (kS h) (by simpa using hf) (fun z hz=>by
      rcases List.mem_append.1 hz with hz | hz
      · exact ha z hz
      · rw [List.mem_singleton.1 hz]; exact hb)
theorem aFD {α:Type} {L:Nat → Int → Option Int} {l:List α} {q:α → Bool} (hl:l.length ≤ 1000000)
 (h1:∀ p x r f,l=p ++ x :: r → L (f + 1) (p.length:Int)=bif q x then some (p.length:Int) else L f ((p ++ [x]).length:Int)) (h0:∀ f,L (f + 1) (l.length:Int)=some (-1)) :
 ∃ k:Int,L fuel 0=some k ∧ decide (0 ≤ k)=l.any q:=by
 rcases wQ h1 h0 l [] fuel rfl (eM (by omega)) (fun _ h=>(List.not_mem_nil h).elim) with ⟨h2,h3⟩ | ⟨a,x,t,h2,h3,h4,h5⟩
 · refine ⟨-1,h2,?_⟩
   symm
   have:l.any q=false:=by rw [List.any_eq_false]; intro y hy; rw [h3 y hy]; decide
   rw [this]; rfl
 · refine ⟨a.length,h5,?_⟩
   have:l.any q=true:=List.any_eq_true.2 ⟨x,by rw [h2]; simp,h4⟩
   rw [this]; exact decide_eq_true (by omega)
theorem aAX {α:Type} {L:Nat → List α → Int → Int → Option (List α)} {q:α → Bool}
 (h1:∀ (f:Nat) (l:List α) (i j:Nat) (x:α),l.length ≤ 100000 → i ≤ j → j < l.length → l[j]? = some x → L (f + 1) l (i:Int) (j:Int)=bif !q x then L f (l.set i x) ((i + 1:Nat):Int) ((j + 1:Nat):Int) else L f l (i:Int) ((j + 1:Nat):Int))
 (h0:∀ (f:Nat) (l:List α) (i:Nat),i ≤ l.length → L (f + 1) l (i:Int) (l.length:Int)=some (l.take i)) :
 ∀ (r k m:List α) (f:Nat),k.length + m.length + r.length ≤ 100000 → r.length < f →
   L f (k ++ m ++ r) (k.length:Int) ((k.length + m.length:Nat):Int)=some (k ++ r.filter fun y=>!q y)
 | [],k,m,f + 1,hl,_=>by
   have:=h0 f (k ++ m) k.length (by simp)
   rw [List.append_nil,show ((k.length + m.length:Nat):Int)=((k ++ m).length:Int) by simp,this]; simp
 | y :: r,k,m,f + 1,hl,hf=>by
   simp only [List.length_cons] at hl hf
   have hy:(k ++ m ++ y :: r)[k.length + m.length]? = some y:=by
    rw [List.getElem?_append_right (by simp)]; simp
   have hlen:(k ++ m ++ y :: r).length=k.length + m.length + (r.length + 1):=by simp; omega
   rw [h1 f (k ++ m ++ y :: r) k.length (k.length + m.length) y (by omega) (by omega) (by omega) hy]
   rcases Bool.eq_false_or_eq_true (q y) with hb | hb
   · rw [hb,Bool.not_true,cU,List.filter_cons_of_neg (by simp [hb])]
     have:=aAX h1 h0 r k (m ++ [y]) f (by simp; omega) (by omega)
     rw [show k ++ m ++ y :: r=k ++ (m ++ [y]) ++ r by simp,← this]; congr 1; simp; omega
   · rw [hb,Bool.not_false,dS,List.filter_cons_of_pos (by simp [hb])]
     obtain ⟨m2,h3,h2⟩:∃ m2:List α,m2.length=m.length ∧ (k ++ m ++ y :: r).set k.length y=k ++ [y] ++ m2 ++ r:=by
      rw [List.append_assoc k m,List.set_append_right _ _ (Nat.le_refl _),Nat.sub_self]
      cases m with
      | nil=>exact ⟨[],rfl,by simp⟩
      | cons a m=>exact ⟨m ++ [y],by simp,by simp⟩
     rw [h2]
     have:=aAX h1 h0 r (k ++ [y]) m2 f (by simp; omega) (by omega)
     rw [show k ++ y :: List.filter (fun y=>!q y) r=k ++ [y] ++ List.filter (fun y=>!q y) r by simp,← this]
     congr 1 <;> simp <;> omega
theorem aFO {α:Type} {I:Nat → Int → Option Int} {L:Nat → List α → Int → Int → Option (List α)} {l:List α} {q:α → Bool} (hl:l.length ≤ 100000)
 (i1:∀ p x r f,l=p ++ x :: r → I (f + 1) (p.length:Int)=bif q x then some (p.length:Int) else I f ((p ++ [x]).length:Int)) (i0:∀ f,I (f + 1) (l.length:Int)=some (-1))
 (h1:∀ (f:Nat) (l:List α) (i j:Nat) (x:α),l.length ≤ 100000 → i ≤ j → j < l.length → l[j]? = some x → L (f + 1) l (i:Int) (j:Int)=bif !q x then L f (l.set i x) ((i + 1:Nat):Int) ((j + 1:Nat):Int) else L f l (i:Int) ((j + 1:Nat):Int))
 (h0:∀ (f:Nat) (l:List α) (i:Nat),i ≤ l.length → L (f + 1) l (i:Int) (l.length:Int)=some (l.take i)) :
 (bno (I fuel 0) fun x1=>bnd (decide (x1=(-1))) fun x2=>bif x2 then some l else bnd (IntKind.wrap .i64 (x1 + 1)) fun x4=>L fuel l x1 x4)=some (l.filter fun y=>!q y):=by
 rcases wQ i1 i0 l [] fuel rfl (eM (by omega)) (fun _ h=>(List.not_mem_nil h).elim) with ⟨e1,e2⟩ | ⟨a,x,t,e1,e2,e3,e4⟩
 · have e1:I fuel 0=some (-1):=e1
   rw [e1,bnoS]
   simp only [bndD,decide_true,dS]
   rw [List.filter_eq_self.2 (fun y hy=>by rw [e2 y hy]; rfl)]
 · have e4:I fuel 0=some (a.length:Int):=e4
   have hql:a.length + (t.length + 1) ≤ 100000:=by rw [e1] at hl; simpa using hl
   rw [e4,bnoS]
   simp only [bndD,decide_eq_false (show ¬ (a.length:Int) = -1 by omega),cU]
   rw [w64 (by omega) (by omega)]
   have:=aAX h1 h0 t a [x] fuel (by simp; omega) (eM (by omega))
   rw [e1,List.filter_append,List.filter_cons_of_neg (by simp [e3]),List.filter_eq_self.2 (fun y hy=>by rw [e2 y hy]; rfl),← this]
   congr 1; simp
theorem aBU {α:Type} [DecidableEq α] {L:Nat → Int → Option Bool} {l m:List α} (hm:l.length=m.length)
 (h1:∀ p x r s y t f,l=p ++ x :: r → m=s ++ y :: t → p.length=s.length → L (f + 1) (p.length:Int)=bif !decide (x=y) then some false else L f ((p ++ [x]).length:Int)) {z:Bool} (h0:∀ f,L (f + 1) (l.length:Int)=some z) :
 ∀ (r t p s:List α) (f:Nat),l=p ++ r → m=s ++ t → p.length=s.length → r.length < f → L f (p.length:Int)=some (decide (r=t) && z)
 | [],[],p,s,f + 1,h,k,e,_=>by
   rw [List.append_nil] at h
   subst h
   rw [h0]; simp
 | [],y :: t,p,s,f + 1,h,k,e,_=>by rw [h,k] at hm; simp at hm; omega
 | x :: r,[],p,s,f + 1,h,k,e,_=>by rw [h,k] at hm; simp at hm; omega
 | x :: r,y :: t,p,s,f + 1,h,k,e,hf=>by
   rw [h1 p x r s y t f h k e]
   by_cases hx:x=y
   · subst hx
     rw [decide_eq_true rfl,Bool.not_true,cU]
     have:=aBU hm h1 h0 r t (p ++ [x]) (s ++ [x]) f (kS h) (kS k) (by simp [e]) (by simpa using hf)
     rw [this]; simp
   · rw [decide_eq_false hx,Bool.not_false,dS]; simp [hx]
theorem aEG {α:Type} [DecidableEq α] {L:Nat → Int → Option Bool} {l m:List α} (hl:l.length ≤ 1000000)
 (h1:∀ p x r s y t f,l=p ++ x :: r → m=s ++ y :: t → p.length=s.length → L (f + 1) (p.length:Int)=bif !decide (x=y) then some false else L f ((p ++ [x]).length:Int)) {z:Bool} (h0:l.length=m.length → ∀ f,L (f + 1) (l.length:Int)=some z) :
 (bnd (!decide ((l.length:Int)=(m.length:Int))) fun x1=>bif x1 then some false else L fuel 0)=some (decide (l=m) && z):=by
 by_cases hm:l.length=m.length
 · simp only [bndD,decide_eq_true (show (l.length:Int)=(m.length:Int) by omega),Bool.not_true,cU]
   exact aBU hm h1 (h0 hm) l m [] [] fuel rfl rfl rfl (eM (by omega))
 · simp only [bndD,decide_eq_false (show ¬ (l.length:Int)=(m.length:Int) by omega),Bool.not_false,dS]
   rw [decide_eq_false (fun h=>hm (by rw [h]))]; rfl
theorem qZ {α:Type} {P:α → Option Bool} {q:α → Bool} (hP:∀ x,P x=some (q x)) {I:Nat → Int → Option Int} {l:List α}
 (hI:∀ f v,I (f + 1) v=bnd (decide (v < (l.length:Int))) fun x14=>bif x14 then (bno (gix l v) fun x16=>bno (P x16) fun x17=>bif x17 then some v else (bnd (IntKind.wrap .i64 (v + 1)) fun x19=>I f x19)) else some (-1))
 (hl:l.length ≤ 1000000):(bno (I fuel 0) fun x1=>bnd (decide (0 ≤ x1)) fun x2=>some x2)=some (l.any q):=by
 obtain ⟨k,h1,h2⟩:=aFD (L:=I) (q:=q) hl (fun p x r f h=>by
  rw [hI]; simp only [bndD,nO h,dS,iF h,bnoS,hP,w_at h hl]) (fun f=>by rw [hI]; simp only [bndD,sX,cU])
 rw [h1,bnoS,bndD,h2]
theorem tA {α:Type} {P:α → Option Bool} {q:α → Bool} (hP:∀ x,P x=some (q x)) {I:Nat → Int → Option Int} {L:Nat → List α → Int → Int → Option (List α)} {l:List α}
 (hI:∀ f v,I (f + 1) v=bnd (decide (v < (l.length:Int))) fun x14=>bif x14 then (bno (gix l v) fun x16=>bno (P x16) fun x17=>bif x17 then some v else (bnd (IntKind.wrap .i64 (v + 1)) fun x19=>I f x19)) else some (-1))
 (hL:∀ f a b c,L (f + 1) a b c=bnd (decide (c < (a.length:Int))) fun x32=>bif x32 then (bno (gix a c) fun x34=>bno (a[(c:Int).toNat]?) fun x35=>bno (P x35) fun x36=>bif (!x36) then (bno (gix a b) fun x38=>bno (a[(b:Int).toNat]?) fun x39 =>
   bnd (a.set ((b:Int).toNat) x35) fun x40=>bnd (IntKind.wrap .i64 (b + 1)) fun x41=>bnd (IntKind.wrap .i64 (c + 1)) fun x42=>L f x40 x41 x42) else (bnd (IntKind.wrap .i64 (c + 1)) fun x43=>L f a b x43)) else (bno (cut a 0 b) fun x44=>bno (cut x44 0 b) fun x45=>some x45))
 (hl:l.length ≤ 100000):(bno (I fuel 0) fun x1=>bnd (decide (x1=(-1))) fun x2=>bif x2 then some l else bnd (IntKind.wrap .i64 (x1 + 1)) fun x4=>L fuel l x1 x4)=some (l.filter fun y=>!q y):=by
 refine aFO hl (fun p x r f h=>by
  rw [hI]; simp only [bndD,nO h,dS,iF h,bnoS,hP,w_at h (show l.length ≤ 1000000 by omega)]) (fun f=>by rw [hI]; simp only [bndD,sX,cU]) (fun f a i j x ha hij hj hx=>?_) (fun f a i hi=>?_)
 · rw [hL]
   have hi:i < a.length:=by omega
   simp only [bndD,decide_eq_true (show (j:Int) < (a.length:Int) by omega),dS,lM,hx,bnoS,Int.toNat_natCast,hP,List.getElem?_eq_getElem hi,w64 (show -9223372036854775808 ≤ (j:Int) + 1 by omega) (by omega),w64 (show -9223372036854775808 ≤ (i:Int) + 1 by omega) (by omega)]
   rfl
 · rw [hL]
   have e:(a.take i).length=i:=by rw [List.length_take]; omega
   simp only [bndD,sX,cU]
   have h1:=aEO (l:=a) (List.take_append_drop i a).symm
   have h2:=aEO (l:=a.take i) (p:=a.take i) (r:=[]) (by simp)
   rw [e] at h1 h2
   rw [h1,bnoS,h2,bnoS]
theorem aCP {α:Type} {l:List α} {i:Nat} (h:i ≤ l.length):cut l 0 (i:Int)=some (l.take i):=by
 have h1:=aEO (l:=l) (List.take_append_drop i l).symm
 rwa [show (l.take i).length=i by rw [List.length_take]; omega] at h1
end Go.Fn
open Go Go.IL
namespace Go.Fn
abbrev Iv:=aI
abbrev Pc:=aL
abbrev S23:=aY
def mem (n:Int) (s:List Iv):Prop:=∃ x ∈ s,x.From ≤ n ∧ n < x.To
def mayB (x:Iv):Bool:=(decide (0 ≤ x.From) && decide (x.From ≤ 4611686018427387903)) && (decide (0 ≤ x.To) && decide (x.To ≤ 4611686018427387903))
theorem aCH (x:Iv):gZ x=some (mayB x):=by
 unfold gZ rT mayB
 simp only [bndD,bnoS]
 cases decide (0 ≤ x.From) && decide (x.From ≤ 4611686018427387903) <;> rfl
theorem tL (x:Iv):fS x=some (decide (x.To ≤ x.From)):=rfl
structure VS (s:List Iv):Prop where
 pw:s.Pairwise (fun x y=>x.To < y.From)
 ne:∀ x ∈ s,x.From < x.To
 lo:∀ x ∈ s,0 ≤ x.From
 hi:∀ x ∈ s,x.To ≤ 4398046511104
theorem VS.nil:VS []:=⟨.nil,fun _ h=>(List.not_mem_nil h).elim,fun _ h=>(List.not_mem_nil h).elim,fun _ h=>(List.not_mem_nil h).elim⟩
theorem aAh:∀ {s:List Iv} {a b:Int},s.Pairwise (fun x y=>x.To < y.From) → (∀ x ∈ s,x.From < x.To) → (∀ x ∈ s,a ≤ x.From ∧ x.To ≤ b) → a ≤ b → (s.length:Int) ≤ b - a
 | [],a,b,_,_,_,h=>by simp; omega
 | x :: s,a,b,hp,hn,hb,hab=>by
   have hp:=List.pairwise_cons.1 hp
   have h1:=hn x (by simp)
   have h2:=hb x (by simp)
   have:=aAh (s:=s) (a:=x.To) (b:=b) hp.2 (fun y hy=>hn y (by simp [hy])) (fun y hy=>⟨by have:=hp.1 y hy; omega,(hb y (by simp [hy])).2⟩) h2.2
   simp only [List.length_cons]; omega
theorem aCL {s:List Iv} (hl:s.length ≤ 1000000) (hp:s.Pairwise (fun x y=>x.To < y.From)):∀ (r p:List Iv) (x:Iv) (f:Nat),s=(p ++ [x]) ++ r → r.length < f → gD s f ((p ++ [x]).length:Int)=some 0
 | [],p,x,f + 1,h,_=>by
   unfold gD
   simp only [bndD,uJ h,cU]
 | y :: r,p,x,f + 1,h,hf=>by
   unfold gD
   have hxy:x.To < y.From:=by
    rw [h] at hp
    exact (List.pairwise_append.1 hp).2.2 x (by simp) y (by simp)
   simp only [bndD,nO h,dS,aFG h hl,iF h,bnoS,decide_eq_false (show ¬ y.From ≤ x.To by omega),cU,w_at h hl]
   exact aCL hl hp r (p ++ [x]) y f (kS h) (by simpa using hf)
theorem uW {s:List Iv} (hl:s.length ≤ 100000) (h:VS s):lC s=some 0:=by
 unfold lC
 have h1:dL s=some (s.any (fun x=>!mayB x)):=by
  have hc:∀ x:Iv,mM (⟨x.From,x.To⟩:Iv)=some (!mayB x):=fun x=>by unfold mM; rw [aCH,bnoS]
  have hI:∀ f v,cD s (f + 1) v=bnd (decide (v < (s.length:Int))) fun x14=>bif x14 then (bno (gix s v) fun x16=>bno (some (!mayB x16)) fun x17=>bif x17 then some v else (bnd (IntKind.wrap .i64 (v + 1)) fun x19=>cD s f x19)) else some (-1):=fun f v=>by
   rw [cD]
   simp only [hc]
  exact qZ (P:=fun x:Iv=>some (!mayB x)) (fun _=>rfl) hI (by omega)
 have h2:dU s=some (s.any (fun x=>decide (x.To ≤ x.From))):=by
  have hI:∀ f v,cI s (f + 1) v=bnd (decide (v < (s.length:Int))) fun x14=>bif x14 then (bno (gix s v) fun x16=>bno (some (decide (x16.To ≤ x16.From))) fun x17=>bif x17 then some v else (bnd (IntKind.wrap .i64 (v + 1)) fun x19=>cI s f x19)) else some (-1):=fun f v=>by
   rw [cI]
   simp only [tL]
  exact qZ (P:=fun x:Iv=>some (decide (x.To ≤ x.From))) (fun _=>rfl) hI (by omega)
 have e1:s.any (fun x=>!mayB x)=false:=by
  rw [List.any_eq_false]; intro x hx
  have a1:=h.lo x hx
  have a2:=h.hi x hx
  have a3:=h.ne x hx
  unfold mayB; simp; omega
 have e2:s.any (fun x=>decide (x.To ≤ x.From))=false:=by
  rw [List.any_eq_false]; intro x hx
  have a3:=h.ne x hx
  simp; omega
 rw [h1,e1,bnoS,cU,h2,e2,bnoS,cU]
 cases hs:s with
 | nil =>
   have hf:fuel=18446744073709551615 + 1:=rfl
   rw [hf]; rfl
 | cons x r =>
   have h3:s=([] ++ [x]) ++ r:=hs
   have:=aCL (by omega) h.pw r [] x fuel h3 (eM (by rw [hs] at hl; simp at hl; omega))
   have this:gD s fuel 1=_:=this
   rw [← hs]; exact this
theorem aFr {l:List Iv} (hl:l.length ≤ 100000):dM l=some l:=by
 unfold dM
 have h:(bno (app 16 ([]:(List Iv)) l) fun x3=>some x3)=some l:=by
  rw [jY (by simp; omega) (by simp; omega),bnoS,List.nil_append]
 rw [h,sL]
 rintro rfl; rfl
theorem iclone2 {l:List Iv} (hl:l.length ≤ 100000):eA l=some l:=by
 unfold eA
 have h:(bno (app 16 ([]:(List Iv)) l) fun x3=>some x3)=some l:=by
  rw [jY (by simp; omega) (by simp; omega),bnoS,List.nil_append]
 rw [h,sL]
 rintro rfl; rfl
def oV (y x:Iv):List Iv:=(if y.From < min y.To x.From then [⟨y.From,min y.To x.From⟩] else []) ++ (if max y.From x.To < y.To then [⟨max y.From x.To,y.To⟩] else [])
def cutS (s:List Iv) (x:Iv):List Iv:=s.flatMap fun y=>oV y x
theorem xT {y x z:Iv} (h:z ∈ oV y x):y.From ≤ z.From ∧ z.To ≤ y.To ∧ z.From < z.To ∧ (z.To ≤ x.From ∨ x.To ≤ z.From):=by
 unfold oV at h
 rcases List.mem_append.1 h with h | h
 · split at h
   · rw [List.mem_singleton.1 h]; refine ⟨Int.le_refl _,?_,?_,.inl ?_⟩ <;> simp only [] <;> omega
   · exact (List.not_mem_nil h).elim
 · split at h
   · rw [List.mem_singleton.1 h]; refine ⟨?_,Int.le_refl _,?_,.inr ?_⟩ <;> simp only [] <;> omega
   · exact (List.not_mem_nil h).elim
theorem aDf {y x:Iv} {n:Int} (h1:y.From ≤ n ∧ n < y.To) (h2:¬ (x.From ≤ n ∧ n < x.To)) (hx:x.From < x.To):∃ z ∈ oV y x,z.From ≤ n ∧ n < z.To:=by
 unfold oV
 by_cases h:n < x.From
 · refine ⟨⟨y.From,min y.To x.From⟩,?_,by simp only []; omega⟩
   rw [List.mem_append]; left; rw [if_pos (by omega)]; simp
 · refine ⟨⟨max y.From x.To,y.To⟩,?_,by simp only []; omega⟩
   rw [List.mem_append]; right; rw [if_pos (by omega)]; simp
theorem aEw (y x:Iv) (hx:x.From < x.To):(oV y x).Pairwise (fun a b=>a.To < b.From):=by
 unfold oV
 rw [List.pairwise_append]
 refine ⟨by split <;> simp,by split <;> simp,fun a ha b hb=>?_⟩
 split at ha
 · split at hb
   · rw [List.mem_singleton.1 ha,List.mem_singleton.1 hb]; show min y.To x.From < max y.From x.To; omega
   · exact (List.not_mem_nil hb).elim
 · exact (List.not_mem_nil ha).elim
theorem aDg (y x:Iv):(oV y x).length ≤ 2:=by unfold oV; rw [List.length_append]; (repeat' split) <;> simp
theorem sK {s:List Iv} {x z:Iv} (h:z ∈ cutS s x):∃ y ∈ s,y.From ≤ z.From ∧ z.To ≤ y.To ∧ z.From < z.To ∧ (z.To ≤ x.From ∨ x.To ≤ z.From):=by
 obtain ⟨y,hy,hz⟩:=List.mem_flatMap.1 h
 exact ⟨y,hy,xT hz⟩
theorem aEP {s:List Iv} {x:Iv} (h:VS s) (hx:x.From < x.To):VS (cutS s x):=by
 refine ⟨?_,fun z hz=>?_,fun z hz=>?_,fun z hz=>?_⟩
 · unfold cutS
   rw [List.pairwise_flatMap]
   refine ⟨fun y _=>aEw y x hx,h.pw.imp fun {a b} hab z hz w hw=>?_⟩
   have h1:=xT hz
   have h2:=xT hw
   omega
 · obtain ⟨y,hy,h1,h2,h3,_⟩:=sK hz; exact h3
 · obtain ⟨y,hy,h1,h2,h3,_⟩:=sK hz; have:=h.lo y hy; omega
 · obtain ⟨y,hy,h1,h2,h3,_⟩:=sK hz; have:=h.hi y hy; omega
theorem aCQ {s:List Iv} {x:Iv} (hx:x.From < x.To) {n:Int}:mem n (cutS s x) ↔ mem n s ∧ ¬ (x.From ≤ n ∧ n < x.To):=by
 constructor
 · rintro ⟨z,hz,h1,h2⟩
   obtain ⟨y,hy,a1,a2,a3,a4⟩:=sK hz
   exact ⟨⟨y,hy,by omega,by omega⟩,by omega⟩
 · rintro ⟨⟨y,hy,h1⟩,h2⟩
   obtain ⟨z,hz,h3⟩:=aDf h1 h2 hx
   exact ⟨z,List.mem_flatMap.2 ⟨y,hy,hz⟩,h3⟩
theorem aCR (x:Iv):∀ (s:List Iv),(cutS s x).length ≤ 2 * s.length
 | []=>Nat.le_refl _
 | y :: s=>by
   have h1:=aCR x s
   have h2:=aDg y x
   show (oV y x ++ cutS s x).length ≤ _
   rw [List.length_append,List.length_cons]; omega
theorem aEQ {s:List Iv} {x:Iv} (h:∀ y ∈ s,y.From < y.To ∧ (y.To ≤ x.From ∨ x.To ≤ y.From)) (hx:x.From < x.To):cutS s x=s:=by
 induction s with
 | nil=>rfl
 | cons y s ih =>
   have h1:=h y (by simp)
   show oV y x ++ cutS s x=y :: s
   rw [ih (fun z hz=>h z (by simp [hz]))]
   have:oV y x=[y]:=by
    unfold oV
    rcases h1.2 with h2 | h2
    · rw [if_pos (by omega),if_neg (by omega),show min y.To x.From=y.To by omega]; rfl
    · rw [if_neg (by omega),if_pos (by omega),show max y.From x.To=y.From by omega]; rfl
   rw [this]; rfl
theorem cut_one {x:Iv} {k:Int} {kk0:Int → List Iv → Option (List Iv)} (y:Iv) (acc:List Iv) (n:Nat) (ha:acc.length ≤ 100000) :
 fZ k kk0 y (min y.To x.From) (max y.From x.To) (n + 3) 0 acc=kk0 (IntKind.wrap .i64 (k + 1)) (acc ++ oV y x):=by
 have w0:IntKind.wrap .i64 (0 + 1)=1:=rfl
 have w1:IntKind.wrap .i64 (1 + 1)=2:=rfl
 have g0:∀ a b:Iv,gix [a,b] 0=some a:=fun _ _=>rfl
 have g1:∀ a b:Iv,gix [a,b] 1=some b:=fun _ _=>rfl
 unfold oV
 have e2:∀ (m:Nat) (a:List Iv),fZ k kk0 y (min y.To x.From) (max y.From x.To) (m + 1) 2 a=kk0 (IntKind.wrap .i64 (k + 1)) a:=fun m a=>by
  rw [fZ]
  simp only [bndD,show decide ((2:Int) < 2)=false from rfl,cU]
 have e1:∀ (m:Nat) (a:List Iv),a.length ≤ 100001 → fZ k kk0 y (min y.To x.From) (max y.From x.To) (m + 2) 1 a=kk0 (IntKind.wrap .i64 (k + 1)) (a ++ if max y.From x.To < y.To then [⟨max y.From x.To,y.To⟩] else []):=fun m a hal=>by
  rw [fZ]
  simp only [bndD,show decide ((1:Int) < 2)=true from rfl,dS,g1,bnoS,tL]
  by_cases h:max y.From x.To < y.To
  · rw [decide_eq_false (by omega),if_pos h]
    simp only [Bool.not_false,beq_self_eq_true,dS,Bool.not_true,Bool.and_false,cU,w1]
    rw [jY (by simp; omega) (by simp; omega),bnoS,e2 m]
  · rw [decide_eq_true (by omega),if_neg h,List.append_nil]
    simp only [Bool.not_true,ft,cU,Bool.not_false,Bool.and_true,w1,e2 m]
 rw [fZ]
 simp only [bndD,show decide ((0:Int) < 2)=true from rfl,dS,g0,bnoS,tL]
 by_cases h:y.From < min y.To x.From
 · rw [decide_eq_false (by omega),if_pos h]
   simp only [Bool.not_false,beq_self_eq_true,dS,Bool.not_true,Bool.and_false,cU,w0]
   rw [jY (by simp; omega) (by simp; omega),bnoS,e1 n _ (by simp; omega),List.append_assoc]
 · rw [decide_eq_true (by omega),if_neg h,List.nil_append]
   simp only [Bool.not_true,ft,cU,Bool.not_false,Bool.and_true,w0]
   rw [e1 n _ (by omega)]
theorem cut_L {s:List Iv} {x:Iv} (hl:s.length ≤ 20000):∀ (r p:List Iv) (f:Nat),s=p ++ r → r.length < f → iZ s x f (p.length:Int) (cutS p x)=some (cutS s x)
 | [],p,f + 1,h,_=>by
   unfold iZ
   simp only [bndD,uJ h,cU]
   rw [List.append_nil] at h; rw [h]
 | y :: r,p,f + 1,h,hf=>by
   unfold iZ
   have hp:p.length + (r.length + 1)=s.length:=by rw [h]; simp
   have hc:=aCR x p
   simp only [bndD,nO h,dS,iF h,bnoS]
   have hfu:fuel=18446744073709551613 + 3:=rfl
   rw [hfu,cut_one y (cutS p x) _ (by omega),w_at h (by omega)]
   have ih:=cut_L (x:=x) hl r (p ++ [y]) f (kS h) (by simpa using hf)
   have e:cutS (p ++ [y]) x=cutS p x ++ oV y x:=by simp [cutS]
   rw [e] at ih
   exact ih
theorem aEN {s:List Iv} {x:Iv} (hl:s.length ≤ 20000) (h:VS s) (hx:0 ≤ x.From ∧ x.From ≤ 4398046511104 ∧ 0 ≤ x.To ∧ x.To ≤ 4398046511104):oO s x=some (if x.To ≤ x.From then s else cutS s x):=by
 have hm:mayB x=true:=by unfold mayB; simp; omega
 unfold oO
 rw [aCH (⟨x.From,x.To⟩:Iv),show mayB (⟨x.From,x.To⟩:Iv)=true from hm,bnoS]
 simp only [bndD,Bool.not_true,beq_self_eq_true,gdtt,tL,bnoS,Bool.false_or]
 by_cases hn:x.To ≤ x.From
 · rw [decide_eq_true hn,if_pos hn]
   simp only [tf,gdff,bnoS,Bool.true_or,dS,aFr (show s.length ≤ 100000 by omega)]
 · rw [decide_eq_false hn,if_neg hn]
   simp only [beq_self_eq_true,gdtt,uW (show s.length ≤ 100000 by omega) h,bnoS,decide_true,Bool.not_true,Bool.or_self,cU]
   exact cut_L hl s [] fuel rfl (eM (by omega))
end Go.Fn
open Go Go.IL
namespace Go.Fn
def putS (s:List Iv) (x:Iv):List Iv:=match s.getLast? with
 | some y=>if x.From ≤ y.To then s.dropLast ++ [⟨y.From,max y.To x.To⟩] else s ++ [x]
 | none=>s ++ [x]
theorem aEt (x:Iv):putS [] x=[x]:=rfl
theorem aDa (p:List Iv) (y x:Iv):putS (p ++ [y]) x=if x.From ≤ y.To then p ++ [⟨y.From,max y.To x.To⟩] else p ++ [y] ++ [x]:=by
 unfold putS; simp
theorem aDZ {s:List Iv} {x:Iv} (hl:s.length ≤ 100000) (hx:x.From < x.To):iE x s=some (putS s x):=by
 unfold iE
 rw [tL (⟨x.From,x.To⟩:Iv),show decide ((⟨x.From,x.To⟩:Iv).To ≤ (⟨x.From,x.To⟩:Iv).From)=false from decide_eq_false (by show ¬ x.To ≤ x.From; omega),bnoS,cU]
 rcases List.eq_nil_or_concat s with rfl | ⟨p,y,hs⟩
 · simp only [bndD,List.length_nil,show decide ((0:Int) < ((0:Nat):Int))=false from rfl,ft,gdff,bnoS,Bool.false_and,cU]
   rw [jY (by simp) (by simp),bnoS]; rfl
 · rw [List.concat_eq_append] at hs
   subst hs
   have hlen:(p ++ [y]).length=p.length + 1:=by simp
   have hw:IntKind.wrap .i64 (((p ++ [y]).length:Int) - 1)=(p.length:Int):=by rw [hlen,w64 (by omega) (by omega)]; omega
   have hg:gix (p ++ [y]) (p.length:Int)=some y:=iF (r:=[]) rfl
   have hge:(p ++ [y])[p.length]? = some y:=by rw [List.getElem?_append_right (Nat.le_refl _)]; simp
   have hset:∀ z:Iv,(p ++ [y]).set p.length z=p ++ [z]:=fun z=>by rw [List.set_append_right _ _ (Nat.le_refl _)]; simp
   simp only [bndD,decide_eq_true (show (0:Int) < ((p ++ [y]).length:Int) by omega),beq_self_eq_true,gdtt,hw,hg,bnoS,Int.toNat_natCast,hge,Bool.true_and,hset]
   rw [aDa]
   by_cases h:x.From ≤ y.To
   · rw [decide_eq_true h,dS,if_pos h]
   · rw [decide_eq_false h,cU,if_neg h,jY (by simp; omega) (by simp; omega),bnoS]
theorem aDY {s:List Iv} {x:Iv} (h:VS s) (hx:x.From < x.To) (h0:0 ≤ x.From) (h1:x.To ≤ 4398046511104) (hle:∀ y ∈ s,y.From ≤ x.From) :
 VS (putS s x) ∧ (∀ n,mem n (putS s x) ↔ mem n s ∨ (x.From ≤ n ∧ n < x.To)) ∧ (∀ y ∈ putS s x,y.From ≤ x.From) ∧ (putS s x).length ≤ s.length + 1:=by
 rcases List.eq_nil_or_concat s with rfl | ⟨p,y,hs⟩
 · rw [aEt]
   refine ⟨⟨by simp,fun z hz=>?_,fun z hz=>?_,fun z hz=>?_⟩,fun n=>?_,fun z hz=>?_,by simp⟩
   · rw [List.mem_singleton.1 hz]; exact hx
   · rw [List.mem_singleton.1 hz]; exact h0
   · rw [List.mem_singleton.1 hz]; exact h1
   · constructor
     · rintro ⟨z,hz,h2⟩; rw [List.mem_singleton.1 hz] at h2; exact .inr h2
     · rintro (⟨z,hz,_⟩ | h2)
       · exact (List.not_mem_nil hz).elim
       · exact ⟨x,by simp,h2⟩
   · rw [List.mem_singleton.1 hz]; exact Int.le_refl _
 · rw [List.concat_eq_append] at hs
   subst hs
   rw [aDa]
   have hy:=hle y (by simp)
   have hyn:=h.ne y (by simp)
   have hpp:=List.pairwise_append.1 h.pw
   by_cases hc:x.From ≤ y.To
   · rw [if_pos hc]
     have hmem:∀ z,z ∈ p ++ [(⟨y.From,max y.To x.To⟩:Iv)] → z ∈ p ∨ z=⟨y.From,max y.To x.To⟩:=fun z hz=>by
      rcases List.mem_append.1 hz with hz | hz
      · exact .inl hz
      · exact .inr (List.mem_singleton.1 hz)
     refine ⟨⟨?_,fun z hz=>?_,fun z hz=>?_,fun z hz=>?_⟩,fun n=>?_,fun z hz=>?_,by simp⟩
     · rw [List.pairwise_append]
       refine ⟨hpp.1,by simp,fun a ha b hb=>?_⟩
       rw [List.mem_singleton.1 hb]; exact hpp.2.2 a ha y (by simp)
     · rcases hmem z hz with hz | rfl
       · exact h.ne z (by simp [hz])
       · show y.From < max y.To x.To; omega
     · rcases hmem z hz with hz | rfl
       · exact h.lo z (by simp [hz])
       · exact h.lo y (by simp)
     · rcases hmem z hz with hz | rfl
       · exact h.hi z (by simp [hz])
       · have:=h.hi y (by simp); show max y.To x.To ≤ _; omega
     · constructor
       · rintro ⟨z,hz,h2,h3⟩
         rcases hmem z hz with hz | rfl
         · exact .inl ⟨z,by simp [hz],h2,h3⟩
         · have h2:y.From ≤ n:=h2
           have h3:n < max y.To x.To:=h3
           by_cases h4:n < y.To
           · exact .inl ⟨y,by simp,h2,h4⟩
           · exact .inr (by omega)
       · rintro (⟨z,hz,h2,h3⟩ | h2)
         · rcases List.mem_append.1 hz with hz | hz
           · exact ⟨z,by simp [hz],h2,h3⟩
           · rw [List.mem_singleton.1 hz] at h2 h3
             exact ⟨_,List.mem_append.2 (.inr (List.mem_singleton.2 rfl)),h2,by show n < max y.To x.To; omega⟩
         · exact ⟨_,List.mem_append.2 (.inr (List.mem_singleton.2 rfl)),by show y.From ≤ n; omega,by show n < max y.To x.To; omega⟩
     · rcases hmem z hz with hz | rfl
       · exact hle z (by simp [hz])
       · exact hy
   · rw [if_neg hc]
     refine ⟨⟨?_,fun z hz=>?_,fun z hz=>?_,fun z hz=>?_⟩,fun n=>?_,fun z hz=>?_,by simp⟩
     · rw [List.pairwise_append]
       refine ⟨h.pw,by simp,fun a ha b hb=>?_⟩
       rw [List.mem_singleton.1 hb]
       rcases List.mem_append.1 ha with ha | ha
       · have:=hpp.2.2 a ha y (by simp); omega
       · rw [List.mem_singleton.1 ha]; omega
     · rcases List.mem_append.1 hz with hz | hz
       · exact h.ne z hz
       · rw [List.mem_singleton.1 hz]; exact hx
     · rcases List.mem_append.1 hz with hz | hz
       · exact h.lo z hz
       · rw [List.mem_singleton.1 hz]; exact h0
     · rcases List.mem_append.1 hz with hz | hz
       · exact h.hi z hz
       · rw [List.mem_singleton.1 hz]; exact h1
     · constructor
       · rintro ⟨z,hz,h2⟩
         rcases List.mem_append.1 hz with hz | hz
         · exact .inl ⟨z,hz,h2⟩
         · rw [List.mem_singleton.1 hz] at h2; exact .inr h2
       · rintro (⟨z,hz,h2⟩ | h2)
         · exact ⟨z,List.mem_append.2 (.inl hz),h2⟩
         · exact ⟨x,List.mem_append.2 (.inr (by simp)),h2⟩
     · rcases List.mem_append.1 hz with hz | hz
       · exact hle z hz
       · rw [List.mem_singleton.1 hz]; exact Int.le_refl _
theorem mem_app {n:Int} {p:List Iv} {y:Iv}:mem n (p ++ [y]) ↔ mem n p ∨ (y.From ≤ n ∧ n < y.To):=by
 constructor
 · rintro ⟨z,hz,h2⟩
   rcases List.mem_append.1 hz with hz | hz
   · exact .inl ⟨z,hz,h2⟩
   · rw [List.mem_singleton.1 hz] at h2; exact .inr h2
 · rintro (⟨z,hz,h2⟩ | h2)
   · exact ⟨z,List.mem_append.2 (.inl hz),h2⟩
   · exact ⟨y,List.mem_append.2 (.inr (by simp)),h2⟩
theorem add_L {s:List Iv} {x:Iv} (hl:s.length ≤ 20000) (h:VS s) (hx:x.From < x.To) (h0:0 ≤ x.From) (h1:x.To ≤ 4398046511104):∀ (r p:List Iv) (f:Nat) (out:List Iv) (laid:Bool),s=p ++ r → r.length < f → VS out →
 (∀ y ∈ out,∀ z ∈ r,y.From ≤ z.From) → (laid=false → ∀ y ∈ out,y.From ≤ x.From) → (∀ n,mem n out ↔ mem n p ∨ (laid=true ∧ x.From ≤ n ∧ n < x.To)) → out.length ≤ p.length + 1 → (laid=false → out.length ≤ p.length) →
 ∃ t,gG s x f out laid (p.length:Int)=some t ∧ VS t ∧ (∀ n,mem n t ↔ mem n s ∨ (x.From ≤ n ∧ n < x.To)) ∧ t.length ≤ s.length + 1:=by
 intro r
 induction r with
 | nil =>
   intro p f out laid hs hf hv ha hb hm hc hd
   obtain ⟨f,rfl⟩:∃ g,f=g + 1:=⟨f - 1,by simp at hf; omega⟩
   have hps:p=s:=by rw [hs,List.append_nil]
   subst hps
   unfold gG
   simp only [bndD,sX,cU]
   cases laid
   · obtain ⟨v1,v2,v3,v4⟩:=aDY hv hx h0 h1 (hb rfl)
     have:=hd rfl
     refine ⟨putS out x,?_,v1,fun n=>?_,by omega⟩
     · rw [Bool.not_false,dS,aDZ (x:=(⟨x.From,x.To⟩:Iv)) (by omega) hx,bnoS]
     · rw [v2,hm]; simp
   · refine ⟨out,by rw [Bool.not_true,cU],hv,fun n=>?_,hc⟩
     rw [hm]; simp
 | cons y r ih =>
   intro p f out laid hs hf hv ha hb hm hc hd
   obtain ⟨f,rfl⟩:∃ g,f=g + 1:=⟨f - 1,by simp at hf; omega⟩
   have hpl:p.length + (r.length + 1)=s.length:=by rw [hs]; simp
   have hym:y ∈ s:=by rw [hs]; simp
   have hyn:=h.ne y hym
   have hyr:∀ z ∈ r,y.From ≤ z.From:=fun z hz=>by
    have:=h.pw
    rw [hs] at this
    have:=(List.pairwise_cons.1 (List.pairwise_append.1 this).2.1).1 z hz
    omega
   unfold gG
   simp only [bndD,nO hs,dS,iF hs,bnoS]
   have fin:∀ (o1:List Iv) (l1:Bool),VS o1 → (∀ z ∈ o1,z.From ≤ y.From) → (l1=false → y.From ≤ x.From) → (∀ n,mem n o1 ↔ mem n p ∨ (l1=true ∧ x.From ≤ n ∧ n < x.To)) → o1.length ≤ p.length + 1 → (l1=false → o1.length ≤ p.length) →
    ∃ t,mE (p.length:Int) (gG s x f) y o1 l1=some t ∧ VS t ∧ (∀ n,mem n t ↔ mem n s ∨ (x.From ≤ n ∧ n < x.To)) ∧ t.length ≤ s.length + 1:=fun o1 l1 b1 b2 b3 b4 b5 b6=>by
    obtain ⟨v1,v2,v3,v4⟩:=aDY b1 hyn (h.lo y hym) (h.hi y hym) b2
    unfold mE
    rw [aDZ (x:=(⟨y.From,y.To⟩:Iv)) (by omega) hyn,bnoS,bndD,w_at hs (by omega)]
    refine ih (p ++ [y]) f (putS o1 y) l1 (kS hs) (by simpa using hf) v1 (fun z hz w hw=>?_) (fun hl1 z hz=>?_) (fun n=>?_) ?_ (fun hl1=>?_)
    · have:=v3 z hz; have:=hyr w hw; omega
    · have:=v3 z hz; have:=b3 hl1; omega
    · rw [v2,b4,mem_app]
      constructor
      · rintro ((h5 | h5) | h5)
        · exact .inl (.inl h5)
        · exact .inr h5
        · exact .inl (.inr h5)
      · rintro ((h5 | h5) | h5)
        · exact .inl (.inl h5)
        · exact .inr h5
        · exact .inl (.inr h5)
    · rw [List.length_append,List.length_singleton]; omega
    · have:=b6 hl1; rw [List.length_append,List.length_singleton]; omega
   by_cases hcond:laid=false ∧ x.From ≤ y.From
   · rw [hcond.1,decide_eq_true hcond.2]
     obtain ⟨v1,v2,v3,v4⟩:=aDY hv hx h0 h1 (hb hcond.1)
     have:=hd hcond.1
     simp only [Bool.not_false,Bool.and_self,dS]
     rw [aDZ (x:=(⟨x.From,x.To⟩:Iv)) (by omega) hx,bnoS]
     refine fin (putS out x) true v1 (fun z hz=>by have:=v3 z hz; omega) (fun h=>by cases h) (fun n=>?_) (by omega) (fun h=>by cases h)
     rw [v2,hm,hcond.1]; simp
   · rw [show (!laid && decide (x.From ≤ y.From))=false by
      cases laid
      · simp only [true_and] at hcond; rw [decide_eq_false hcond]; rfl
      · rfl,cU]
     refine fin out laid hv (fun z hz=>ha z hz y (by simp)) (fun hl1=>?_) hm hc hd
     simp only [hl1,true_and] at hcond; omega
theorem add_eq {s:List Iv} {x:Iv} (hl:s.length ≤ 20000) (h:VS s) (h0:0 ≤ x.From) (h1:x.To ≤ 4398046511104) (hx:x.From ≤ x.To) :
 ∃ t,rU s x=some t ∧ VS t ∧ (∀ n,mem n t ↔ mem n s ∨ (x.From ≤ n ∧ n < x.To)) ∧ (x.From=x.To → t=s) ∧ t.length ≤ s.length + 1:=by
 have hm:mayB x=true:=by unfold mayB; simp; omega
 unfold rU
 rw [aCH (⟨x.From,x.To⟩:Iv),show mayB (⟨x.From,x.To⟩:Iv)=true from hm,bnoS]
 simp only [bndD,Bool.not_true,beq_self_eq_true,gdtt,tL,bnoS,Bool.false_or]
 by_cases hn:x.To ≤ x.From
 · rw [decide_eq_true hn]
   refine ⟨s,?_,h,fun n=>⟨.inl,fun h=>by rcases h with h | h; exact h; omega⟩,fun _=>rfl,by omega⟩
   simp only [tf,gdff,bnoS,Bool.true_or,dS,aFr (show s.length ≤ 100000 by omega)]
 · rw [decide_eq_false hn]
   obtain ⟨t,e1,e2,e3,e4⟩:=add_L hl h (by omega) h0 h1 s [] fuel [] false rfl (eM (by omega)) VS.nil (fun _ h=>(List.not_mem_nil h).elim) (fun _ _ h=>(List.not_mem_nil h).elim) (fun n=>by simp) (by simp) (fun _=>by simp)
   refine ⟨t,?_,e2,e3,fun h=>by omega,e4⟩
   simp only [beq_self_eq_true,gdtt,uW (show s.length ≤ 100000 by omega) h,bnoS,decide_true,Bool.not_true,Bool.or_self,cU]
   exact e1
theorem aFt {s:List Iv} {x:Iv} (hl:s.length ≤ 20000) (h:VS s) (hx:x.From < x.To) (h0:0 ≤ x.From) (h1:x.To ≤ 4398046511104) (hd:∀ y ∈ s,y.To ≤ x.From ∨ x.To ≤ y.From):∀ (r p:List Iv) (f:Nat),s=p ++ r → r.length < f → iY s f [x] (p.length:Int)=some [x]
 | [],p,f + 1,hs,_=>by
   unfold iY
   simp only [bndD,uJ hs,cU]
 | y :: r,p,f + 1,hs,hf=>by
   have hym:y ∈ s:=by rw [hs]; simp
   have hyn:=h.ne y hym
   have a1:=h.lo y hym
   have a2:=h.hi y hym
   have hdy:=hd y hym
   have hv:VS [x]:=⟨by simp,fun z hz=>by rw [List.mem_singleton.1 hz]; exact hx,fun z hz=>by rw [List.mem_singleton.1 hz]; exact h0,fun z hz=>by rw [List.mem_singleton.1 hz]; exact h1⟩
   unfold iY
   simp only [bndD,nO hs,dS,iF hs,bnoS]
   rw [aEN (x:=(⟨y.From,y.To⟩:Iv)) (by simp) hv ⟨a1,by show y.From ≤ _; omega,by show 0 ≤ y.To; omega,a2⟩,if_neg (by show ¬ y.To ≤ y.From; omega),aEQ (x:=(⟨y.From,y.To⟩:Iv)) (fun z hz=>by rw [List.mem_singleton.1 hz]; exact ⟨hx,by show x.To ≤ y.From ∨ y.To ≤ x.From; omega⟩) hyn,bnoS,w_at hs (by omega)]
   exact aFt hl h hx h0 h1 hd r (p ++ [y]) f (kS hs) (by simpa using hf)
theorem gaps_eq {s:List Iv} {x:Iv} (hl:s.length ≤ 20000) (h:VS s) (hx:x.From < x.To) (h0:0 ≤ x.From) (h1:x.To ≤ 4398046511104) (hd:∀ n,x.From ≤ n → n < x.To → ¬ mem n s):pW s x=some [x]:=by
 have hm:mayB x=true:=by unfold mayB; simp; omega
 have hd2:∀ y ∈ s,y.To ≤ x.From ∨ x.To ≤ y.From:=fun y hy=>by
  have hyn:=h.ne y hy
  by_cases hc:y.To ≤ x.From ∨ x.To ≤ y.From
  · exact hc
  · exact absurd ⟨y,hy,by omega,by omega⟩ (hd (max x.From y.From) (by omega) (by omega))
 unfold pW
 rw [aCH (⟨x.From,x.To⟩:Iv),show mayB (⟨x.From,x.To⟩:Iv)=true from hm,bnoS]
 simp only [bndD,Bool.not_true,beq_self_eq_true,gdtt,uW (show s.length ≤ 100000 by omega) h,bnoS,decide_true,Bool.or_self,tL,decide_eq_false (show ¬ x.To ≤ x.From by omega),cU]
 exact aFt hl h hx h0 h1 hd2 s [] fuel rfl (eM (by omega))
theorem isame {l m:List Iv} (hl:l.length ≤ 1000000):oG l m=some (decide (l=m)):=by
 have heq:∀ x y:Iv,(decide (x.From=y.From) && (decide (x.To=y.To) && true))=decide (x=y):=fun x y=>by
  obtain ⟨a,b⟩:=x; obtain ⟨c,d⟩:=y; rw [Bool.eq_iff_iff]; simp
 have:=aEG (L:=cW l m) (m:=m) (z:=true) hl (fun p x r s y t f h k e=>by
  rw [cW]
  simp only [bndD,nO h,dS,iF h,show gix m (p.length:Int)=some y by rw [e]; exact iF k,bnoS,heq,w_at h hl]) (fun _ f=>by
  rw [cW]
  simp only [bndD,sX,cU])
 rw [Bool.and_true] at this
 have this:eR l m=_:=this
 unfold oG
 rw [this,bnoS]
end Go.Fn
open Go Go.IL
namespace Go.Fn
def endS (s:S23):Int:=s.Base + (s.Data.length:Int)
def fins (l:List Pc):Nat:=(l.filter (·.Fin)).length
structure G (s:S23):Prop where
 b0:0 ≤ s.Base
 bn:s.Base ≤ s.Next
 nd:s.Next ≤ endS s
 en:endS s ≤ 1099511623680
 dl:s.Data.length ≤ 4096
 lv:VS s.Lost
 lb:∀ x ∈ s.Lost,s.Base ≤ x.From ∧ x.To ≤ s.Next
 pw:s.Pieces.Pairwise (fun p q=>p.To ≤ q.From)
 pb:∀ p ∈ s.Pieces,(s.Base ≤ p.From ∧ p.From ≤ p.To ∧ p.To ≤ s.Next) ∧ 0 ≤ p.Path ∧ p.Path < 4
 pf:∀ p ∈ s.Pieces,p.From=p.To → p.Fin=true
 pd:∀ p ∈ s.Pieces,∀ n,p.From ≤ n → n < p.To → ¬ mem n s.Lost
 fe:∀ p ∈ s.Pieces,p.Fin=true → p.To=endS s
 fc:fins s.Pieces=if s.Sent=true ∧ s.Again=false ∧ s.Done=false then 1 else 0
 se:s.Sent=true → s.Closed=true ∧ s.Next=endS s ∧ ¬ (s.Again=true ∧ s.Done=true)
 ns:s.Sent=false → s.Again=false ∧ s.Done=false
 cov:∀ n,s.Base ≤ n → n < s.Next → mem n s.Lost ∨ ∃ p ∈ s.Pieces,p.From ≤ n ∧ n < p.To
theorem aFp:∀ {l:List Pc} {a b:Int},l.Pairwise (fun p q=>p.To ≤ q.From) → (∀ p ∈ l,a ≤ p.From ∧ p.From ≤ p.To ∧ p.To ≤ b) → (∀ p ∈ l,p.From=p.To → p.Fin=true) → a ≤ b → (l.length:Int) ≤ b - a + fins l
 | [],a,b,_,_,_,h=>by simp [fins]; omega
 | x :: l,a,b,hp,hb,hf,hab=>by
   have hp:=List.pairwise_cons.1 hp
   have h1:=hb x (by simp)
   have:=aFp (l:=l) (a:=x.To) (b:=b) hp.2 (fun y hy=>⟨hp.1 y hy,(hb y (by simp [hy])).2⟩) (fun y hy=>hf y (by simp [hy])) h1.2.2
   have hf1:fins (x :: l)=fins l + if x.Fin=true then 1 else 0:=by unfold fins; rw [List.filter_cons]; split <;> simp
   rw [hf1]
   by_cases he:x.From=x.To
   · rw [if_pos (hf x (by simp) he)]
     simp only [List.length_cons]; omega
   · simp only [List.length_cons]; split <;> omega
theorem G.ll {s:S23} (h:G s):s.Lost.length ≤ 4096:=by
 have h1:=aAh h.lv.pw h.lv.ne h.lb h.bn
 have h2:=h.nd
 have h3:=h.dl
 unfold endS at h2; omega
theorem G.pl {s:S23} (h:G s):s.Pieces.length ≤ 4097:=by
 have h1:=aFp h.pw (fun p hp=>(h.pb p hp).1) h.pf h.bn
 have h2:=h.nd
 have h3:=h.dl
 have h4:fins s.Pieces ≤ 1:=by rw [h.fc]; split <;> omega
 unfold endS at h2; omega
theorem G.num {s:S23} (h:G s):0 ≤ s.Base ∧ s.Base ≤ s.Next ∧ s.Next ≤ endS s ∧ endS s ≤ 1099511623680:=⟨h.b0,h.bn,h.nd,h.en⟩
theorem pE {s:S23} (h:G s):eZ s=some (endS s):=by
 obtain ⟨h1,h2,h3,h4⟩:=h.num
 unfold eZ
 rw [bndD]; unfold endS at *; rw [w64 (by omega) (by omega)]
theorem aDh {s:S23} (hp:s.Pieces.length ≤ 100000) (hl:s.Lost.length ≤ 100000):fW s=some (s.Base,s.Data,s.Next,s.Pieces,s.Lost,s.Closed,s.Sent,s.Again,s.Done):=by
 unfold fW
 have e:cpy (List.replicate s.Pieces.length (⟨0,0,0,false⟩:Pc)) s.Pieces=s.Pieces:=by
  unfold cpy
  rw [List.length_replicate,List.take_length,List.drop_of_length_le (by rw [List.length_replicate]; exact Nat.le_refl _),List.append_nil]
 rw [aDk (by omega) (by omega) (by omega),bnoS,Int.toNat_natCast,bndD,e,iclone2 hl,bnoS]
theorem lost23 {s:S23} (h:G s):kW s=some true:=by
 have hl:=h.ll
 unfold kW
 rw [uW (by omega) h.lv,bnoS]
 simp only [bndD,decide_true,Bool.not_true,cU]
 cases hs:s.Lost with
 | nil=>rfl
 | cons x r =>
   obtain ⟨p,y,hy⟩:∃ p y,x :: r=p ++ [y]:=by
    rcases List.eq_nil_or_concat (x :: r) with h | ⟨p,y,h⟩
    · cases h
    · exact ⟨p,y,by rw [h,List.concat_eq_append]⟩
   have hlen:((x :: r).length:Int)=(p.length:Int) + 1:=by rw [hy]; simp
   have hpl:p.length ≤ 5000:=by rw [hs,hy] at hl; simp at hl; omega
   have hw:IntKind.wrap .i64 (((x :: r).length:Int) - 1)=(p.length:Int):=by rw [hlen,w64 (by omega) (by omega)]; omega
   have hg:gix (x :: r) (p.length:Int)=some y:=iF (r:=[]) hy
   have h0:gix (x :: r) 0=some x:=rfl
   have hx:=h.lb x (by rw [hs]; simp)
   have hyb:=h.lb y (by rw [hs,hy]; simp)
   simp only [decide_eq_false (show ¬ ((x :: r).length:Int)=0 by omega),beq_self_eq_true,gdtt,h0,bnoS,decide_eq_true hx.1,Bool.and_self,hw,hg,decide_eq_true hyb.2,Bool.or_true]
theorem fits23 {s:S23} (h:G s) {p:Pc} (hp:p ∈ s.Pieces) {at_:Int} (ha:at_ ≤ p.From):kX s p at_=some true:=by
 obtain ⟨⟨a1,a2,a3⟩,a4,a5⟩:=h.pb p hp
 obtain ⟨n1,n2,n3,n4⟩:=h.num
 have hl:=h.ll
 unfold kX oI fQ
 simp only [bndD,decide_eq_false (show ¬ p.From < at_ by omega),decide_eq_false (show ¬ p.To < p.From by omega),decide_eq_false (show ¬ s.Next < p.To by omega),Bool.or_self,beq_self_eq_true,gdtt,decide_eq_true a4,decide_eq_true a5,Bool.and_self,bnoS,Bool.not_true,cU]
 by_cases he:p.From=p.To
 · rw [decide_eq_true he,dS,h.pf p hp he]
 · rw [decide_eq_false he,cU,gaps_eq (x:=(⟨p.From,p.To⟩:Iv)) (by omega) h.lv (by show p.From < p.To; omega) (by show 0 ≤ p.From; omega) (by show p.To ≤ _; omega) (h.pd p hp),bnoS,isame (by simp),bnoS,decide_eq_true rfl]
theorem wT (l m:List Pc):fins (l ++ m)=fins l + fins m:=by unfold fins; rw [List.filter_append,List.length_append]
theorem aFu {s:S23} (h:G s):∀ (r p:List Pc) (f:Nat),s.Pieces=p ++ r → r.length < f → eS s f (fins p:Int) (p.length:Int)=some true
 | [],p,f + 1,hs,_=>by
   unfold eS
   rw [List.append_nil] at hs
   have hc:=h.fc
   rw [hs] at hc
   simp only [bndD,show decide ((p.length:Int) < (s.Pieces.length:Int))=false by rw [hs]; exact sX,cU]
   cases hS:s.Sent
   · obtain ⟨h1,h2⟩:=h.ns hS
     rw [hS] at hc
     simp at hc
     simp [hc,h1,h2]
   · obtain ⟨h1,h2,h3⟩:=h.se hS
     rw [hS] at hc
     simp only [h1,Bool.not_true,cU,beq_self_eq_true,gdtt,pE h,bnoS,decide_eq_true h2,Bool.or_self,Bool.false_or]
     cases hA:s.Again <;> cases hD:s.Done <;> rw [hA,hD] at hc h3 <;> simp at hc h3 <;> simp [hc]
 | x :: r,p,f + 1,hs,hf=>by
   have hx:x ∈ s.Pieces:=by rw [hs]; simp
   have hpl:=h.pl
   have hpp:p.length + (r.length + 1)=s.Pieces.length:=by rw [hs]; simp
   have hfl:fins p ≤ p.length:=List.length_filter_le _ _
   have ih:=aFu h r (p ++ [x]) f (kS hs) (by simpa using hf)
   rw [wT] at ih
   unfold eS
   simp only [bndD,nO hs,dS,iF hs,bnoS,pE h,w_at hs (show s.Pieces.length ≤ 1000000 by omega)]
   cases hF:x.Fin
   · rw [cU]
     have:fins [x]=0:=by simp [fins,hF]
     rw [this] at ih; exact ih
   · have:fins [x]=1:=by simp [fins,hF]
     rw [this] at ih
     rw [dS,decide_eq_true (h.fe x hx hF),Bool.not_true,cU,w64 (by omega) (by omega)]
     exact ih
theorem aCT {s:S23} (h:G s):∀ (r p:List Pc) (f:Nat) (at_:Int),s.Pieces=p ++ r → r.length < f → (∀ q ∈ r,at_ ≤ q.From) → iR s f at_ (p.length:Int)=some 0
 | [],p,f + 1,at_,hs,_,_=>by
   unfold iR
   have he:=aFu h s.Pieces [] fuel rfl (eM (by have:=h.pl; omega))
   have he:mJ s=some true:=he
   simp only [bndD,uJ hs,cU,he,bnoS,Bool.not_true]
 | x :: r,p,f + 1,at_,hs,hf,ha=>by
   have hx:x ∈ s.Pieces:=by rw [hs]; simp
   have hpl:=h.pl
   unfold iR
   simp only [bndD,nO hs,dS,iF hs,bnoS,fits23 h hx (ha x (by simp)),Bool.not_true,cU,w_at hs (show s.Pieces.length ≤ 1000000 by omega)]
   refine aCT h r (p ++ [x]) f x.To (kS hs) (by simpa using hf) (fun q hq=>?_)
   have:=h.pw
   rw [hs] at this
   exact (List.pairwise_cons.1 (List.pairwise_append.1 this).2.1).1 q hq
theorem tP {s:S23} (h:G s):kP s=some 0:=by
 obtain ⟨n1,n2,n3,n4⟩:=h.num
 have hd:=h.dl
 have e:endS s=s.Base + (s.Data.length:Int):=rfl
 unfold kP kD
 simp only [bndD,decide_eq_false (show ¬ s.Base < 0 by omega),decide_eq_false (show ¬ 1099511623680 < s.Base by omega),decide_eq_false (show ¬ s.Next < s.Base by omega),w64 (show -9223372036854775808 ≤ s.Next - s.Base by omega) (by omega),decide_eq_false (show ¬ (s.Data.length:Int) < s.Next - s.Base by omega),decide_eq_false (show ¬ (4096:Int) < (s.Data.length:Int) by omega),cU,lost23 h,bnoS,Bool.not_true]
 exact aCT h s.Pieces [] fuel s.Base rfl (eM (by have:=h.pl; omega)) (fun q hq=>(h.pb q hq).1.1)
def new23:S23:=⟨0,[],0,[],[],false,false,false,false⟩
theorem g_new:G new23:=⟨by decide,by decide,by decide,by decide,by decide,VS.nil,fun _ h=>(List.not_mem_nil h).elim,.nil,fun _ h=>(List.not_mem_nil h).elim,fun _ h=>(List.not_mem_nil h).elim,fun _ h=>(List.not_mem_nil h).elim,fun _ h=>(List.not_mem_nil h).elim,rfl,fun h=>(by cases h),fun _=>⟨rfl,rfl⟩,fun n h1 h2=>by have h1:(0:Int) ≤ n:=h1; have h2:n < 0:=h2; omega⟩
def tG (s:S23):Int:=if s.Closed=true then 0 else 4096 - (s.Data.length:Int)
theorem aFi {s:S23} (h:G s):pP s=some (tG s):=by
 have hd:=h.dl
 unfold pP tG
 cases s.Closed
 · rw [cU,bndD,w64 (by omega) (by omega)]; rfl
 · rfl
def writeN (s:S23) (str:List UInt8):Nat:=if endS s ≤ 1099511623680 - min (tG s) (str.length:Int) then (min (tG s) (str.length:Int)).toNat else 0
def wX (s:S23) (str:List UInt8):S23:=⟨s.Base,s.Data ++ str.take (writeN s str),s.Next,s.Pieces,s.Lost,s.Closed,s.Sent,s.Again,s.Done⟩
theorem vF {s:S23} (h:G s):0 ≤ tG s ∧ tG s ≤ 4096 - (s.Data.length:Int):=by
 have hd:=h.dl
 unfold tG; split <;> omega
theorem wY {s:S23} (h:G s) (str:List UInt8):(writeN s str:Int) ≤ tG s ∧ writeN s str ≤ str.length:=by
 have:=vF h
 unfold writeN; split <;> omega
theorem write23 {s:S23} (h:G s) (str:List UInt8) (hs:str.length ≤ 100000):pO s str=some (wX s str,(writeN s str:Int)):=by
 have hp:=h.pl
 have hl:=h.ll
 have hr:=vF h
 have hd:=h.dl
 obtain ⟨n1,n2,n3,n4⟩:=h.num
 unfold pO
 rw [aDh (by omega) (by omega),bnoS,tP h,bnoS]
 simp only [bndD,decide_true,Bool.not_true,cU,aFi h,bnoS,pE h,w64 (show -9223372036854775808 ≤ 1099511623680 - min (tG s) (str.length:Int) by omega) (by omega)]
 unfold wX writeN
 by_cases hc:endS s ≤ 1099511623680 - min (tG s) (str.length:Int)
 · rw [decide_eq_false (by omega),cU,if_pos hc]
   obtain ⟨k,hk⟩:∃ k:Nat,min (tG s) (str.length:Int)=(k:Int):=⟨(min (tG s) (str.length:Int)).toNat,by omega⟩
   have hkl:k ≤ str.length:=by omega
   have hcat:cat s.Data (str.take k)=some (s.Data ++ str.take k):=by unfold cat; rw [if_pos (by rw [List.length_take]; omega)]
   rw [hk,aCP hkl,bnoS,hcat,bnoS,Int.toNat_natCast]
 · rw [decide_eq_true (by omega),dS,if_neg hc]
   simp
theorem g_write {s : S23} (h : G s) (str : List UInt8) : G (wX s str):=by
 obtain ⟨k1,k2⟩:=wY h str
 have hr:=vF h
 obtain ⟨n1,n2,n3,n4⟩:=h.num
 have hd:=h.dl
 have hdl:(wX s str).Data.length=s.Data.length + writeN s str:=by show (s.Data ++ str.take _).length=_; rw [List.length_append,List.length_take]; omega
 have he:endS (wX s str)=endS s + writeN s str:=by unfold endS; rw [hdl]; show s.Base + _=_; omega
 have hen:endS s + writeN s str ≤ 1099511623680:=by unfold writeN; split <;> omega
 have hcl : s.Closed = true → writeN s str = 0 := fun hc => by have:tG s=0:=by unfold tG; rw [if_pos hc]
                                                               omega
 refine ⟨h.b0,h.bn,by rw [he]; show s.Next ≤ _; omega,by rw [he]; exact hen,by rw [hdl]; omega,h.lv,h.lb,h.pw,h.pb,h.pf,h.pd,fun p hp hF=>?_,h.fc,fun hS=>?_,h.ns,h.cov⟩
 · rw [he,h.fe p hp hF]
   have:s.Sent=true:=by
    cases hS:s.Sent
    · have hc:=h.fc
      rw [hS] at hc; simp at hc
      have:p ∈ s.Pieces.filter (·.Fin):=List.mem_filter.2 ⟨hp,hF⟩
      rw [List.length_eq_zero_iff.1 hc] at this
      exact (List.not_mem_nil this).elim
    · rfl
   rw [hcl (h.se this).1]; omega
 · obtain ⟨a1,a2,a3⟩:=h.se hS
   refine ⟨a1,?_,a3⟩
   rw [he,hcl a1]; show s.Next=_; omega
end Go.Fn
open Go Go.IL
namespace Go.Fn
def dueS (s:S23):Bool:=if (!s.Closed || s.Done)=true then false else s.Again || !s.Sent
theorem due23 (s:S23):kO s=some (dueS s):=by
 unfold kO dueS
 simp only [bndD]
 cases !s.Closed || s.Done <;> rfl
theorem aFv {s:S23} (h:dueS s=true):s.Closed=true ∧ s.Done=false ∧ (s.Again=true ∨ s.Sent=false):=by
 unfold dueS at h
 cases hC:s.Closed <;> cases hD:s.Done <;> rw [hC,hD] at h <;> simp at h
 exact ⟨rfl,rfl,by simpa using h⟩
def iN (s:S23) (most limit:Int):Pc × Bool:=match s.Lost with
 | x :: _=>(⟨x.From,x.From + min most (x.To - x.From),0,false⟩,true)
 | []=>if 0 < endS s - s.Next then (⟨s.Next,s.Next + min (min (endS s - s.Next) most) (max limit s.Next - s.Next),0,false⟩,decide (0 < min (min (endS s - s.Next) most) (max limit s.Next - s.Next))) else (⟨s.Next,s.Next,0,false⟩,dueS s)
theorem aDj {s:S23} (h:G s) {most limit:Int} (hm:1 ≤ most ∧ most ≤ 1000000) (hl:0 ≤ limit ∧ limit ≤ 4398046511104):jP s most limit=some (iN s most limit):=by
 obtain ⟨n1,n2,n3,n4⟩:=h.num
 unfold jP iN
 cases hs:s.Lost with
 | cons x r =>
   have hx:x ∈ s.Lost:=by rw [hs]; simp
   have a1:=h.lv.ne x hx
   have a2:=h.lb x hx
   have h0:gix (x :: r) 0=some x:=rfl
   simp only [bndD,decide_eq_true (show (0:Int) < ((x :: r).length:Int) by simp only [List.length_cons]; omega),dS,h0,bnoS,w64 (show -9223372036854775808 ≤ x.To - x.From by omega) (by omega),w64 (show -9223372036854775808 ≤ x.From + min most (x.To - x.From) by omega) (by omega)]
 | nil =>
   simp only [bndD,List.length_nil,show decide ((0:Int) < ((0:Nat):Int))=false from rfl,cU,pE h,bnoS,w64 (show -9223372036854775808 ≤ endS s - s.Next by omega) (by omega)]
   by_cases hc:0 < endS s - s.Next
   · rw [decide_eq_true hc,dS,if_pos hc,w64 (show -9223372036854775808 ≤ max limit s.Next - s.Next by omega) (by omega),w64 (show -9223372036854775808 ≤ s.Next + min (min (endS s - s.Next) most) (max limit s.Next - s.Next) by omega) (by omega)]
   · rw [decide_eq_false hc,cU,if_neg hc,due23,bnoS]
def before (p q:Pc):Bool:=decide (p.From < q.From) || (decide (q.From=p.From) && decide (p.To ≤ q.To))
theorem place23 {s:S23} (h:G s) (p:Pc) (hp:p.From ≤ endS s) (hp2:p.From=endS s → p.To ≤ endS s):∃ A B:List Pc,s.Pieces=A ++ B ∧ (∀ a ∈ A,before p a=false) ∧ (∀ b B',B=b :: B' → before p b=true) ∧ kK s p=some (A.length:Int):=by
 obtain ⟨n1,n2,n3,n4⟩:=h.num
 have hpl:=h.pl
 have hsent:before p (⟨endS s,endS s + 1,0,false⟩:Pc)=true:=by
  unfold before
  by_cases he:p.From=endS s
  · have:=hp2 he
    simp [he]; omega
  · simp; left; omega
 rcases wQ (L:=bU (s.Pieces ++ [(⟨endS s,endS s + 1,0,false⟩:Pc)]) p) (q:=before p) (l:=s.Pieces ++ [(⟨endS s,endS s + 1,0,false⟩:Pc)]) (fun p' x r f hh=>by
  rw [bU]
  have hx:kT x p=some (before p x):=rfl
  simp only [bndD,nO hh,dS,iF hh,bnoS,hx,w_at hh (by simp; omega)]) (fun f=>by
  rw [bU]
  simp only [bndD,sX,cU]) (s.Pieces ++ [(⟨endS s,endS s + 1,0,false⟩:Pc)]) [] fuel rfl (eM (by simp; omega)) (fun _ h=>(List.not_mem_nil h).elim) with ⟨_,e2⟩ | ⟨a,x,t,e1,e2,e3,e4⟩
 · have:=e2 _ (List.mem_append.2 (.inr (List.mem_singleton.2 rfl)))
   rw [hsent] at this; cases this
 · have hal:a.length ≤ s.Pieces.length:=by have:=congrArg List.length e1; simp at this; omega
   have hA:a=s.Pieces.take a.length:=by
    have:=congrArg (List.take a.length) e1
    rw [List.take_append_of_le_length hal,List.take_append_of_le_length (Nat.le_refl _),List.take_length] at this
    exact this.symm
   refine ⟨a,s.Pieces.drop a.length,by conv=>lhs; rw [← List.take_append_drop a.length s.Pieces,← hA],e2,fun b B' hb=>?_,?_⟩
   · have h5:(s.Pieces ++ [(⟨endS s,endS s + 1,0,false⟩:Pc)])[a.length]? = some x:=by rw [e1,List.getElem?_append_right (Nat.le_refl _)]; simp
     have hlt:a.length < s.Pieces.length:=by
      have:=congrArg List.length hb
      rw [List.length_drop,List.length_cons] at this; omega
     rw [List.getElem?_append_left hlt] at h5
     have h6:(s.Pieces.drop a.length)[0]? = some x:=by rw [List.getElem?_drop]; simpa using h5
     rw [hb] at h6
     have:b=x:=by simpa using h6
     rw [this]; exact e3
   · unfold kK dR
     have hc:=aCP (l:=s.Pieces) (Nat.le_refl _)
     rw [List.take_length] at hc
     simp only [bndD,hc,bnoS,pE h,w64 (show -9223372036854775808 ≤ endS s + 1 by omega) (by omega)]
     rw [jY (by simp; omega) (by simp; omega),bnoS]
     have e4:bU (s.Pieces ++ [(⟨endS s,endS s + 1,0,false⟩:Pc)]) p fuel 0=_:=e4
     rw [e4,bnoS]
structure Pk (s:S23) (p:Pc) (lost:List Iv):Prop where
 lo:s.Base ≤ p.From
 le:p.From ≤ p.To
 nx:p.From ≤ s.Next
 hi:p.To ≤ endS s
 pa:0 ≤ p.Path ∧ p.Path < 4
 em:p.From=p.To → p.From=s.Next ∧ p.Fin=true
 dj:∀ q ∈ s.Pieces,∀ n,p.From ≤ n → n < p.To → ¬ (q.From ≤ n ∧ n < q.To)
 fi:p.Fin=(decide (p.To=endS s) && dueS s)
 lv:VS lost
 lb:∀ x ∈ lost,s.Base ≤ x.From ∧ x.To ≤ s.Next
 lm:∀ n,mem n lost ↔ mem n s.Lost ∧ ¬ (p.From ≤ n ∧ n < p.To)
def rK (s:S23) (p:Pc) (lost:List Iv) (A B:List Pc):S23:=⟨s.Base,s.Data,max s.Next p.To,A ++ [p] ++ B,lost,s.Closed,if p.Fin=true then true else s.Sent,if p.Fin=true then false else s.Again,s.Done⟩
theorem g_pick {s:S23} (h:G s) {p:Pc} {lost:List Iv} {A B:List Pc} (k:Pk s p lost) (hs:s.Pieces=A ++ B) (hA:∀ a ∈ A,before p a=false) (hB:∀ b B',B=b :: B' → before p b=true):G (rK s p lost A B):=by
 obtain ⟨n1,n2,n3,n4⟩:=h.num
 have he:endS (rK s p lost A B)=endS s:=rfl
 have hmem:∀ q,q ∈ A ++ [p] ++ B ↔ q=p ∨ q ∈ s.Pieces:=fun q=>by
  rw [hs]; simp only [List.mem_append,List.mem_singleton]
  constructor
  · rintro ((h1 | h1) | h1)
    · exact .inr (.inl h1)
    · exact .inl h1
    · exact .inr (.inr h1)
  · rintro (h1 | h1 | h1)
    · exact .inl (.inr h1)
    · exact .inl (.inl h1)
    · exact .inr h1
 have k1:=k.lo; have k2:=k.le; have k3:=k.nx; have k4:=k.hi
 have hap:∀ a ∈ A,a.To ≤ p.From:=fun a ha=>by
  have hb:=hA a ha
  have ham:a ∈ s.Pieces:=by rw [hs]; simp [ha]
  have hpb:=(h.pb a ham).1
  unfold before at hb
  simp only [Bool.or_eq_false_iff,Bool.and_eq_false_iff,decide_eq_false_iff_not] at hb
  obtain ⟨b1,b2⟩:=hb
  by_cases hpe:p.From=p.To
  · have:=(k.em hpe).1; omega
  · by_cases hae:a.From=a.To
    · omega
    · have:=k.dj a ham (max p.From a.From) (by omega)
      by_cases hc:a.To ≤ p.From
      · exact hc
      · exfalso; exact this (by omega) ⟨by omega,by omega⟩
 have hpb:∀ b ∈ B,p.To ≤ b.From:=fun b hb=>by
  cases hBB:B with
  | nil=>rw [hBB] at hb; exact (List.not_mem_nil hb).elim
  | cons b0 B' =>
    have hb0:=hB b0 B' hBB
    have hbm:b0 ∈ s.Pieces:=by rw [hs,hBB]; simp
    have hbb:=(h.pb b0 hbm).1
    have key:p.To ≤ b0.From:=by
     unfold before at hb0
     simp only [Bool.or_eq_true,Bool.and_eq_true,decide_eq_true_iff] at hb0
     by_cases hpe:p.From=p.To
     · omega
     · by_cases hbe:b0.From=b0.To
       · have:=h.fe b0 hbm (h.pf b0 hbm hbe); omega
       · have:=k.dj b0 hbm (max p.From b0.From) (by omega)
         by_cases hc:p.To ≤ b0.From
         · exact hc
         · exfalso; exact this (by omega) ⟨by omega,by omega⟩
    rw [hBB] at hb
    rcases List.mem_cons.1 hb with rfl | hb
    · exact key
    · have:=h.pw
      rw [hs,hBB] at this
      have:=(List.pairwise_cons.1 (List.pairwise_append.1 this).2.1).1 b hb
      omega
 have hpw:=List.pairwise_append.1 (hs ▸ h.pw)
 refine ⟨h.b0,by show s.Base ≤ max s.Next p.To; omega,by rw [he]; show max s.Next p.To ≤ _; omega,h.en,h.dl,k.lv,fun x hx=>⟨(k.lb x hx).1,by have:=(k.lb x hx).2; show x.To ≤ max s.Next p.To; omega⟩,?_,fun q hq=>?_,fun q hq hqe=>?_,fun q hq n h1 h2=>?_,fun q hq hF=>?_,?_,fun hS=>?_,fun hS=>?_,fun n h1 h2=>?_⟩
 · show (A ++ [p] ++ B).Pairwise _
   rw [List.pairwise_append,List.pairwise_append]
   refine ⟨⟨hpw.1,by simp,fun a ha b hb=>?_⟩,hpw.2.1,fun a ha b hb=>?_⟩
   · rw [List.mem_singleton.1 hb]; exact hap a ha
   · rcases List.mem_append.1 ha with ha | ha
     · exact hpw.2.2 a ha b hb
     · rw [List.mem_singleton.1 ha]; exact hpb b hb
 · rcases (hmem q).1 hq with rfl | hq
   · exact ⟨⟨k1,k2,by show q.To ≤ max s.Next q.To; omega⟩,k.pa⟩
   · obtain ⟨⟨a1,a2,a3⟩,a4⟩:=h.pb q hq
     exact ⟨⟨a1,a2,by show q.To ≤ max s.Next p.To; omega⟩,a4⟩
 · rcases (hmem q).1 hq with rfl | hq
   · exact (k.em hqe).2
   · exact h.pf q hq hqe
 · rcases (hmem q).1 hq with rfl | hq
   · intro hm; exact ((k.lm n).1 hm).2 ⟨h1,h2⟩
   · intro hm; exact h.pd q hq n h1 h2 ((k.lm n).1 hm).1
 · rcases (hmem q).1 hq with rfl | hq
   · rw [k.fi,Bool.and_eq_true,decide_eq_true_iff] at hF; exact hF.1
   · exact h.fe q hq hF
 · show fins (A ++ [p] ++ B)=_
   have hf:fins (A ++ [p] ++ B)=fins s.Pieces + if p.Fin=true then 1 else 0:=by
    rw [hs,wT,wT,wT]
    have:fins [p]=if p.Fin=true then 1 else 0:=by unfold fins; rw [List.filter_cons]; split <;> rfl
    rw [this]; omega
   rw [hf,h.fc]
   unfold rK
   cases hF:p.Fin
   · simp
   · have hd:=k.fi
     rw [hF] at hd
     have hd2:=aFv (Bool.and_eq_true _ _ |>.mp hd.symm).2
     simp only [if_true]
     rw [if_neg (by rintro ⟨x1,x2,x3⟩; rcases hd2.2.2 with x4 | x4 <;> simp_all),if_pos (by simp [hd2.2.1])]
 · rw [he]
   cases hF:p.Fin
   · have hS:s.Sent=true:=by have:(if p.Fin=true then true else s.Sent)=true:=hS; rwa [hF] at this
     obtain ⟨a1,a2,a3⟩:=h.se hS
     refine ⟨a1,by show max s.Next p.To=_; omega,?_⟩
     show ¬ ((if p.Fin=true then false else s.Again)=true ∧ s.Done=true)
     rw [hF]; exact a3
   · have hd:=k.fi
     rw [hF] at hd
     have hd1:=Bool.and_eq_true _ _ |>.mp hd.symm
     have hd2:=aFv hd1.2
     refine ⟨hd2.1,by have:=of_decide_eq_true hd1.1; show max s.Next p.To=_; omega,?_⟩
     show ¬ ((if p.Fin=true then false else s.Again)=true ∧ s.Done=true)
     rw [hF]; simp
 · have hS:(if p.Fin=true then true else s.Sent)=false:=hS
   cases hF:p.Fin
   · rw [hF] at hS
     have:=h.ns (by simpa using hS)
     refine ⟨?_,this.2⟩
     show (if p.Fin=true then false else s.Again)=false
     rw [hF]; exact this.1
   · rw [hF] at hS; cases hS
 · have h2:n < max s.Next p.To:=h2
   by_cases hp:p.From ≤ n ∧ n < p.To
   · exact .inr ⟨p,(hmem p).2 (.inl rfl),hp⟩
   · rcases h.cov n h1 (by omega) with hm | ⟨q,hq,hqn⟩
     · exact .inl ((k.lm n).2 ⟨hm,hp⟩)
     · exact .inr ⟨q,(hmem q).2 (.inr hq),hqn⟩
def pieceS (s:S23) (by_ most limit:Int):Pc:=⟨(iN s most limit).1.From,(iN s most limit).1.To,by_,decide ((iN s most limit).1.To=endS s) && dueS s⟩
def pV (s:S23) (p:Pc):List Iv:=if p.To ≤ p.From then s.Lost else cutS s.Lost ⟨p.From,p.To⟩
theorem pk_of {s:S23} (h:G s) {by_ most limit:Int} (hb:0 ≤ by_ ∧ by_ < 4) (hm:1 ≤ most ∧ most ≤ 1000000) (hl:0 ≤ limit ∧ limit ≤ 4398046511104) (his:(iN s most limit).2=true):Pk s (pieceS s by_ most limit) (pV s (pieceS s by_ most limit)):=by
 obtain ⟨n1,n2,n3,n4⟩:=h.num
 have hlost:∀ p:Pc,p.From ≤ p.To → VS (pV s p) ∧ (∀ x ∈ pV s p,s.Base ≤ x.From ∧ x.To ≤ s.Next) ∧ ∀ n,mem n (pV s p) ↔ mem n s.Lost ∧ ¬ (p.From ≤ n ∧ n < p.To):=fun p hp=>by
  unfold pV
  by_cases hc:p.To ≤ p.From
  · rw [if_pos hc]
    exact ⟨h.lv,h.lb,fun n=>⟨fun hm=>⟨hm,by omega⟩,fun hm=>hm.1⟩⟩
  · rw [if_neg hc]
    have hx:(⟨p.From,p.To⟩:Iv).From < (⟨p.From,p.To⟩:Iv).To:=by show p.From < p.To; omega
    refine ⟨aEP h.lv hx,fun x hxm=>?_,fun n=>aCQ hx⟩
    obtain ⟨y,hy,a1,a2,a3,_⟩:=sK hxm
    have:=h.lb y hy
    omega
 unfold pieceS
 unfold iN at his ⊢
 cases hs:s.Lost with
 | cons x r =>
   simp only []
   have hx:x ∈ s.Lost:=by rw [hs]; simp
   have a1:=h.lv.ne x hx
   have a2:=h.lb x hx
   have hle:x.From ≤ x.From + min most (x.To - x.From):=by omega
   obtain ⟨b1,b2,b3⟩:=hlost ⟨x.From,x.From + min most (x.To - x.From),by_,decide (x.From + min most (x.To - x.From)=endS s) && dueS s⟩ hle
   refine ⟨a2.1,hle,by show x.From ≤ s.Next; omega,by show x.From + min most (x.To - x.From) ≤ _; omega,hb,fun he=>?_,fun q hq n h1 h2 hqn=>?_,rfl,b1,b2,b3⟩
   · have he:x.From=x.From + min most (x.To - x.From):=he
     omega
   · have h1:x.From ≤ n:=h1
     have h2:n < x.From + min most (x.To - x.From):=h2
     exact h.pd q hq n hqn.1 hqn.2 ⟨x,hx,h1,by omega⟩
 | nil =>
   rw [hs] at his
   simp only [] at his ⊢
   by_cases hc:0 < endS s - s.Next
   · rw [if_pos hc] at his
     simp only [if_pos hc]
     have hn:=of_decide_eq_true his
     have hle:s.Next ≤ s.Next + min (min (endS s - s.Next) most) (max limit s.Next - s.Next):=by omega
     obtain ⟨b1,b2,b3⟩:=hlost ⟨s.Next,s.Next + min (min (endS s - s.Next) most) (max limit s.Next - s.Next),by_,decide (s.Next + min (min (endS s - s.Next) most) (max limit s.Next - s.Next)=endS s) && dueS s⟩ hle
     refine ⟨n2,hle,Int.le_refl _,by show s.Next + min (min (endS s - s.Next) most) (max limit s.Next - s.Next) ≤ _; omega,hb,fun he=>?_,fun q hq n h1 h2 hqn=>?_,rfl,b1,b2,b3⟩
     · have he:s.Next=s.Next + min (min (endS s - s.Next) most) (max limit s.Next - s.Next):=he
       omega
     · have h1:s.Next ≤ n:=h1
       have:=(h.pb q hq).1; omega
   · rw [if_neg hc] at his
     simp only [if_neg hc]
     have hd:dueS s=true:=his
     have hne:s.Next=endS s:=by omega
     obtain ⟨b1,b2,b3⟩:=hlost ⟨s.Next,s.Next,by_,decide (s.Next=endS s) && dueS s⟩ (Int.le_refl _)
     refine ⟨n2,Int.le_refl _,Int.le_refl _,by show s.Next ≤ _; omega,hb,fun he=>⟨rfl,by show (decide (s.Next=endS s) && dueS s)=true; rw [hd,decide_eq_true hne]; rfl⟩,fun q hq n h1 h2 hqn=>?_,rfl,b1,b2,b3⟩
     have h1:s.Next ≤ n:=h1
     have h2:n < s.Next:=h2
     omega
theorem aDd {s:S23} (h:G s) {by_ most limit:Int} (hb:0 ≤ by_ ∧ by_ < 4) (hm:most ≤ 1000000) (hl:0 ≤ limit ∧ limit ≤ 4398046511104) (his:most < 1 ∨ (iN s most limit).2=false):nI s by_ most limit=some (s,⟨0,0,0,false⟩,[],false):=by
 have hp:=h.pl
 have hll:=h.ll
 unfold nI oI
 rw [aDh (by omega) (by omega),bnoS]
 simp only [bndD,decide_eq_true hb.1,decide_eq_true hb.2,Bool.and_self,bnoS,Bool.not_true,Bool.false_or]
 by_cases h1:most < 1
 · rw [decide_eq_true h1]
   simp only [tf,gdff,bnoS,Bool.true_or,dS]
 · rw [decide_eq_false h1]
   have h2:(iN s most limit).2=false:=by rcases his with h2 | h2; exact absurd h2 h1; exact h2
   simp only [beq_self_eq_true,gdtt,tP h,bnoS,decide_true,Bool.not_true,Bool.or_self,cU,aDj h ⟨by omega,hm⟩ hl,h2,Bool.not_false,dS]
theorem aEv {s:S23} (h:G s) {by_ most limit:Int} (hb:0 ≤ by_ ∧ by_ < 4) (hm:1 ≤ most ∧ most ≤ 1000000) (hl:0 ≤ limit ∧ limit ≤ 4398046511104) (his:(iN s most limit).2=true) :
 ∃ A B:List Pc,s.Pieces=A ++ B ∧ G (rK s (pieceS s by_ most limit) (pV s (pieceS s by_ most limit)) A B) ∧
   nI s by_ most limit=some (rK s (pieceS s by_ most limit) (pV s (pieceS s by_ most limit)) A B,pieceS s by_ most limit,(s.Data.take ((pieceS s by_ most limit).To - s.Base).toNat).drop ((pieceS s by_ most limit).From - s.Base).toNat,true):=by
 obtain ⟨n1,n2,n3,n4⟩:=h.num
 have hp:=h.pl
 have hll:=h.ll
 have k:=pk_of h hb hm hl his
 have k1:=k.lo; have k2:=k.le; have k3:=k.nx; have k4:=k.hi
 obtain ⟨A,B,e1,e2,e3,e4⟩:=place23 h (pieceS s by_ most limit) (by omega) (fun _=>k4)
 have hg:=g_pick h k e1 e2 e3
 refine ⟨A,B,e1,hg,?_⟩
 have hAl:A.length ≤ s.Pieces.length:=by rw [e1]; simp
 have hcut:cut s.Data ((pieceS s by_ most limit).From - s.Base) ((pieceS s by_ most limit).To - s.Base)=some ((s.Data.take ((pieceS s by_ most limit).To - s.Base).toNat).drop ((pieceS s by_ most limit).From - s.Base).toNat):=by
  unfold cut; rw [if_pos (by unfold endS at k4; omega)]
 have hJ1:∀ (p:Pc) (S1 A1:Bool) (L:List Iv),p=pieceS s by_ most limit → jV s by_ (s.Base,s.Data,s.Next,s.Pieces,s.Lost,s.Closed,s.Sent,s.Again,s.Done) (iN s most limit) (max s.Next (iN s most limit).1.To) L S1 A1 p.Fin =
  some (⟨s.Base,s.Data,max s.Next p.To,A ++ [p] ++ B,L,s.Closed,S1,A1,s.Done⟩,p,(s.Data.take (p.To - s.Base).toNat).drop (p.From - s.Base).toNat,true):=fun p S1 A1 L hp'=>by
  have hpe:(⟨(iN s most limit).1.From,(iN s most limit).1.To,by_,p.Fin⟩:Pc)=p:=by rw [hp']; rfl
  have hto:(iN s most limit).1.To=p.To:=by rw [hp']; rfl
  have hpe2:(⟨p.From,p.To,by_,p.Fin⟩:Pc)=p:=by rw [hp']; rfl
  have hfr:(iN s most limit).1.From=p.From:=by rw [hp']; rfl
  rw [← hp'] at e4 hcut k1 k2 k3 k4
  unfold jV
  simp only [hpe,hto,hfr,hpe2,e4,bnoS,fA]
  rw [insS_ok (by omega) (by omega) (by simp; omega) (by simp; omega),bnoS]
  simp only [bndD,w64 (show -9223372036854775808 ≤ p.From - s.Base by omega) (by omega),w64 (show -9223372036854775808 ≤ p.To - s.Base by omega) (by omega),hcut,bnoS,Int.toNat_natCast]
  rw [show s.Pieces.take A.length=A by rw [e1]; simp,show s.Pieces.drop A.length=B by rw [e1]; simp]
 have hJ0:∀ L:List Iv,lZ s by_ (s.Base,s.Data,s.Next,s.Pieces,s.Lost,s.Closed,s.Sent,s.Again,s.Done) (iN s most limit) (max s.Next (iN s most limit).1.To) L =
  some (⟨s.Base,s.Data,max s.Next (pieceS s by_ most limit).To,A ++ [pieceS s by_ most limit] ++ B,L,s.Closed,if (pieceS s by_ most limit).Fin=true then true else s.Sent,if (pieceS s by_ most limit).Fin=true then false else s.Again,s.Done⟩,pieceS s by_ most limit,(s.Data.take ((pieceS s by_ most limit).To - s.Base).toNat).drop ((pieceS s by_ most limit).From - s.Base).toNat,true):=fun L=>by
  have hfin:∀ {β:Type} (g:Bool → Option β),(bno (gd (decide ((iN s most limit).1.To=endS s) == true) (some (dueS s)) default) fun x32=>g (decide ((iN s most limit).1.To=endS s) && x32))=g (pieceS s by_ most limit).Fin:=fun g=>by
   show _=g (decide ((iN s most limit).1.To=endS s) && dueS s)
   cases decide ((iN s most limit).1.To=endS s) <;> rfl
  unfold lZ
  simp only [pE h,bnoS,bndD,due23]
  rw [hfin (fun z=>bif z then jV s by_ (s.Base,s.Data,s.Next,s.Pieces,s.Lost,s.Closed,s.Sent,s.Again,s.Done) (iN s most limit) (max s.Next (iN s most limit).1.To) L true false z else jV s by_ (s.Base,s.Data,s.Next,s.Pieces,s.Lost,s.Closed,s.Sent,s.Again,s.Done) (iN s most limit) (max s.Next (iN s most limit).1.To) L s.Sent s.Again z)]
  have a1:=hJ1 _ true false L rfl
  have a2:=hJ1 _ s.Sent s.Again L rfl
  cases hF:(pieceS s by_ most limit).Fin
  · rw [hF] at a2; rw [cU,a2]; rfl
  · rw [hF] at a1; rw [dS,a1]; rfl
 unfold nI oI
 rw [aDh (by omega) (by omega),bnoS]
 simp only [bndD,decide_eq_true hb.1,decide_eq_true hb.2,Bool.and_self,bnoS,Bool.not_true,Bool.false_or,decide_eq_false (show ¬ most < 1 by omega),beq_self_eq_true,gdtt,tP h,decide_true,Bool.or_self,cU,aDj h hm hl,his]
 unfold fQ
 have hpf:(pieceS s by_ most limit).From=(iN s most limit).1.From:=rfl
 have hpt:(pieceS s by_ most limit).To=(iN s most limit).1.To:=rfl
 by_cases hc:(iN s most limit).1.From < (iN s most limit).1.To
 · rw [decide_eq_true hc,dS,bnoS]
   simp only []
   rw [aEN (x:=(⟨(iN s most limit).1.From,(iN s most limit).1.To⟩:Iv)) (by omega) h.lv ⟨by show 0 ≤ (iN s most limit).1.From; omega,by show (iN s most limit).1.From ≤ _; omega,by show 0 ≤ (iN s most limit).1.To; omega,by show (iN s most limit).1.To ≤ _; omega⟩,bnoS]
   exact hJ0 _
 · rw [decide_eq_false hc,cU]
   have hL:pV s (pieceS s by_ most limit)=s.Lost:=by unfold pV; rw [if_pos (by omega)]
   have:=hJ0 s.Lost
   rw [hL]
   exact this
end Go.Fn
open Go Go.IL
namespace Go.Fn
def cmap (b:Int) (fin:Bool) (p:Pc):Pc:=⟨max p.From b,max p.To b,p.Path,p.Fin && !fin⟩
def yM (p:Pc):Bool:=decide (p.From=p.To) && !p.Fin
def wJ (l:List Iv) (b:Int):List Iv:=if b ≤ 0 then l else cutS l ⟨0,b⟩
def aAa (s:S23) (n:Int) (fin:Bool):S23:=⟨max n s.Base,s.Data.drop (max n s.Base - s.Base).toNat,s.Next,(s.Pieces.map (cmap (max n s.Base) fin)).filter (fun p=>!yM p),wJ s.Lost (max n s.Base),s.Closed,s.Sent,if fin=true then false else s.Again,if fin=true then true else s.Done⟩
def tB (s:S23) (n:Int) (fin:Bool):Prop:=0 ≤ n ∧ n ≤ s.Next ∧ (fin=true → n=endS s ∧ s.Sent=true)
instance (s:S23) (n:Int) (fin:Bool):Decidable (tB s n fin):=by unfold tB; infer_instance
theorem delC {l:List Pc} (hl:l.length ≤ 100000):dK l=some (l.filter fun y=>!yM y) :=
 tA (P:=fun x=>oJ x) (q:=yM) (I:=cP l) (L:=cH) (fun _=>rfl) (fun _ _=>rfl) (fun _ _ _ _=>rfl) hl
theorem delD {l:List Pc} {k:Int} (hl:l.length ≤ 100000):dJ l k=some (l.filter fun y=>!decide (y.Path=k)) :=
 tA (P:=fun x=>lT x k) (q:=fun y=>decide (y.Path=k)) (I:=cO l k) (L:=cG k) (fun _=>rfl) (fun _ _=>rfl) (fun _ _ _ _=>rfl) hl
theorem set_at {α:Type} {p r:List α} {x y:α}:(p ++ x :: r).set p.length y=p ++ y :: r:=by rw [List.set_append_right _ _ (Nat.le_refl _)]; simp
theorem get_at {α:Type} {p r:List α} {x:α}:(p ++ x :: r)[p.length]? = some x:=by rw [List.getElem?_append_right (Nat.le_refl _)]; simp
def tup (s:S23):(Int × (List UInt8) × Int × (List aL) × (List aI) × Bool × Bool × Bool × Bool):=(s.Base,s.Data,s.Next,s.Pieces,s.Lost,s.Closed,s.Sent,s.Again,s.Done)
theorem aFx {s:S23} (h:G s) {n:Int} {fin:Bool} (hn:tB s n fin):∀ (r p:List Pc) (f:Nat),s.Pieces=p ++ r → r.length < f → jW s fin (tup s) (max n s.Base) f (p.length:Int) (p.map (cmap (max n s.Base) fin) ++ r)=some (aAa s n fin)
 | [],p,f + 1,hs,_=>by
   obtain ⟨n1,n2,n3,n4⟩:=h.num
   obtain ⟨c1,c2,c3⟩:=hn
   have hpl:=h.pl
   have hll:=h.ll
   have hlen:p.length=s.Pieces.length:=by rw [hs]; simp
   rw [List.append_nil] at hs
   unfold jW
   have hcut:cut s.Data (max n s.Base - s.Base) (s.Data.length:Int)=some (s.Data.drop (max n s.Base - s.Base).toNat):=by
    unfold cut
    unfold endS at n3
    rw [if_pos (by omega),Int.toNat_natCast,List.take_length]
   rw [List.append_nil,← hs]
   have hlt:decide ((s.Pieces.length:Int) < ((tup s).2.2.2.1.length:Int))=false:=sX
   have hL:(tup s).2.2.2.2.1=s.Lost:=rfl
   simp only [bndD,hlt,cU]
   rw [delC (by rw [List.length_map]; omega),bnoS,w64 (by omega) (by omega),hcut,bnoS,hL,aEN (x:=(⟨0,max n s.Base⟩:Iv)) (by omega) h.lv ⟨Int.le_refl _,by show (0:Int) ≤ _; decide,by show 0 ≤ max n s.Base; omega,by show max n s.Base ≤ _; omega⟩,bnoS]
   unfold aAa wJ
   cases fin <;> rfl
 | x :: r,p,f + 1,hs,hf=>by
   have hpl:=h.pl
   have hpp:p.length + (r.length + 1)=s.Pieces.length:=by rw [hs]; simp
   have ih:=aFx h hn r (p ++ [x]) f (kS hs) (by simpa using hf)
   unfold jW
   have hlt:decide ((p.length:Int) < ((tup s).2.2.2.1.length:Int))=true:=nO hs
   have hm:(p.map (cmap (max n s.Base) fin)).length=p.length:=List.length_map _
   have hg:∀ y:Pc,(p.map (cmap (max n s.Base) fin) ++ y :: r)[((p.length:Int)).toNat]? = some y:=fun y=>by rw [Int.toNat_natCast,← hm]; exact get_at
   have hst:∀ y z:Pc,(p.map (cmap (max n s.Base) fin) ++ y :: r).set ((p.length:Int)).toNat z=p.map (cmap (max n s.Base) fin) ++ z :: r:=fun y z=>by rw [Int.toNat_natCast,← hm]; exact set_at
   have hgx:gix (p.map (cmap (max n s.Base) fin) ++ x :: r) (p.length:Int)=some x:=by rw [← hm]; exact iF rfl
   simp only [bndD,hlt,dS,hgx,hg,hst,bnoS,w_at hs (show s.Pieces.length ≤ 1000000 by omega)]
   rw [List.map_append,List.append_assoc] at ih
   exact ih
theorem aFy {s:S23} (h:G s) (n:Int) (fin:Bool):pQ s n fin=some (if tB s n fin then aAa s n fin else s):=by
 have hp:=h.pl
 have hl:=h.ll
 unfold pQ
 rw [aDh (by omega) (by omega),bnoS,tP h,bnoS]
 simp only [bndD,decide_true,Bool.not_true,Bool.false_or]
 by_cases hc:tB s n fin
 · obtain ⟨c1,c2,c3⟩:=hc
   rw [if_pos ⟨c1,c2,c3⟩,decide_eq_false (show ¬ n < 0 by omega),decide_eq_false (show ¬ s.Next < n by omega)]
   have:=aFx h ⟨c1,c2,c3⟩ s.Pieces [] fuel rfl (eM (by omega))
   cases fin
   · simp only [Bool.or_self,beq_self_eq_true,ft,Bool.and_false,gdff,bnoS,Bool.false_and,cU]
     exact this
   · obtain ⟨c4,c5⟩:=c3 rfl
     have hx:(!decide (n=endS s) || !s.Sent)=false:=by rw [decide_eq_true c4,c5]; rfl
     simp only [Bool.or_self,beq_self_eq_true,Bool.and_self,gdtt,pE h,bnoS,hx,Bool.and_false,cU]
     exact this
 · rw [if_neg hc]
   by_cases c1:n < 0
   · rw [decide_eq_true c1]
     simp only [Bool.true_or,tf,Bool.false_and,gdff,bnoS,dS]
   · by_cases c2:s.Next < n
     · rw [decide_eq_true c2]
       simp only [Bool.or_true,Bool.true_or,tf,Bool.false_and,gdff,bnoS,dS]
     · cases fin
       · exact absurd ⟨by omega,by omega,fun h=>(by cases h)⟩ hc
       · have:(!decide (n=endS s) || !s.Sent)=true:=by
          cases hS:s.Sent
          · simp
          · by_cases c3:n=endS s
            · exact absurd ⟨by omega,by omega,fun _=>⟨c3,hS⟩⟩ hc
            · rw [decide_eq_false c3]; rfl
         rw [decide_eq_false c1,decide_eq_false c2]
         simp only [Bool.or_self,beq_self_eq_true,Bool.and_self,gdtt,pE h,bnoS,this,Bool.and_true,Bool.or_true,dS]
theorem xU {l:List Iv} {b:Int} (hl:∀ x ∈ l,0 ≤ x.From) {n:Int}:mem n (wJ l b) ↔ mem n l ∧ b ≤ n:=by
 unfold wJ
 split
 · refine ⟨fun hm=>⟨hm,?_⟩,fun hm=>hm.1⟩
   obtain ⟨x,hx,h1,h2⟩:=hm
   have:=hl x hx; omega
 · rw [aCQ (by show 0 < b; omega)]
   refine ⟨fun hm=>⟨hm.1,?_⟩,fun hm=>⟨hm.1,by have:=hm.2; show ¬ (0 ≤ n ∧ n < b); omega⟩⟩
   obtain ⟨x,hx,h1,h2⟩:=hm.1
   have:=hl x hx
   have h3:¬ (0 ≤ n ∧ n < b):=hm.2
   omega
theorem aFK (b:Int) (l:List Pc):fins ((l.map (cmap b false)).filter (fun p=>!yM p))=fins l:=by
 unfold fins
 rw [List.filter_filter,List.filter_map,List.length_map]
 congr 1
 apply List.filter_congr
 intro p _
 unfold yM cmap
 cases hp:p.Fin <;> simp [hp]
theorem vA {s:S23} {b:Int} {fin:Bool} {q:Pc} (hq:q ∈ (s.Pieces.map (cmap b fin)).filter (fun p=>!yM p)):∃ p ∈ s.Pieces,q=cmap b fin p ∧ (q.From=q.To → q.Fin=true):=by
 obtain ⟨h1,h2⟩:=List.mem_filter.1 hq
 obtain ⟨p,hp,rfl⟩:=List.mem_map.1 h1
 refine ⟨p,hp,rfl,fun he=>?_⟩
 unfold yM at h2
 rw [decide_eq_true he] at h2
 simpa using h2
theorem aAZ {s:S23} (h:G s) {n:Int} {fin:Bool} (hc:tB s n fin):endS (aAa s n fin)=endS s:=by
 obtain ⟨n1,n2,n3,n4⟩:=h.num
 obtain ⟨c1,c2,c3⟩:=hc
 unfold endS at n3
 show max n s.Base + ((s.Data.drop (max n s.Base - s.Base).toNat).length:Int)=s.Base + _
 rw [List.length_drop]; omega
theorem g_came {s:S23} (h:G s) {n:Int} {fin:Bool} (hc:tB s n fin):G (aAa s n fin):=by
 obtain ⟨n1,n2,n3,n4⟩:=h.num
 have he:=aAZ h hc
 obtain ⟨c1,c2,c3⟩:=hc
 have hd:=h.dl
 refine ⟨by show 0 ≤ max n s.Base; omega,by show max n s.Base ≤ s.Next; omega,by rw [he]; exact n3,by rw [he]; exact n4,by show (s.Data.drop _).length ≤ _; rw [List.length_drop]; omega,?_,fun x hx=>?_,?_,fun q hq=>?_,fun q hq=>?_,fun q hq m h1 h2=>?_,fun q hq hF=>?_,?_,fun hS=>?_,fun hS=>?_,fun m h1 h2=>?_⟩
 · show VS (wJ s.Lost (max n s.Base))
   unfold wJ
   split
   · exact h.lv
   · exact aEP h.lv (by show 0 < max n s.Base; omega)
 · have hx:x ∈ wJ s.Lost (max n s.Base):=hx
   show max n s.Base ≤ x.From ∧ x.To ≤ s.Next
   unfold wJ at hx
   split at hx
   · have:=h.lb x hx; omega
   · obtain ⟨y,hy,a1,a2,a3,a4⟩:=sK hx
     have:=h.lb y hy
     have a4:x.To ≤ 0 ∨ max n s.Base ≤ x.From:=a4
     omega
 · show ((s.Pieces.map (cmap (max n s.Base) fin)).filter (fun p=>!yM p)).Pairwise _
   refine List.Pairwise.filter _ ?_
   rw [List.pairwise_map]
   exact h.pw.imp fun {a b} hab=>by show max a.To _ ≤ max b.From _; omega
 · obtain ⟨p,hp,rfl,_⟩:=vA hq
   obtain ⟨⟨a1,a2,a3⟩,a4⟩:=h.pb p hp
   exact ⟨⟨by show max n s.Base ≤ max p.From _; omega,by show max p.From _ ≤ max p.To _; omega,by show max p.To _ ≤ s.Next; omega⟩,a4⟩
 · obtain ⟨p,hp,rfl,h1⟩:=vA hq
   exact h1
 · obtain ⟨p,hp,rfl,_⟩:=vA hq
   have h1:max p.From (max n s.Base) ≤ m:=h1
   have h2:m < max p.To (max n s.Base):=h2
   intro hm
   have hm:mem m (wJ s.Lost (max n s.Base)):=hm
   exact h.pd p hp m (by omega) (by omega) ((xU h.lv.lo).1 hm).1
 · obtain ⟨p,hp,rfl,_⟩:=vA hq
   have hF:(p.Fin && !fin)=true:=hF
   rw [he]
   show max p.To _=_
   rw [h.fe p hp (Bool.and_eq_true _ _ |>.mp hF).1]; omega
 · show fins ((s.Pieces.map (cmap (max n s.Base) fin)).filter (fun p=>!yM p))=_
   cases fin
   · rw [aFK,h.fc]; rfl
   · have h0:fins ((s.Pieces.map (cmap (max n s.Base) true)).filter (fun p=>!yM p))=0:=by
      unfold fins
      rw [List.length_eq_zero_iff,List.filter_eq_nil_iff]
      intro q hq hF
      obtain ⟨p,hp,rfl,_⟩:=vA hq
      have hF:(p.Fin && !true)=true:=hF
      simp at hF
     rw [h0,if_neg]
     rintro ⟨x1,x2,x3⟩
     have x3:(if true=true then true else s.Done)=false:=x3
     simp at x3
 · obtain ⟨a1,a2,a3⟩:=h.se hS
   refine ⟨a1,by rw [he]; exact a2,?_⟩
   show ¬ ((if fin=true then false else s.Again)=true ∧ (if fin=true then true else s.Done)=true)
   cases fin
   · exact a3
   · simp
 · have hS:s.Sent=false:=hS
   cases fin
   · exact h.ns hS
   · have h5:s.Sent=true:=(c3 rfl).2
     exact absurd (hS.symm.trans h5) (by decide)
 · have h1:max n s.Base ≤ m:=h1
   have h2:m < s.Next:=h2
   rcases h.cov m (by omega) h2 with hm | ⟨p,hp,hpm⟩
   · exact .inl ((xU h.lv.lo).2 ⟨hm,h1⟩)
   · refine .inr ⟨cmap (max n s.Base) fin p,List.mem_filter.2 ⟨List.mem_map.2 ⟨p,hp,rfl⟩,?_⟩,by show max p.From _ ≤ m; omega,by show m < max p.To _; omega⟩
     show (!(decide (max p.From (max n s.Base)=max p.To (max n s.Base)) && !(p.Fin && !fin)))=true
     rw [decide_eq_false (show ¬ max p.From (max n s.Base)=max p.To (max n s.Base) by omega)]; rfl
theorem pw_ne {l:List Pc} (h:l.Pairwise (fun p q=>p.To ≤ q.From)) {p q:Pc} (hp:p ∈ l) (hq:q ∈ l) (hne:p ≠ q):p.To ≤ q.From ∨ q.To ≤ p.From:=by
 induction l with
 | nil=>exact (List.not_mem_nil hp).elim
 | cons x l ih =>
   have h:=List.pairwise_cons.1 h
   rcases List.mem_cons.1 hp with h1 | h1
   · rcases List.mem_cons.1 hq with h2 | h2
     · exact absurd (h1.trans h2.symm) hne
     · rw [h1]; exact .inl (h.1 q h2)
   · rcases List.mem_cons.1 hq with h2 | h2
     · rw [h2]; exact .inr (h.1 p h1)
     · exact ih h.2 h1 h2
def anyD (l:List Pc) (k:Int):Bool:=l.any fun p=>decide (p.Path=k) && p.Fin
structure DL (s:S23) (p:List Pc) (k:Int) (L:List Iv):Prop where
 lv:VS L
 lb:∀ x ∈ L,s.Base ≤ x.From ∧ x.To ≤ s.Next
 lm:∀ n,mem n L ↔ mem n s.Lost ∨ ∃ q ∈ p,q.Path=k ∧ q.From ≤ n ∧ n < q.To
 le:(∀ q ∈ p,q.Path=k → q.From=q.To) → L=s.Lost
theorem aEU {L:List Iv} {a b:Int} (h:VS L) (hm:∀ n,mem n L → a ≤ n ∧ n < b):∀ x ∈ L,a ≤ x.From ∧ x.To ≤ b:=fun x hx=>by
 have h0:=h.ne x hx
 have h1:=hm x.From ⟨x,hx,by omega,by omega⟩
 have h2:=hm (x.To - 1) ⟨x,hx,by omega,by omega⟩
 omega
theorem DL.len {s:S23} (h:G s) {p:List Pc} {k:Int} {L:List Iv} (d:DL s p k L):L.length ≤ 4096:=by
 have h1:=aAh d.lv.pw d.lv.ne d.lb h.bn
 have h2:=h.nd
 have h3:=h.dl
 unfold endS at h2; omega
def aFP (s:S23) (k:Int) (L:List Iv):S23:=⟨s.Base,s.Data,s.Next,s.Pieces.filter (fun y=>!decide (y.Path=k)),L,s.Closed,s.Sent,s.Again || anyD s.Pieces k,s.Done⟩
theorem aEL {s:S23} (h:G s) (k:Int):∀ (r p:List Pc) (f:Nat) (L:List Iv),s.Pieces=p ++ r → r.length < f → DL s p k L → ∃ L',DL s s.Pieces k L' ∧ iQ s k (tup s) f (p.length:Int) L (s.Again || anyD p k)=some (aFP s k L')
 | [],p,f + 1,L,hs,_,d=>by
   have hpl:=h.pl
   rw [List.append_nil] at hs
   rw [← hs] at d ⊢
   refine ⟨L,d,?_⟩
   unfold iQ
   simp only [tup,bndD,sX,cU,delD (show s.Pieces.length ≤ 100000 by omega),bnoS]
   rfl
 | x :: r, p, f + 1,L,hs,hf,d=>by
   have hx:x ∈ s.Pieces:=by rw [hs]; simp
   have hpl:=h.pl
   obtain ⟨n1,n2,n3,n4⟩:=h.num
   obtain ⟨⟨a1,a2,a3⟩,a4⟩:=h.pb x hx
   have hd1:lT x k=some (decide (x.Path=k)):=rfl
   have hany:anyD (p ++ [x]) k=(anyD p k || (decide (x.Path=k) && x.Fin)):=by unfold anyD; rw [List.any_append]; simp
   unfold iQ
   simp only [bndD,nO hs,dS,iF hs,bnoS,hd1,w_at hs (show s.Pieces.length ≤ 1000000 by omega)]
   by_cases hk:x.Path=k
   · have hdl := d.len h
     obtain ⟨t,e1,e2,e3,e4,e5⟩:=add_eq (s:=L) (x:=(⟨x.From,x.To⟩:Iv)) (by omega) d.lv (by show 0 ≤ x.From; omega) (by show x.To ≤ _; omega) a2
     have hb:∀ y ∈ t,s.Base ≤ y.From ∧ y.To ≤ s.Next:=aEU e2 fun n hm=>by
      rcases (e3 n).1 hm with hm | hm
      · obtain ⟨y,hy,h1,h2⟩:=hm
        have:=d.lb y hy; omega
      · have:x.From ≤ n ∧ n < x.To:=hm
        omega
     have d2:DL s (p ++ [x]) k t:=by
      refine ⟨e2,hb,fun n=>?_,fun hq=>?_⟩
      · rw [e3,d.lm]
        constructor
        · rintro ((h1 | ⟨q,hq,h2⟩) | h1)
          · exact .inl h1
          · exact .inr ⟨q,by simp [hq],h2⟩
          · exact .inr ⟨x,by simp,hk,h1⟩
        · rintro (h1 | ⟨q,hq,h2⟩)
          · exact .inl (.inl h1)
          · rcases List.mem_append.1 hq with hq | hq
            · exact .inl (.inr ⟨q,hq,h2⟩)
            · rw [List.mem_singleton.1 hq] at h2
              exact .inr h2.2
      · rw [e4 (hq x (by simp) hk)]
        exact d.le fun q hq'=>hq q (by simp [hq'])
     have ih:=aEL h k r (p ++ [x]) f t (kS hs) (by simpa using hf) d2
     rw [hany,decide_eq_true hk,Bool.true_and,← Bool.or_assoc] at ih
     rw [decide_eq_true hk,dS]
     unfold fQ
     simp only [bnoS,e1]
     exact ih
   · have d2:DL s (p ++ [x]) k L:=by
      refine ⟨d.lv,d.lb,fun n=>?_,fun hq=>d.le fun q hq'=>hq q (by simp [hq'])⟩
      rw [d.lm]
      constructor
      · rintro (h1 | ⟨q,hq,h2⟩)
        · exact .inl h1
        · exact .inr ⟨q,by simp [hq],h2⟩
      · rintro (h1 | ⟨q,hq,h2⟩)
        · exact .inl h1
        · rcases List.mem_append.1 hq with hq | hq
          · exact .inr ⟨q,hq,h2⟩
          · rw [List.mem_singleton.1 hq] at h2
            exact absurd h2.1 hk
     have ih:=aEL h k r (p ++ [x]) f L (kS hs) (by simpa using hf) d2
     rw [hany,decide_eq_false hk,Bool.false_and,Bool.or_false] at ih
     rw [decide_eq_false hk,cU]
     exact ih
theorem dead23 {s:S23} (h:G s) (k:Int):∃ L,DL s s.Pieces k L ∧ rG s k=some (aFP s k L):=by
 have hp:=h.pl
 have hl:=h.ll
 obtain ⟨L,d,e⟩:=aEL h k s.Pieces [] fuel s.Lost rfl (eM (by omega)) ⟨h.lv,h.lb,fun n=>by simp,fun _=>rfl⟩
 refine ⟨L,d,?_⟩
 unfold rG
 rw [aDh (by omega) (by omega),bnoS,tP h,bnoS]
 simp only [bndD,decide_true,Bool.not_true,cU]
 rw [show anyD [] k=false from rfl,Bool.or_false] at e
 exact e
theorem zI (l:List Pc) (k:Int):fins l=fins (l.filter fun y=>!decide (y.Path=k)) + (l.filter fun p=>decide (p.Path=k) && p.Fin).length:=by
 unfold fins
 rw [List.filter_filter]
 induction l with
 | nil=>rfl
 | cons x l ih =>
   simp only [List.filter_cons]
   cases hF:x.Fin <;> by_cases hk:x.Path=k <;> simp [hF,hk] <;> omega
theorem g_dead {s:S23} (h:G s) {k:Int} {L:List Iv} (d:DL s s.Pieces k L):G (aFP s k L):=by
 obtain ⟨n1,n2,n3,n4⟩:=h.num
 have hmem:∀ q,q ∈ s.Pieces.filter (fun y=>!decide (y.Path=k)) ↔ q ∈ s.Pieces ∧ q.Path ≠ k:=fun q=>by rw [List.mem_filter]; simp
 have hany:anyD s.Pieces k=true → s.Sent=true ∧ s.Again=false ∧ s.Done=false ∧ fins (s.Pieces.filter fun y=>!decide (y.Path=k))=0:=fun ha=>by
  unfold anyD at ha
  obtain ⟨p,hp,hpk⟩:=List.any_eq_true.1 ha
  have h1:0 < (s.Pieces.filter fun p=>decide (p.Path=k) && p.Fin).length:=List.length_pos_of_mem (List.mem_filter.2 ⟨hp,hpk⟩)
  have h2:=zI s.Pieces k
  have h3:=h.fc
  by_cases hc:s.Sent=true ∧ s.Again=false ∧ s.Done=false
  · rw [if_pos hc] at h3
    exact ⟨hc.1,hc.2.1,hc.2.2,by rw [h3] at h2; generalize fins (s.Pieces.filter fun y=>!decide (y.Path=k))=a at *; generalize (s.Pieces.filter fun p=>decide (p.Path=k) && p.Fin).length=b at *; clear h; omega⟩
  · rw [if_neg hc] at h3; rw [h3] at h2; generalize fins (s.Pieces.filter fun y=>!decide (y.Path=k))=a at *; generalize (s.Pieces.filter fun p=>decide (p.Path=k) && p.Fin).length=b at *; clear h; omega
 have hno:anyD s.Pieces k=false → fins (s.Pieces.filter fun y=>!decide (y.Path=k))=fins s.Pieces:=fun ha=>by
  have h2:=zI s.Pieces k
  have h1:(s.Pieces.filter fun p=>decide (p.Path=k) && p.Fin)=[]:=by
   rw [List.filter_eq_nil_iff]
   intro p hp
   exact Bool.not_eq_true _ |>.mpr (List.any_eq_false.1 ha p hp |> fun h=>by simpa using h)
  rw [h1] at h2; simpa using h2.symm
 refine ⟨h.b0,h.bn,h.nd,h.en,h.dl,d.lv,d.lb,List.Pairwise.filter _ h.pw,fun q hq=>h.pb q ((hmem q).1 hq).1,fun q hq=>h.pf q ((hmem q).1 hq).1,fun q hq m h1 h2 hm=>?_,fun q hq=>h.fe q ((hmem q).1 hq).1,?_,fun hS=>?_,fun hS=>?_,fun m h1 h2=>?_⟩
 · obtain ⟨q1,q2⟩:=(hmem q).1 hq
   rcases (d.lm m).1 hm with hm | ⟨p,hp,hpk,h3,h4⟩
   · exact h.pd q q1 m h1 h2 hm
   · have hne:p ≠ q:=fun e=>q2 (e ▸ hpk)
     have:=pw_ne h.pw hp q1 hne
     omega
 · show fins (s.Pieces.filter fun y=>!decide (y.Path=k))=if s.Sent=true ∧ (s.Again || anyD s.Pieces k)=false ∧ s.Done=false then 1 else 0
   cases ha:anyD s.Pieces k
   · rw [hno ha,h.fc,Bool.or_false]
   · rw [(hany ha).2.2.2,Bool.or_true]; simp
 · obtain ⟨a1,a2,a3⟩:=h.se hS
   refine ⟨a1,a2,?_⟩
   show ¬ ((s.Again || anyD s.Pieces k)=true ∧ s.Done=true)
   cases ha:anyD s.Pieces k
   · rw [Bool.or_false]; exact a3
   · rw [(hany ha).2.2.1]; simp
 · have hS:s.Sent=false:=hS
   obtain ⟨a1,a2⟩:=h.ns hS
   refine ⟨?_,a2⟩
   show (s.Again || anyD s.Pieces k)=false
   cases ha:anyD s.Pieces k
   · rw [a1]; rfl
   · have:=(hany ha).1; rw [hS] at this; cases this
 · rcases h.cov m h1 h2 with hm | ⟨p,hp,hpm⟩
   · exact .inl ((d.lm m).2 (.inl hm))
   · by_cases hk:p.Path=k
     · exact .inl ((d.lm m).2 (.inr ⟨p,hp,hk,hpm⟩))
     · exact .inr ⟨p,(hmem p).2 ⟨hp,hk⟩,hpm⟩
end Go.Fn
open Go Go.IL
namespace Go.Fn
structure Went (s s':S23):Prop where
 g:G s'
 base:s.Base ≤ s'.Base
 data:s'.Data=s.Data.drop (s'.Base - s.Base).toNat
 next:s.Next ≤ s'.Next
 done:s.Done=true → s'.Done=true
 en:endS s'=endS s
theorem Went.refl {s:S23} (h:G s):Went s s:=⟨h,Int.le_refl _,by simp,Int.le_refl _,id,rfl⟩
theorem aDA {s:S23} (h:G s) (n:Int) (fin:Bool):∃ s',pQ s n fin=some s' ∧ Went s s':=by
 refine ⟨_,aFy h n fin,?_⟩
 split
 · rename_i hc
   refine ⟨g_came h hc,by show s.Base ≤ max n s.Base; omega,rfl,Int.le_refl _,fun hd=>?_,aAZ h hc⟩
   show (if fin=true then true else s.Done)=true
   cases fin <;> simp [hd]
 · exact .refl h
theorem want23 {s:S23} (h:G s) {limit:Int} (hl:0 ≤ limit ∧ limit ≤ 4398046511104):rF s limit=some (iN s 1 limit).2:=by
 unfold rF
 rw [tP h,bnoS]
 simp only [bndD,decide_true,Bool.not_true,cU,aDj h (show (1:Int) ≤ 1 ∧ (1:Int) ≤ 1000000 by decide) hl,bnoS]
structure All (s:S23) (all:List UInt8):Prop where
 g:G s
 data:s.Data=all.drop s.Base.toNat
 len:(all.length:Int)=endS s
theorem aCW {s s':S23} {all:List UInt8} (h:All s all) (w:Went s s'):All s' all:=by
 have hb:=h.g.b0
 have hn:=w.g.num
 have hn0:=h.g.num
 have hb1:=w.base
 have hd:s'.Data=all.drop s'.Base.toNat:=by
  rw [w.data,h.data,List.drop_drop]
  congr 1; omega
 exact ⟨w.g,hd,by rw [w.en]; exact h.len⟩
theorem all_cut {s:S23} {all ext:List UInt8} (h:All s all) {i j:Int} (h0:s.Base ≤ i) (h1:i ≤ j) (h2:j ≤ endS s):cut (all ++ ext) i j=some ((s.Data.take (j - s.Base).toNat).drop (i - s.Base).toNat):=by
 have hb:=h.g.b0
 have hl:=h.len
 unfold cut
 rw [if_pos (by rw [List.length_append]; omega),List.take_append_of_le_length (by omega),h.data]
 congr 1
 apply List.ext_getElem?
 intro n
 rw [List.getElem?_drop,List.getElem?_drop,List.getElem?_take,List.getElem?_take,List.getElem?_drop]
 by_cases hc:i.toNat + n < j.toNat
 · rw [if_pos hc,if_pos (by omega)]; congr 1; omega
 · rw [if_neg hc,if_neg (by omega)]
theorem aEc {s:S23} {all:List UInt8} (h:All s all) (str:List UInt8):All (wX s str) (all ++ str.take (writeN s str)):=by
 have hb:=h.g.b0
 have hn:=h.g.num
 have hl:=h.len
 obtain ⟨k1,k2⟩:=wY h.g str
 refine ⟨g_write h.g str,?_,?_⟩
 · show s.Data ++ _=(all ++ _).drop s.Base.toNat
   rw [h.data,List.drop_append_of_le_length (by omega)]
 · rw [List.length_append,List.length_take,Nat.min_eq_left k2]
   unfold endS at *
   show _=s.Base + ((s.Data ++ str.take (writeN s str)).length:Int)
   rw [List.length_append,List.length_take,Nat.min_eq_left k2]; omega
end Go.Fn
open Go Go.IL
namespace Go.Fn
theorem aDi {s:S23} (h:G s) (hp:s.Pieces=[]) (hs:s.Lost=[]):s.Next=s.Base:=by
 have hb:=h.bn
 by_cases hc:s.Base < s.Next
 · rcases h.cov s.Base (Int.le_refl _) hc with ⟨y,hy,_⟩ | ⟨p,hp',_⟩
   · rw [hs] at hy; exact (List.not_mem_nil hy).elim
   · rw [hp] at hp'; exact (List.not_mem_nil hp').elim
 · omega
end Go.Fn
open Go Go.IL
namespace Go.Fn
end Go.Fn
open Go Go.IL
namespace Go.Fn
def sl (W:List UInt8) (a b:Int):List UInt8:=(W.take b.toNat).drop a.toNat
theorem nW {W:List UInt8} {a b:Int} (h0:0 ≤ a) (h1:a ≤ b) (h2:b ≤ (W.length:Int)):((sl W a b).length:Int)=b - a:=by
 unfold sl; rw [List.length_drop,List.length_take]; omega
theorem aAr {W:List UInt8} {a b:Int} (n:Nat):(sl W a b)[n]? = if a.toNat + n < b.toNat then W[a.toNat + n]? else none:=by
 unfold sl; rw [List.getElem?_drop,List.getElem?_take]
theorem vT {W:List UInt8} {a b:Int} (h:b ≤ a):sl W a b=[]:=by
 unfold sl; rw [List.drop_eq_nil_iff,List.length_take]; omega
theorem aAs {W:List UInt8} {a b c:Int} (h0:0 ≤ a) (h1:a ≤ b) (h2:b ≤ c) (h3:c ≤ (W.length:Int)):sl W a b ++ sl W b c=sl W a c:=by
 apply List.ext_getElem?
 intro n
 have hl:=nW (W:=W) h0 h1 (by omega)
 rw [List.getElem?_append,aAr,aAr,aAr]
 by_cases hn:n < (sl W a b).length
 · rw [if_pos hn,if_pos (by omega),if_pos (by omega)]
 · rw [if_neg hn]
   by_cases hc:a.toNat + n < c.toNat
   · rw [if_pos (by omega),if_pos hc]; congr 1; omega
   · rw [if_neg (by omega),if_neg hc]
theorem xB {W:List UInt8} {a b i j:Int} (h0:0 ≤ a) (h1:a ≤ b) (h2:b ≤ (W.length:Int)) (h3:0 ≤ i) (h4:i ≤ j) (h5:j ≤ b - a):cut (sl W a b) i j=some (sl W (a + i) (a + j)):=by
 have hl:=nW (W:=W) h0 h1 h2
 unfold cut
 rw [if_pos (by omega)]
 congr 1
 apply List.ext_getElem?
 intro n
 rw [List.getElem?_drop,List.getElem?_take,aAr,aAr]
 by_cases hc:i.toNat + n < j.toNat
 · rw [if_pos hc,if_pos (by omega),if_pos (by omega)]; congr 1; omega
 · rw [if_neg hc,if_neg (by omega)]
theorem aDK {W e:List UInt8} {a b:Int} (h:b ≤ (W.length:Int)):sl (W ++ e) a b=sl W a b:=by
 unfold sl; rw [List.take_append_of_le_length (by omega)]
theorem aFg (W:List UInt8):sl W 0 (W.length:Int)=W:=by unfold sl; simp
theorem aDJ (W:List UInt8) (b:Int):sl W 0 b=W.take b.toNat:=by unfold sl; simp
end Go.Fn
open Go Go.IL
namespace Go.Fn
def jB (u:Iv):List Iv → Iv × List Iv
 | []=>(u,[])
 | p :: r=>if u.To < p.From then (u,p :: r) else jB ⟨min u.From p.From,max u.To p.To⟩ r
structure Jd (u:Iv) (R:List Iv) (v:Iv) (C:List Iv) (B:List Iv):Prop where
 sp:R=B ++ C
 f:v.From ≤ u.From
 t:u.To ≤ v.To
 c:∀ y ∈ C,v.To < y.From
 m:∀ n,(v.From ≤ n ∧ n < v.To) ↔ ((u.From ≤ n ∧ n < u.To) ∨ mem n B)
 vf:v.From=u.From ∨ ∃ y ∈ B,v.From=y.From
 vt:v.To=u.To ∨ ∃ y ∈ B,v.To=y.To
theorem mem_cons {n:Int} {y:Iv} {p:List Iv}:mem n (y :: p) ↔ (y.From ≤ n ∧ n < y.To) ∨ mem n p:=by
 unfold mem
 constructor
 · rintro ⟨x,hx,h⟩
   rcases List.mem_cons.1 hx with rfl | hx
   · exact .inl h
   · exact .inr ⟨x,hx,h⟩
 · rintro (h | ⟨x,hx,h⟩)
   · exact ⟨y,by simp,h⟩
   · exact ⟨x,by simp [hx],h⟩
theorem jB_ok:∀ (R:List Iv) (u:Iv),u.From < u.To → R.Pairwise (fun x y=>x.To < y.From) → (∀ x ∈ R,x.From < x.To) → (∀ y ∈ R,u.From ≤ y.To) → ∃ B,Jd u R (jB u R).1 (jB u R).2 B
 | [],u,hu,_,_,_=>⟨[],rfl,Int.le_refl _,Int.le_refl _,fun _ h=>(List.not_mem_nil h).elim,fun n=>⟨.inl,fun h=>h.elim id (fun ⟨_,h,_⟩=>(List.not_mem_nil h).elim)⟩,.inl rfl,.inl rfl⟩
 | p :: r, u,hu,hp,hn,ht=>by
   have hp:=List.pairwise_cons.1 hp
   have hpn:=hn p (by simp)
   have htp:=ht p (by simp)
   unfold jB
   by_cases hc:u.To < p.From
   · rw [if_pos hc]
     refine ⟨[],rfl,Int.le_refl _,Int.le_refl _,fun y hy=>?_,fun n=>⟨.inl,fun h=>h.elim id (fun ⟨_,h,_⟩=>(List.not_mem_nil h).elim)⟩,.inl rfl,.inl rfl⟩
     rcases List.mem_cons.1 hy with rfl | hy
     · exact hc
     · have:=hp.1 y hy; show u.To < y.From; omega
   · rw [if_neg hc]
     obtain ⟨B,j⟩:=jB_ok r ⟨min u.From p.From,max u.To p.To⟩ (by show min u.From p.From < max u.To p.To; omega) hp.2 (fun x hx=>hn x (by simp [hx])) (fun y hy=>by have:=ht y (by simp [hy]); show min u.From p.From ≤ _; omega)
     have j1:_ ≤ min u.From p.From:=j.f
     have j2:max u.To p.To ≤ _:=j.t
     refine ⟨p :: B,congrArg (List.cons p) j.sp,by omega,by omega,j.c,fun n=>?_,?_,?_⟩
     · rw [j.m,mem_cons]
       show ((min u.From p.From ≤ n ∧ n < max u.To p.To) ∨ _) ↔ _
       constructor
       · rintro (h | h)
         · by_cases hh:u.From ≤ n ∧ n < u.To
           · exact .inl hh
           · exact .inr (.inl (by omega))
         · exact .inr (.inr h)
       · rintro (h | h | h)
         · exact .inl (by omega)
         · exact .inl (by omega)
         · exact .inr h
     · rcases j.vf with h | ⟨y,hy,h⟩
       · have h:_=min u.From p.From:=h
         by_cases hh:u.From ≤ p.From
         · left; omega
         · right; exact ⟨p,by simp,by omega⟩
       · right; exact ⟨y,by simp [hy],h⟩
     · rcases j.vt with h | ⟨y,hy,h⟩
       · have h:_=max u.To p.To:=h
         by_cases hh:p.To ≤ u.To
         · left; omega
         · right; exact ⟨p,by simp,by omega⟩
       · right; exact ⟨y,by simp [hy],h⟩
def jA (x:Iv) (l:List Iv):List Iv:=l.takeWhile fun p=>decide (p.To < x.From)
def jR (x:Iv) (l:List Iv):List Iv:=l.dropWhile fun p=>decide (p.To < x.From)
def xV (x:Iv) (l:List Iv):List Iv:=jA x l ++ [(jB x (jR x l)).1] ++ (jB x (jR x l)).2
theorem jA_R (x:Iv) (l:List Iv):jA x l ++ jR x l=l:=List.takeWhile_append_dropWhile
theorem jA_lt {x:Iv} {l:List Iv}:∀ y ∈ jA x l,y.To < x.From:=fun y hy=>by
 have:=List.all_takeWhile (p:=fun p:Iv=>decide (p.To < x.From)) (l:=l)
 exact of_decide_eq_true (List.all_eq_true.1 this y hy)
theorem jR_ge {x:Iv}:∀ {l:List Iv},l.Pairwise (fun x y=>x.To < y.From) → (∀ x ∈ l,x.From < x.To) → ∀ y ∈ jR x l,x.From ≤ y.To
 | [],_,_=>fun _ h=>(List.not_mem_nil h).elim
 | p :: r,hp,hn=>by
   have hp:=List.pairwise_cons.1 hp
   unfold jR
   rw [List.dropWhile_cons]
   split
   · exact jR_ge hp.2 (fun x hx=>hn x (by simp [hx]))
   · rename_i h
     intro y hy
     have h:¬ p.To < x.From:=by simpa using h
     rcases List.mem_cons.1 hy with rfl | hy
     · omega
     · have:=hp.1 y hy; have:=hn y (by simp [hy]); omega
structure aEd (x:Iv) (l:List Iv) (A:List Iv) (v:Iv) (B C:List Iv):Prop where
 e:xV x l=A ++ [v] ++ C
 sp:l=A ++ (B ++ C)
 j:Jd x (B ++ C) v C B
 a:∀ y ∈ A,y.To < x.From
 av:∀ y ∈ A,y.To < v.From
theorem aE4 {x:Iv} {l:List Iv} (hx:x.From < x.To) (h:VS l):∃ A v B C,aEd x l A v B C:=by
 have hs:=jA_R x l
 have hpw:=h.pw
 rw [← hs] at hpw
 have hpw:=List.pairwise_append.1 hpw
 obtain ⟨B,j⟩:=jB_ok (jR x l) x hx hpw.2.1 (fun y hy=>h.ne y (by rw [← hs]; simp [hy])) (jR_ge h.pw h.ne)
 refine ⟨jA x l,(jB x (jR x l)).1,B,(jB x (jR x l)).2,rfl,by rw [← j.sp,hs],by rw [← j.sp]; exact j,jA_lt,fun y hy=>?_⟩
 rcases j.vf with h1 | ⟨z,hz,h1⟩
 · rw [h1]; exact jA_lt y hy
 · rw [h1]
   exact hpw.2.2 y hy z (by rw [j.sp]; simp [hz])
theorem aDp {x:Iv} {l A B C:List Iv} {v:Iv} (h:VS l) (k:aEd x l A v B C) (hx:x.From < x.To) (h0:0 ≤ x.From) (h1:x.To ≤ 4398046511104):VS (A ++ [v] ++ C):=by
 have hA:∀ y ∈ A,y ∈ l:=fun y hy=>by rw [k.sp]; simp [hy]
 have hB:∀ y ∈ B,y ∈ l:=fun y hy=>by rw [k.sp]; simp [hy]
 have hC:∀ y ∈ C,y ∈ l:=fun y hy=>by rw [k.sp]; simp [hy]
 have hpw:=h.pw
 rw [k.sp] at hpw
 have p1:=List.pairwise_append.1 hpw
 have p2:=List.pairwise_append.1 p1.2.1
 have hf:=k.j.f; have ht:=k.j.t
 have hmem:∀ y,y ∈ A ++ [v] ++ C ↔ y ∈ A ∨ y=v ∨ y ∈ C:=fun y=>by simp only [List.mem_append,List.mem_singleton,or_assoc]
 refine ⟨?_,fun y hy=>?_,fun y hy=>?_,fun y hy=>?_⟩
 · rw [List.pairwise_append,List.pairwise_append]
   refine ⟨⟨p1.1,by simp,fun a ha b hb=>by rw [List.mem_singleton.1 hb]; exact k.av a ha⟩,p2.2.1,fun a ha b hb=>?_⟩
   rcases List.mem_append.1 ha with ha | ha
   · exact p1.2.2 a ha b (by simp [hb])
   · rw [List.mem_singleton.1 ha]; exact k.j.c b hb
 · rcases (hmem y).1 hy with hy | rfl | hy
   · exact h.ne y (hA y hy)
   · omega
   · exact h.ne y (hC y hy)
 · rcases (hmem y).1 hy with hy | rfl | hy
   · exact h.lo y (hA y hy)
   · rcases k.j.vf with h2 | ⟨z,hz,h2⟩
     · omega
     · rw [h2]; exact h.lo z (hB z hz)
   · exact h.lo y (hC y hy)
 · rcases (hmem y).1 hy with hy | rfl | hy
   · exact h.hi y (hA y hy)
   · rcases k.j.vt with h2 | ⟨z,hz,h2⟩
     · omega
     · rw [h2]; exact h.hi z (hB z hz)
   · exact h.hi y (hC y hy)
def pH (b:Int) (l:List Iv) (h:Int):Prop:=b ≤ h ∧ (∀ y ∈ l,y.To ≤ h) ∧ (h=b ∨ ∃ y ∈ l,y.To=h)
theorem aBw {x:Iv} {l A B C:List Iv} {v:Iv} {b h:Int} (k:aEd x l A v B C) (hne:∀ y ∈ l,y.From < y.To) (hb:b ≤ x.From) (hx:x.From < x.To) (hh:pH b l h):pH b (A ++ [v] ++ C) (max h x.To) ∧ (A=[] → pH v.To C (max h x.To)):=by
 obtain ⟨p1,p2,p3⟩:=hh
 have hA:∀ y ∈ A,y ∈ l:=fun y hy=>by rw [k.sp]; simp [hy]
 have hB:∀ y ∈ B,y ∈ l:=fun y hy=>by rw [k.sp]; simp [hy]
 have hC:∀ y ∈ C,y ∈ l:=fun y hy=>by rw [k.sp]; simp [hy]
 have hf:=k.j.f; have ht:=k.j.t
 have hmem:∀ y,y ∈ A ++ [v] ++ C ↔ y ∈ A ∨ y=v ∨ y ∈ C:=fun y=>by simp only [List.mem_append,List.mem_singleton,or_assoc]
 have hv:v.To ≤ max h x.To:=by
  rcases k.j.vt with e | ⟨y,hy,e⟩
  · omega
  · have:=p2 y (hB y hy); omega
 have hex : max h x.To=v.To ∨ (∃ y ∈ A,y.To=max h x.To) ∨ ∃ y ∈ C,y.To=max h x.To:=by
  by_cases hc:h ≤ x.To
  · left; omega
  · rcases p3 with e | ⟨y,hy,e⟩
    · omega
    · rw [k.sp] at hy
      rcases List.mem_append.1 hy with hy | hy
      · exact .inr (.inl ⟨y,hy,by omega⟩)
      · rcases List.mem_append.1 hy with hy | hy
        · left
          have:=hne y (hB y hy)
          have:=(k.j.m (y.To - 1)).2 (.inr ⟨y,hy,by omega,by omega⟩)
          omega
        · exact .inr (.inr ⟨y,hy,by omega⟩)
 refine ⟨⟨by omega,fun y hy=>?_,?_⟩,fun hA0=>⟨by omega,fun y hy=>by have:=p2 y (hC y hy); omega,?_⟩⟩
 · rcases (hmem y).1 hy with hy | rfl | hy
   · have:=p2 y (hA y hy); omega
   · exact hv
   · have:=p2 y (hC y hy); omega
 · right
   rcases hex with e | ⟨y,hy,e⟩ | ⟨y,hy,e⟩
   · exact ⟨v,by simp,e.symm⟩
   · exact ⟨y,(hmem y).2 (.inl hy),e⟩
   · exact ⟨y,(hmem y).2 (.inr (.inr hy)),e⟩
 · rcases hex with e | ⟨y,hy,e⟩ | ⟨y,hy,e⟩
   · exact .inl e
   · rw [hA0] at hy; exact (List.not_mem_nil hy).elim
   · exact .inr ⟨y,hy,e⟩
end Go.Fn
open Go Go.IL
namespace Go.Fn
theorem aBg (W:List UInt8) (a b:Int):(sl W a b).length ≤ W.length:=by unfold sl; rw [List.length_drop,List.length_take]; omega
abbrev Pt:=aU
abbrev R12:=bM
def pt (W:List UInt8) (x:Iv):Pt:=⟨x.From,sl W x.From x.To⟩
theorem yV {W:List UInt8} {x:Iv} (h0:0 ≤ x.From) (h1:x.From < x.To) (h2:x.To ≤ (W.length:Int)) (hw:W.length ≤ 100000):fE (pt W x)=some x.To:=by
 have:=nW (W:=W) h0 (by omega:x.From ≤ x.To) h2
 unfold fE pt
 simp only [bndD,this,w64 (show -9223372036854775808 ≤ x.From + (x.To - x.From) by omega) (by omega)]
 congr 1; omega
structure RQ (W:List UInt8) (I:List Iv) (s:R12):Prop where
 wl:W.length ≤ 100000
 b0:0 ≤ s.Base
 bw:s.Base ≤ (W.length:Int)
 rl:(s.Ready.length:Int) ≤ s.Base
 rm:s.Ready.length ≤ 4096
 rd:s.Ready=sl W (s.Base - s.Ready.length) s.Base
 ps:s.Parts=I.map (pt W)
 vs:VS I
 ib:∀ x ∈ I,s.Base < x.From ∧ x.To ≤ (W.length:Int)
 lim:∀ x ∈ I,x.To ≤ s.Base - s.Ready.length + 4096
theorem RQ.il {W:List UInt8} {I:List Iv} {s:R12} (h:RQ W I s):I.length ≤ 100000:=by
 have:=aAh h.vs.pw h.vs.ne (fun x hx=>⟨by have:=(h.ib x hx).1; omega,(h.ib x hx).2⟩) h.bw
 have:=h.wl; have:=h.b0
 omega
theorem RQ.pl {W:List UInt8} {I:List Iv} {s:R12} (h:RQ W I s):s.Parts.length ≤ 100000:=by rw [h.ps,List.length_map]; exact h.il
theorem aFj {W:List UInt8} {I:List Iv} {s:R12} (h:RQ W I s):mY s=some (s.Base - s.Ready.length + 4096):=by
 have a:=h.wl; have b:=h.b0; have c:=h.bw; have d:=h.rl
 unfold mY
 simp only [bndD,w64 (show -9223372036854775808 ≤ s.Base - (s.Ready.length:Int) by omega) (by omega),w64 (show -9223372036854775808 ≤ s.Base - (s.Ready.length:Int) + 4096 by omega) (by omega)]
 congr 1; omega
theorem aCF {W:List UInt8} {I:List Iv} {s:R12} (h:RQ W I s):∀ (r p:List Iv) (f:Nat) (e:Int),I=p ++ r → r.length < f → (∀ y ∈ r,e < y.From) → gV s (s.Base - s.Ready.length + 4096) f e (p.length:Int)=some 0
 | [],p,f + 1,e,hs,_,_=>by
   have h1:s.Parts=p.map (pt W) ++ []:=by rw [h.ps,hs,List.map_append]; rfl
   have h2:=uJ h1
   rw [List.length_map] at h2
   unfold gV
   simp only [bndD,h2,cU]
 | x :: r,p,f + 1,e,hs,hf,he=>by
   have h1:s.Parts=p.map (pt W) ++ pt W x :: r.map (pt W):=by rw [h.ps,hs,List.map_append]; rfl
   have h2:=nO h1
   have h3:=iF h1
   have h4:=w_at h1 (by have:=h.pl; omega)
   rw [List.length_map] at h2 h3 h4
   have h5:((p.map (pt W) ++ [pt W x]).length:Int)=((p ++ [x]).length:Int):=by simp
   rw [h5] at h4
   have hx:x ∈ I:=by rw [hs]; simp
   have a:=h.wl; have b:=h.b0; have c:=h.bw; have d:=h.rl
   have i1:=h.ib x hx; have i2:=h.vs.ne x hx; have i3:=h.lim x hx
   have hl:=nW (W:=W) (show 0 ≤ x.From by omega) (by omega:x.From ≤ x.To) i1.2
   have he1:=he x (by simp)
   have hne:(pt W x).Data ≠ []:=fun hq=>by
    have hq:sl W x.From x.To=[]:=hq
    rw [hq] at hl; simp at hl; omega
   have hat:(pt W x).At=x.From:=rfl
   have hdl:((pt W x).Data.length:Int)=x.To - x.From:=hl
   unfold gV
   simp only [bndD,h2,dS,h3,bnoS,hat,decide_eq_false (show ¬ x.From ≤ e by omega),decide_eq_false hne,Bool.or_self,decide_eq_false (show ¬ s.Base - (s.Ready.length:Int) + 4096 < x.From by omega),w64 (show -9223372036854775808 ≤ s.Base - (s.Ready.length:Int) + 4096 - x.From by omega) (by omega),hdl,decide_eq_false (show ¬ s.Base - (s.Ready.length:Int) + 4096 - x.From < x.To - x.From by omega),cU,yV (show 0 ≤ x.From by omega) i2 i1.2 a,h4]
   refine aCF h r (p ++ [x]) f x.To (kS hs) (by simpa using hf) (fun y hy=>?_)
   have:=h.vs.pw
   rw [hs] at this
   exact (List.pairwise_cons.1 (List.pairwise_append.1 this).2.1).1 y hy
theorem aDW {W:List UInt8} {I:List Iv} {s:R12} (h:RQ W I s):lU s=some 0:=by
 have a:=h.wl; have b:=h.b0; have c:=h.bw; have d:=h.rl; have e:=h.rm
 unfold lU
 simp only [bndD,decide_eq_false (show ¬ s.Base < 0 by omega),decide_eq_false (show ¬ 1099511627776 < s.Base by omega),Bool.or_self,decide_eq_false (show ¬ min s.Base 4096 < (s.Ready.length:Int) by omega),cU,aFj h,bnoS]
 exact aCF h I [] fuel s.Base rfl (eM (by have:=h.il; omega)) (fun y hy=>(h.ib y hy).1)
theorem aFm {l:List Pt} (hl:l.length ≤ 100000):dO l=some l:=by
 unfold dO
 have h:(bno (app 24 ([]:(List aU)) l) fun x3=>some x3)=some l:=by
  rw [jY (by simp; omega) (by simp; omega),bnoS,List.nil_append]
 rw [h,sL]
 rintro rfl; rfl
theorem rhigh {W:List UInt8} {I:List Iv} {s:R12} (h:RQ W I s) (e:Int):∃ k,gQ ⟨s,e⟩=some k ∧ pH s.Base I k:=by
 unfold gQ
 rcases List.eq_nil_or_concat I with hI | ⟨p,y,hI⟩
 · have hp:s.Parts=[]:=by rw [h.ps,hI]; rfl
   refine ⟨s.Base,?_,Int.le_refl _,fun y hy=>by rw [hI] at hy; exact (List.not_mem_nil hy).elim,.inl rfl⟩
   simp only [bndD,hp,List.length_nil,show decide ((0:Int) < ((0:Nat):Int))=false from rfl,cU]
 · rw [List.concat_eq_append] at hI
   have hp:s.Parts=p.map (pt W) ++ [pt W y]:=by rw [h.ps,hI,List.map_append]; rfl
   have hpl:=h.pl
   have hlen:(s.Parts.length:Int)=(p.length:Int) + 1:=by rw [hp]; simp
   have hg:gix s.Parts (p.length:Int)=some (pt W y):=by
    have:=iF (r:=[]) hp
    rwa [List.length_map] at this
   have hy:y ∈ I:=by rw [hI]; simp
   have a:=h.wl; have b:=h.b0
   have i1:=h.ib y hy; have i2:=h.vs.ne y hy
   have hl:=nW (W:=W) (show 0 ≤ y.From by omega) (by omega:y.From ≤ y.To) i1.2
   have hdl:((pt W y).Data.length:Int)=y.To - y.From:=hl
   have hat:(pt W y).At=y.From:=rfl
   have hw:IntKind.wrap .i64 ((s.Parts.length:Int) - 1)=(p.length:Int):=by rw [hlen,w64 (by omega) (by omega)]; omega
   refine ⟨y.To,?_,by omega,fun z hz=>?_,.inr ⟨y,hy,rfl⟩⟩
   · simp only [bndD,decide_eq_true (show (0:Int) < (s.Parts.length:Int) by omega),dS,hw,hg,bnoS,hat,hdl,w64 (show -9223372036854775808 ≤ y.From + (y.To - y.From) by omega) (by omega)]
     have q:y.From + (y.To - y.From)=y.To:=by omega
     rw [q]
   · rw [hI] at hz
     rcases List.mem_append.1 hz with hz | hz
     · have:=h.vs.pw
       rw [hI] at this
       have:=(List.pairwise_append.1 this).2.2 z hz y (by simp)
       omega
     · rw [List.mem_singleton.1 hz]; exact Int.le_refl _
theorem aFs {s:R12} (hl:s.Parts.length ≤ 100000):∀ (r p:List Pt) (f:Nat) (v:Int),s.Parts=p ++ r → r.length < f → ∃ n,iU s f v (p.length:Int)=some n
 | [],p,f + 1,v,hs,_=>by
   unfold iU
   simp only [bndD,uJ hs,cU]
   exact ⟨_,rfl⟩
 | x :: r,p,f + 1,v,hs,hf=>by
   unfold iU
   simp only [bndD,nO hs,dS,iF hs,bnoS,w_at hs (by omega)]
   exact aFs hl r (p ++ [x]) f _ (kS hs) (by simpa using hf)
theorem held {s:R12} (hl:s.Parts.length ≤ 100000):∃ n,pS s=some n:=aFs hl s.Parts [] fuel _ rfl (eM (by omega))
theorem aDt (x:Iv):xV x []=[x]:=rfl
theorem aE5 {x y:Iv} {r:List Iv} (h:y.To < x.From):xV x (y :: r)=y :: xV x r:=by
 unfold xV jA jR
 rw [List.takeWhile_cons,List.dropWhile_cons,decide_eq_true h]; rfl
theorem aE6 {x y:Iv} {r:List Iv} (h:¬ y.To < x.From):xV x (y :: r)=(jB x (y :: r)).1 :: (jB x (y :: r)).2:=by
 unfold xV jA jR
 rw [List.takeWhile_cons,List.dropWhile_cons,decide_eq_false h]; rfl
structure JI (W:List UInt8) (I:List Iv):Prop where
 wl:W.length ≤ 100000
 il:I.length ≤ 100000
 pw:I.Pairwise (fun x y=>x.To < y.From)
 ne:∀ x ∈ I,x.From < x.To
 lo:∀ x ∈ I,0 ≤ x.From
 hi:∀ x ∈ I,x.To ≤ (W.length:Int)
theorem aDs {W:List UInt8} {I:List Iv} (h:JI W I) {r q:List Iv} {out:List Pt} (ho:out.length ≤ 100000) (hs:I=q ++ r) (x:Pt):jQ (I.map (pt W)) out (q.length:Int) x.At x.Data=some (out ++ (x :: r.map (pt W))):=by
 have h1:I.map (pt W)=q.map (pt W) ++ r.map (pt W):=by rw [hs,List.map_append]
 have h2:=aFQ h1
 rw [List.length_map] at h2
 have hil:=h.il
 have hrl:r.length ≤ I.length:=by rw [hs]; simp
 unfold jQ
 rw [jY (by simp; omega) (by simp; omega),bnoS,h2,bnoS,jY (by simp; omega) (by simp; omega),bnoS]
 simp
theorem aBx {W:List UInt8} {I:List Iv} (h:JI W I) {out:List Pt} (ho:out.length ≤ 100000):∀ (r q:List Iv) (f:Nat) (u:Iv),I=q ++ r → r.length < f → 0 ≤ u.From → u.From < u.To → u.To ≤ (W.length:Int) → (∀ y ∈ r,u.From ≤ y.To) →
 fD (I.map (pt W)) out f (q.length:Int) u.From (sl W u.From u.To)=some (out ++ ((jB u r).1 :: (jB u r).2).map (pt W))
 | [],q,f + 1,u,hs,_,_,_,_,_=>by
   have h1:I.map (pt W)=q.map (pt W) ++ []:=by rw [hs,List.map_append]; rfl
   have h2:=uJ h1
   rw [List.length_map] at h2
   unfold fD
   simp only [bndD,h2,cU]
   exact aDs h ho hs (pt W u)
 | y :: r,q,f + 1,u,hs,hf,u0,u1,u2,hu=>by
   have h1:I.map (pt W)=q.map (pt W) ++ pt W y :: r.map (pt W):=by rw [hs,List.map_append]; rfl
   have h2:=nO h1
   have h3:=iF h1
   have h4:=w_at h1 (by rw [List.length_map]; have:=h.il; omega)
   rw [List.length_map] at h2 h3 h4
   have h5:((q.map (pt W) ++ [pt W y]).length:Int)=((q ++ [y]).length:Int):=by simp
   rw [h5] at h4
   have hy:y ∈ I:=by rw [hs]; simp
   have a:=h.wl; have i1:=h.hi y hy; have i2:=h.ne y hy; have i3:=h.lo y hy
   have hul:=nW (W:=W) u0 (by omega:u.From ≤ u.To) u2
   have hyl:=nW (W:=W) i3 (by omega:y.From ≤ y.To) i1
   have hat:(pt W y).At=y.From:=rfl
   have hda:(pt W y).Data=sl W y.From y.To:=rfl
   have hyu:=hu y (by simp)
   have hpe:fE (⟨u.From,sl W u.From u.To⟩:Pt)=some u.To:=yV u0 u1 u2 a
   unfold fD
   simp only [bndD,h2,dS,h3,bnoS,hpe,hat]
   by_cases hc:u.To < y.From
   · rw [decide_eq_true hc,dS]
     have:=aDs h ho hs (pt W u)
     unfold jB
     rw [if_pos hc]
     exact this
   · rw [decide_eq_false hc,cU]
     have hj:jB u (y :: r)=jB ⟨min u.From y.From,max u.To y.To⟩ r:=by
      conv=>lhs; unfold jB
      rw [if_neg hc]
     have hnx:∀ z ∈ r,min u.From y.From ≤ z.To:=fun z hz=>by have:=hu z (by simp [hz]); omega
     have ih:=aBx h ho r (q ++ [y]) f ⟨min u.From y.From,max u.To y.To⟩ (kS hs) (by simpa using hf) (by show 0 ≤ min u.From y.From; omega) (by show min u.From y.From < max u.To y.To; omega) (by show max u.To y.To ≤ _; omega) hnx
     rw [hj,← ih]
     show _=fD (I.map (pt W)) out f ((q ++ [y]).length:Int) (min u.From y.From) (sl W (min u.From y.From) (max u.To y.To))
     by_cases hd:y.From ≤ u.From
     · rw [decide_eq_true hd,dS,yV i3 i2 i1 a,bnoS]
       simp only [w64 (show -9223372036854775808 ≤ y.To - u.From by omega) (by omega),hul,hda]
       rw [xB u0 (by omega) u2 (by omega) (by omega) (by omega),bnoS,wE (by have q1:=aBg W (u.From + min (u.To - u.From) (y.To - u.From)) (u.From + (u.To - u.From)); have q2:=aBg W u.From y.To; have q3:=aBg W y.From y.To; omega),bnoS,h4]
       congr 1
       · omega
       · rw [show u.From + (u.To - u.From)=u.To by omega]
         by_cases he:y.To ≤ u.To
         · rw [show u.From + min (u.To - u.From) (y.To - u.From)=y.To by omega,aAs i3 (by omega) he u2,show min u.From y.From=y.From by omega,show max u.To y.To=u.To by omega]
         · rw [show u.From + min (u.To - u.From) (y.To - u.From)=u.To by omega,vT (Int.le_refl _),List.append_nil,show min u.From y.From=y.From by omega,show max u.To y.To=y.To by omega]
     · rw [decide_eq_false hd,cU]
       simp only [w64 (show -9223372036854775808 ≤ y.From - u.From by omega) (by omega),hda]
       rw [xB u0 (by omega) u2 (by omega) (by omega) (by omega),bnoS,show u.From + (0:Int)=u.From by omega,show u.From + (y.From - u.From)=y.From by omega]
       have hc1:cat (sl W u.From y.From) (sl W y.From y.To)=some (sl W u.From y.To):=by
        rw [wE (by have:=nW (W:=W) u0 (by omega:u.From ≤ y.From) (by omega); omega),aAs u0 (by omega) (by omega) i1]
       rw [hc1,bnoS,yV i3 i2 i1 a,bnoS]
       simp only [w64 (show -9223372036854775808 ≤ y.To - u.From by omega) (by omega),hul]
       rw [xB u0 (by omega) u2 (by omega) (by omega) (by omega),bnoS,wE (by have q1:=aBg W (u.From + min (u.To - u.From) (y.To - u.From)) (u.From + (u.To - u.From)); have q2:=aBg W u.From y.To; have q3:=aBg W y.From y.To; omega),bnoS,h4]
       congr 1
       · omega
       · rw [show u.From + (u.To - u.From)=u.To by omega]
         by_cases he:y.To ≤ u.To
         · rw [show u.From + min (u.To - u.From) (y.To - u.From)=y.To by omega,aAs u0 (by omega) he u2,show min u.From y.From=u.From by omega,show max u.To y.To=u.To by omega]
         · rw [show u.From + min (u.To - u.From) (y.To - u.From)=u.To by omega,vT (Int.le_refl _),List.append_nil,show min u.From y.From=u.From by omega,show max u.To y.To=y.To by omega]
theorem aDr {W:List UInt8} {I:List Iv} (h:JI W I) {x:Iv} (x0:0 ≤ x.From) (x1:x.From < x.To) (x2:x.To ≤ (W.length:Int)):∀ (r p:List Iv) (f:Nat),I=p ++ r → r.length < f →
 gF (I.map (pt W)) (pt W x) f (p.map (pt W)) (p.length:Int)=some ((p ++ xV x r).map (pt W))
 | [],p,f + 1,hs,_=>by
   have h1:I.map (pt W)=p.map (pt W) ++ []:=by rw [hs,List.map_append]; rfl
   have h2:=uJ h1
   rw [List.length_map] at h2
   have hil:=h.il
   have hpl:p.length ≤ I.length:=by rw [hs]; simp
   unfold gF
   simp only [bndD,h2,ft,gdff,bnoS,Bool.false_and,cU]
   have:=aBx h (out:=p.map (pt W)) (by rw [List.length_map]; omega) [] p fuel x hs (eM (by decide)) x0 x1 x2 (fun _ h=>(List.not_mem_nil h).elim)
   rw [aDt,List.map_append]
   exact this
 | y :: r,p,f + 1,hs,hf=>by
   have h1:I.map (pt W)=p.map (pt W) ++ pt W y :: r.map (pt W):=by rw [hs,List.map_append]; rfl
   have h2:=nO h1
   have h3:=iF h1
   have h4:=w_at h1 (by rw [List.length_map]; have:=h.il; omega)
   rw [List.length_map] at h2 h3 h4
   have h5:((p.map (pt W) ++ [pt W y]).length:Int)=((p ++ [y]).length:Int):=by simp
   rw [h5] at h4
   have hil:=h.il
   have hpl:p.length ≤ I.length:=by rw [hs]; simp
   have hy:y ∈ I:=by rw [hs]; simp
   have a:=h.wl; have i1:=h.hi y hy; have i2:=h.ne y hy; have i3:=h.lo y hy
   have hat:(pt W x).At=x.From:=rfl
   unfold gF
   simp only [bndD,h2,beq_self_eq_true,gdtt,h3,bnoS,yV i3 i2 i1 a,Bool.true_and,hat]
   by_cases hc:y.To < x.From
   · rw [decide_eq_true hc,dS,jY (by simp; omega) (by simp; omega),bnoS,h4,aE5 hc]
     have ih:=aDr h x0 x1 x2 r (p ++ [y]) f (kS hs) (by simpa using hf)
     rw [List.map_append,List.append_assoc] at ih
     exact ih
   · rw [decide_eq_false hc,cU,aE6 hc]
     have hr:∀ z ∈ y :: r,x.From ≤ z.To:=fun z hz=>by
      rcases List.mem_cons.1 hz with rfl | hz
      · omega
      · have:=h.pw
        rw [hs] at this
        have:=(List.pairwise_cons.1 (List.pairwise_append.1 this).2.1).1 z hz
        have:=h.ne z (by rw [hs]; simp [hz])
        omega
     have:=aBx h (out:=p.map (pt W)) (by rw [List.length_map]; omega) (y :: r) p fuel x hs (eM (by have q:=congrArg List.length hs; rw [List.length_append] at q; omega)) x0 x1 x2 hr
     rw [List.map_append]
     exact this
theorem join_eq {W:List UInt8} {I:List Iv} (h:JI W I) {x:Iv} (x0:0 ≤ x.From) (x1:x.From < x.To) (x2:x.To ≤ (W.length:Int)):nK (I.map (pt W)) (pt W x)=some ((xV x I).map (pt W)) :=
 aDr h x0 x1 x2 I [] fuel rfl (eM (by have:=h.il; omega))
end Go.Fn
