/-
  A part of the proof: rules and plain facts. No condition.
-/
import Derived.Test.YtgooaecafbjhjaaGreatDoorIlTm
import Derived.Test.YtgooaecafbjhjaaGreatDoorIlS
import Derived.Lib.Bytealg
import Derived.Lib.ItoaNum
import Derived.Lib.Join
import Derived.Laws.Pointers
import Derived.LaidEqlPtr
import Derived.Lib.Builder
import Derived.Lib.UnsafeStr
set_option linter.all false
namespace Go.IL
section
variable {P : Program} {O : cG} {N : Nat} {S S' : St} {o : Oper} {t : Nat} {Q : Exit → St → Prop}

def aDj (P : Program) (T : TypeId) (ds : List D) (off : Nat) : Option D :=
  match P.underlying T,P.info? T with
  | some _,some i=>if off + i.size ≤ ds.length ∧ 0 < i.size then some (D.load (eA P T) i.size (ds.drop off)) else none
  | _,_=>none
theorem uI {T : TypeId} {cs : List D} {off : Nat} {d : D} {E : Env} {β : bW} {vs : List Value} (hp : aDj P T cs off = some d) (h : RdL E β vs cs) (w : World) : ∃ v,(part T vs.toArray off).run P w = .ok v w ∧ Rd E β v d:=by
  unfold aDj at hp
  split at hp
  · rename_i u i hu hi
    split at hp
    · rename_i hc
      cases hp
      exact aC2 hu (z:=i.zero) (size:=i.size) (bytes:=i.bytes) (by simp [TI,hi]) h hc.1 hc.2 w
    · cases hp
  · cases hp
def eqTF (P : Program) (cmp : TypeId → D → D → Option Bool) (ds es : List D) : List Field → Option Bool
  | []=>some true
  | f :: fs =>
    if f.name = "_" then none else
    match aDj P f.type ds f.offset,aDj P f.type es f.offset with
    | some d, some e => match cmp f.type d e with
      | some b=>(eqTF P cmp ds es fs).map (b && ·)
      | none=>none
    | _,_=>none
def eqTA (P : Program) (cmp : D → D → Option Bool) (el : TypeId) (sz : Nat) (ds es : List D) : Nat → Nat → Option Bool
  | 0,_=>some true
  | m + 1, i =>
    match aDj P el ds (i * sz),aDj P el es (i * sz) with
    | some d, some e => match cmp d e with
      | some b=>(eqTA P cmp el sz ds es m (i + 1)).map (b && ·)
      | none=>none
    | _,_=>none
def eqT (P : Program) : Nat → TypeId → D → D → Option Bool
  | 0,_,_,_=>none
  | k + 1, t, d, e =>
    match P.underlying t,d,e with
    | some (.struct fs),.agg ds,.agg es=>if P.stoodInHeld t then none else eqTF P (eqT P k) ds es fs.toList
    | some (.array n el), .agg ds, .agg es => match P.info? el with
      | some i=>eqTA P (eqT P k el) el i.size ds es n 0
      | none=>none
    | u,d,e=>aDI u d e
theorem aC3 {w : World} {E : Env} {β β' : bW} {cmp : TypeId → D → D → Option Bool} {m : Nat} (hc : ∀ {t d e b x y}, cmp t d e = some b → Rd E β x d → Rd E β' y e → (Op.equalIn m t x y).run P w = .ok b w)
    {xs ys : List Value} {ds es : List D} (hx : RdL E β xs ds) (hy : RdL E β' ys es) : ∀ (fs : List Field) {b : Bool},eqTF P cmp ds es fs = some b → (Op.eqFields m xs.toArray ys.toArray fs).run P w = .ok b w
  | [],b,h=>by simp only [eqTF,Option.some.injEq] at h; subst h; simp [Op.eqFields]
  | f :: fs, b, h => by
    unfold eqTF at h
    split at h
    · cases h
    · rename_i hn
      split at h
      · rename_i d e hd he
        split at h
        · rename_i b1 hb1
          simp only [Option.map_eq_some_iff] at h
          obtain ⟨b2,h2,rfl⟩:=h
          obtain ⟨v1,p1,r1⟩:=uI hd hx w
          obtain ⟨v2,p2,r2⟩:=uI he hy w
          have g1:=hc hb1 r1 r2
          have ih:=aC3 hc hx hy fs h2
          simp only [Op.eqFields,hn,ne_eq,not_false_eq_true,if_true,Sem.run_bind,p1,p2,g1,Result.andThen_ok]
          cases b1
          · simp
          · simpa using ih
        · cases h
      · cases h
def tU (m : Nat) (el : TypeId) (sz : Nat) (xs ys : Array Value) : List Nat → Sem Bool
  | []=>pure true
  | i :: is => do
      let a ← part el xs (i * sz)
      let b ← part el ys (i * sz)
      let r ← Op.equalIn m el a b
      if (!r) = true then pure false else tU m el sz xs ys is
theorem aC4 {w : World} {E : Env} {β β' : bW} {cmp : D → D → Option Bool} {m : Nat} {el : TypeId} {sz : Nat} (hc : ∀ {d e b x y}, cmp d e = some b → Rd E β x d → Rd E β' y e → (Op.equalIn m el x y).run P w = .ok b w)
    {xs ys : List Value} {ds es : List D} (hx : RdL E β xs ds) (hy : RdL E β' ys es) : ∀ (n i : Nat) {b : Bool},eqTA P cmp el sz ds es n i = some b → (tU m el sz xs.toArray ys.toArray (List.range' i n)).run P w = .ok b w
  | 0,i,b,h=>by simp only [eqTA,Option.some.injEq] at h; subst h; simp [tU]
  | n + 1, i, b, h => by
    unfold eqTA at h
    split at h
    · rename_i d e hd he
      split at h
      · rename_i b1 hb1
        simp only [Option.map_eq_some_iff] at h
        obtain ⟨b2,h2,rfl⟩:=h
        obtain ⟨v1,p1,r1⟩:=uI hd hx w
        obtain ⟨v2,p2,r2⟩:=uI he hy w
        have g1:=hc hb1 r1 r2
        have ih:=aC4 hc hx hy n (i + 1) h2
        rw [List.range'_succ]
        simp only [tU,Sem.run_bind,p1,p2,g1,Result.andThen_ok]
        cases b1
        · simp
        · simpa using ih
      · cases h
    · cases h
theorem yT (w : World) (d : Nat) (t el : TypeId) (n : Nat) (xs ys : Array Value) {i : TypeInfo} (ht : P.underlying t = some (.array n el)) (hi : P.info? el = some i) :
    (Op.equalIn (d + 1) t (.agg xs) (.agg ys)).run P w = (tU d el i.size xs ys (List.range' 0 n)).run P w:=by
  have hsz : ∀ w,(sizeOf el).run P w = .ok i.size w:=fun w=>TI.run_size (z:=i.zero) (bytes:=i.bytes) (by simp [TI,hi]) w
  simp only [Op.equalIn,Sem.run_bind,run_underlying ht,Result.andThen_ok,hsz,Std.Legacy.Range.forIn_eq_forIn_range',Std.Legacy.Range.size,Nat.sub_zero,Nat.add_sub_cancel,Nat.div_one]
  generalize List.range' 0 n = l
  clear ht
  induction l generalizing w with
  | nil=>simp [tU]
  | cons j l ih =>
    simp only [List.forIn_cons,tU,Sem.run_bind,Sem.run_ite]
    generalize (part el xs (j * i.size)).run P w = r1
    cases r1 with
    | ok a w1 =>
      simp only [Result.andThen_ok]
      generalize (part el ys (j * i.size)).run P w1 = r2
      cases r2 with
      | ok b w2 =>
        simp only [Result.andThen_ok]
        generalize (Op.equalIn d el a b).run P w2 = r3
        cases r3 with
        | ok r w3 =>
          cases r
          · simp only [Result.andThen_ok,Bool.not_false,if_true,Sem.run_pure]
          · simp only [Result.andThen_ok, Bool.not_true, Bool.false_eq_true, if_false, Sem.run_pure]
            exact ih w3
        | halt x w3=>simp [Result.andThen]
      | halt x w2=>simp [Result.andThen]
    | halt x w1=>simp [Result.andThen]
theorem aAr {w : World} {E : Env} {β β' : bW} (n : Nat) : ∀ (k : Nat) {t : TypeId} {d e : D} {b : Bool} {x y : Value}, eqT P k t d e = some b → Rd E β x d → Rd E β' y e → (Op.equalIn (n + k) t x y).run P w = .ok b w
  | 0,t,d,e,b,x,y,h,_,_=>by cases h
  | k + 1, t, d, e, b, x, y, h, hx, hy => by
    unfold eqT at h
    split at h
    · rename_i fs ds es hu
      split at h
      · cases h
      · rename_i hs
        cases hx with
        | agg _ vs1 _ r1 => cases hy with
          | agg _ vs2 _ r2 =>
            have hf : P.fieldsOf t = fs:=by simp [Program.fieldsOf,hu]
            have h3:=run_equalIn_struct (P:=P) w (n + k) t vs1.toArray vs2.toArray (by rw [hf]; exact hu) (by simpa using hs)
            rw [hf,aC3 (fun h a b=>aAr n k h a b) r1 r2 fs.toList h] at h3
            exact h3
    · rename_i m el ds es hu
      split at h
      · rename_i i hi
        cases hx with
        | agg _ vs1 _ r1 => cases hy with
          | agg _ vs2 _ r2 =>
            have h3:=yT (P:=P) w (n + k) t el m vs1.toArray vs2.toArray hu hi
            rw [aC4 (fun h a b=>aAr n k h a b) r1 r2 m 0 h] at h3
            exact h3
      · cases h
    · exact (aAU (n + k) h hx hy).1
theorem iop_eqt {xt yt : TypeId} {x y : Operand} {ds es : List D} {b : Bool} (ho : o.op = .binOp .eql xt x y yt) (hd : o.dst = some t) (ht : t < N)
    (hg : P.eqGuardType P.depth xt = false) (hx : SV S x (.agg ds)) (hy : SV S y (.agg es)) (hb : eqT P 9 xt (.agg ds) (.agg es) = some b) : IOp P O N o S (S.set t (.bool b)) :=
  eY hd ht fun E β a hr => by
    have h1:=hx.rd hr
    have h2:=hy.rd hr
    have h3:=aAr (P:=P) (w:=E.w) 9991 9 hb h1 h2
    generalize hv1 : a.eval x = v1 at h1 h3
    generalize hv2 : a.eval y = v2 at h2 h3
    cases h1 with
    | agg _ vs1 _ r1 => cases h2 with
      | agg _ vs2 _ r2 =>
        have h4 : (Op.equal xt (.agg vs1.toArray) (.agg vs2.toArray)).run P E.w = .ok b E.w:=h3
        exact ⟨.bool b,by simp [execOp,ho,hv1,hv2,eqGuard,hg,binOp,h4],.bool _ _⟩
theorem iop_net {xt yt : TypeId} {x y : Operand} {ds es : List D} {b : Bool} (ho : o.op = .binOp .neq xt x y yt) (hd : o.dst = some t) (ht : t < N)
    (hg : P.eqGuardType P.depth xt = false) (hx : SV S x (.agg ds)) (hy : SV S y (.agg es)) (hb : eqT P 9 xt (.agg ds) (.agg es) = some b) : IOp P O N o S (S.set t (.bool !b)) :=
  eY hd ht fun E β a hr => by
    have h1:=hx.rd hr
    have h2:=hy.rd hr
    have h3:=aAr (P:=P) (w:=E.w) 9991 9 hb h1 h2
    generalize hv1 : a.eval x = v1 at h1 h3
    generalize hv2 : a.eval y = v2 at h2 h3
    cases h1 with
    | agg _ vs1 _ r1 => cases h2 with
      | agg _ vs2 _ r2 =>
        have h4 : (Op.equal xt (.agg vs1.toArray) (.agg vs2.toArray)).run P E.w = .ok b E.w:=h3
        exact ⟨.bool !b,by simp [execOp,ho,hv1,hv2,eqGuard,hg,binOp,h4],.bool _ _⟩
end
end Go.IL
open Go.RowKit (Below)
namespace Go.IL
def cpy {α : Type} (xs ys : List α) : List α:=ys.take xs.length ++ xs.drop ys.length
theorem cpy_len {α : Type} (xs ys : List α) : (cpy xs ys).length = xs.length:=by simp [cpy]; omega
theorem aGe {α : Type} {xs ys zs : List α} {n : Nat} (h : cpy xs ys = zs) (hl : xs.length = n) : zs.length = n:=by rw [← h,cpy_len,hl]
section
variable {P : Program} {O : cG} {N : Nat} {S S' : St} {o : Oper} {t : Nat} {Q : Exit → St → Prop}
theorem aGa {α : Type} (f : Enc0 α) (xs ys : List α) : gL (D.flat (xs.map f.d)) 0 ((D.flat (ys.map f.d)).take (min ys.length xs.length * f.sz)) = D.flat ((cpy xs ys).map f.d):=by
  have e1 : (D.flat (ys.map f.d)).take (min ys.length xs.length * f.sz) = D.flat ((ys.take xs.length).map f.d):=by
    have h:=wL f ys (min ys.length xs.length)
    have hl : (D.flat ((ys.take (min ys.length xs.length)).map f.d)).length = min ys.length xs.length * f.sz:=by
      rw [f.flat_len,List.length_take]; congr 1; omega
    rw [h,← hl,List.take_append_of_le_length (Nat.le_refl _),List.take_length]
    congr 2
    rcases Nat.le_total ys.length xs.length with h | h
    · rw [Nat.min_eq_left h,List.take_length,List.take_of_length_le h]
    · rw [Nat.min_eq_right h]
  rw [e1]
  unfold gL cpy
  have e2 : (D.flat ((ys.take xs.length).map f.d)).length = min ys.length xs.length * f.sz:=by rw [f.flat_len,List.length_take]; congr 1; omega
  have e3 : (D.flat (xs.map f.d)).drop (min ys.length xs.length * f.sz) = D.flat ((xs.drop ys.length).map f.d):=by
    have h:=wL f xs (min ys.length xs.length)
    have hl : (D.flat ((xs.take (min ys.length xs.length)).map f.d)).length = min ys.length xs.length * f.sz:=by
      rw [f.flat_len,List.length_take]; congr 1; omega
    rw [h,← hl,List.drop_append_of_le_length (Nat.le_refl _),List.drop_length,List.nil_append]
    congr 2
    rcases Nat.le_total ys.length xs.length with h | h
    · rw [Nat.min_eq_left h]
    · rw [Nat.min_eq_right h,List.drop_length,List.drop_of_length_le h]
  rw [e2,Nat.zero_add,e3,List.take_zero,List.nil_append,f.flat_append]
theorem aFD {α : Type} (f : Enc0 α) {T T2 e : TypeId} {x y : Operand} {id n : Nat} {e' : TypeId} {xs ys zs : List α} {z : Option Value} {bytes : Nat} (ho : o.op = .call { callee := .builtin .copy, args := #[x, y], argTypes := #[T, T2] }) (hd : o.dst = some t) (ht : t < N)
    (hu : P.underlying T = some (.slice e)) (hi : TI P e z f.sz bytes) (hx : S.op x = .osl id f.sz n) (hl : xs.length = n) (he : S.ent id = .blk e' (D.flat (xs.map f.d)))
    (hy : ∀ E β a,Rel O N S E β a → Src E β (a.eval y) ys.length (D.flat (ys.map f.d))) (hz : cpy xs ys = zs) : IOp P O N o S ((S.setE id (.blk e' (D.flat (zs.map f.d)))).set t (.int .i64 ((min ys.length n : Nat) : Int))):=by
  intro E β a hr next Q hn
  subst hz
  have h1 : Rd E β (a.eval x) (.osl id f.sz n):=hx ▸ hr.op x
  have hone : ((D.flat (ys.map f.d)).take (min ys.length n * f.sz)).all D.one = true:=aFj (f.one ys) _
  generalize hv : a.eval x = v at h1
  cases h1 with
  | nosl =>
    have hx0 : xs = []:=List.length_eq_zero_iff.1 hl
    subst hx0
    have e0 : cpy ([] : List α) ys = []:=by simp [cpy]
    rw [e0] at hn
    have hsame : Rel O N (S.setE id (.blk e' (D.flat (([] : List α).map f.d)))) E β a:=hr.same (fun _=>rfl) (fun j=>by
      by_cases hj : j = id
      · subst hj; rw [aBN,he]
      · rw [tV hj])
    have hrun0 : ∀ r,(Builtin.copy_ #[T,T2] o.type #[a.eval x,a.eval y]).run P E.w = r → (execOp a.eval o).run P E.w = r.andThen fun v w'=>.ok (.value v) w':=fun r hr'=>by
      simp [execOp,ho,resolve,invoke,builtin,hr']
    have hra : (Builtin.copy_ #[T,T2] o.type #[a.eval x,a.eval y]).run P E.w = .ok (goInt 0) E.w:=by
      have hl0 : ∀ q : Addr,(loadCells q 0).run P E.w = .ok #[] E.w:=fun q=>by simpa using run_loadCells_list (P:=P) E.w q [] (by simp)
      have hmn : ∀ k,Nat.min k 0 = 0:=fun k=>Nat.min_zero k
      rcases hy E β a hr with ⟨hyv | ⟨ad,sc,hyv⟩,_,_⟩ | ⟨yb,yoff,ycap,us,hyv,_,_⟩ <;>
      · rw [hv, hyv]
        simp [Builtin.copy_,run_underlying hu,Builtin.lenOf,Builtin.firstCells,hi.run_size,hmn,storeCells,hl0]
    unfold Oper.wp
    rw [hrun0 _ hra]
    simp only [Result.andThen_ok,Oper.upon,hd]
    exact hn E β _ (hsame.set ht (by rw [Nat.min_zero]; unfold goInt; exact .int _ _ _))
  | osl _ _ b _ cap _ hb hc hsz c e2 f2 hcap hcs hcm =>
    subst hl
    exact aFX ho hd ht hu hi he hy (f.flat_len ys) hone (by rw [f.flat_len]; omega) rfl (aGa f xs ys) E β a hr (by
      rw [hv]; exact .rsl _ _ _ 0 _ cap b 0 hb hc hsz ⟨fun _=>rfl,Nat.le_refl _⟩ c e2 f2 hcap (by omega) hcm) next Q hn
theorem aAf {ops : Array Oper} {o : Oper} {l : List Oper} {j tj t : Nat} {want g : Bool} (hg : o.guard = some (j,want)) (hj : (ops[j]?).bind (·.dst) = some tj)
    (hb : Grd S tj want g) (hd : (o.dst,pQ o.op) = (some t,true)) (ht : t < N) (h1 : g = true → ILS P O N ops ({ o with guard:=none } :: l) S Q) (h2 : g = false → ILS P O N ops l (S.set t (.cnd g (.bool false))) Q) : ILS P O N ops (o :: l) S Q:=by
  obtain ⟨hd,hnd⟩:=Prod.mk.inj hd
  intro E β a hr
  have hwant:=hb.yields hr hj hg
  unfold wpListIn
  rw [hwant]
  cases g with
  | true =>
    simp only [if_true]
    have h3:=h1 rfl E β a hr
    have h4 : Oper.wpIn (fen O.round) 0 P { o with guard:=none } a E.w (wpListIn (fen O.round) 0 P ops (fun e a' w'=>∃ S' E' β',E'.w = w' ∧ Rel O N S' E' β' a' ∧ Q e S') l) (fun e a' w'=>∃ S' E' β',E'.w = w' ∧ Rel O N S' E' β' a' ∧ Q e S'):=by
      unfold wpListIn at h3
      simp only [Region.wanted,if_true] at h3
      exact h3
    have h5 : Oper.wpIn (fen O.round) 0 P o a E.w (wpListIn (fen O.round) 0 P ops (fun e a' w'=>∃ S' E' β',E'.w = w' ∧ Rel O N S' E' β' a' ∧ Q e S') l) (fun e a' w'=>∃ S' E' β',E'.w = w' ∧ Rel O N S' E' β' a' ∧ Q e S'):=h4
    exact h5
  | false =>
    simp only [Bool.false_eq_true,if_false,hd]
    exact ⟨fun _ _=>trivial,(h2 rfl E β _ (hr.set ht (.cnd _ _ _ _ (fun h=>by cases h) fun _=>rfl)))⟩
theorem Rel.uncnd {E : Env} {β : bW} {a : Act} (h : Rel O N S E β a) {t : Nat} {g : Bool} {d : D} (hS : S.get t = .cnd g d) (hg : g = true) : Rel O N (S.set t d) E β a:=by
  refine ⟨h.n,h.nd,h.h,fun s=>?_⟩
  by_cases hs : t = s
  · subst hs
    have:=h.sl t
    rw [hS] at this
    have e : (S.set t d).get t = d:=by simp [St.get,St.set,aX]
    rw [e]
    generalize a.tmps.getD t undef = v at this ⊢
    cases this with
    | cnd _ _ _ _ k _=>exact k hg
  · have e : (S.set t d).get s = S.get s := by simp [St.get, St.set, aX, hs]
    rw [e]; exact h.sl s
theorem qF {ops : Array Oper} {l : List Oper} (t : Nat) {g : Bool} {d : D} (hS : S.get t = .cnd g d) (hg : g = true) (k : ILS P O N ops l (S.set t d) Q) : ILS P O N ops l S Q :=
  fun E β a hr=>k E β a (hr.uncnd hS hg)
end
end Go.IL
namespace Go.IL
theorem aEg {E : Env} {β : bW} {v : Value} {l : List UInt8} (h : Rd E β v (.str l)) : v = .string (bs l):=by cases h; rfl
def cntB (s : List UInt8) (c : Int) : Int:=(Lib.countByte s c.toNat.toUInt8 : Int)
def idxB (s : List UInt8) (c : Int) : Int:=Lib.indexByte s c.toNat.toUInt8
def decF : Nat → Nat → List UInt8
  | 0,u=>[UInt8.ofNat (48 + u)]
  | k + 1,u=>bif decide (u < 10) then [UInt8.ofNat (48 + u)] else decF k (u / 10) ++ [UInt8.ofNat (48 + u % 10)]
theorem aCq : ∀ (k u : Nat), u < 10 ^ (k + 1) → decF k u = Lib.decDigits u
  | 0, u, h => by
    have h : u < 10:=by simpa using h
    rw [Lib.decDigits,dif_pos h]; rfl
  | k + 1, u, h => by
    rw [Lib.decDigits]
    by_cases h1 : u < 10
    · rw [dif_pos h1,decF,decide_eq_true h1]; rfl
    · rw [dif_neg h1,decF,decide_eq_false h1,← aCq k (u / 10) (by
        have : 10 ^ (k + 1 + 1) = 10 ^ (k + 1) * 10:=Nat.pow_succ ..
        omega)]; rfl
def kT (n : Int) : List UInt8:=bif decide (n < 0) then 45 :: decF 19 n.natAbs else decF 19 n.toNat
def aE8 (n : Int) : Option (List UInt8):=bif decide (-9223372036854775808 ≤ n) && decide (n ≤ 9223372036854775807) then some (kT n) else none
theorem aGJ {n : Int} (h : -9223372036854775808 ≤ n ∧ n ≤ 9223372036854775807) : kT n = Lib.itoa n:=by
  have hp : 10 ^ (19 + 1) = 100000000000000000000:=by decide
  unfold kT Lib.itoa
  by_cases h1 : n < 0
  · rw [if_pos h1,decide_eq_true h1,← aCq 19 n.natAbs (by rw [hp]; omega)]; rfl
  · rw [if_neg h1,decide_eq_false h1,← aCq 19 n.toNat (by rw [hp]; omega)]; rfl
theorem itoaS_e {n : Int} {r : List UInt8} (h : aE8 n = some r) : (-9223372036854775808 ≤ n ∧ n ≤ 9223372036854775807) ∧ Lib.itoa n = r:=by
  unfold aE8 at h
  cases hb : (decide (-9223372036854775808 ≤ n) && decide (n ≤ 9223372036854775807)) with
  | true =>
    rw [hb] at h
    rw [Bool.and_eq_true,decide_eq_true_iff,decide_eq_true_iff] at hb
    exact ⟨hb,(aGJ hb).symm.trans (Option.some.inj h)⟩
  | false=>rw [hb] at h; cases h
section
variable {P : Program} {O : cG} {N : Nat} {S S' : St} {o : Oper} {t : Nat}
theorem aGR {f : FuncId} {x y : Operand} {ts : Array TypeId} {l : List UInt8} {c r : Int} (ho : o.op = .call { callee:=.value (.func f),args:=#[x,y],argTypes:=ts }) (hd : o.dst = some t) (ht : t < N)
    (hc : vT P f Extern.BytealgCount.count) (hx : SV S x (.str l)) (hy : SV S y (.int .u8 c)) (h : cntB l c = r) : IOp P O N o S (S.set t (.int .i64 r)):=by
  refine aAe (xs:=[x,y]) ho hd ht hc (.cons hx (.cons hy .nil)) fun E β vs hv=>?_
  cases hv with
  | cons h1 h2 =>
    cases h2 with
    | cons h3 h4 =>
      cases h4
      obtain rfl:=jU h3
      obtain rfl:=aEg h1
      exact ⟨_,Lib.run_countString _ _ _,h ▸ .int _ _ _⟩
theorem aGP {f : FuncId} {x y : Operand} {ts : Array TypeId} {l : List UInt8} {c r : Int} (ho : o.op = .call { callee:=.value (.func f),args:=#[x,y],argTypes:=ts }) (hd : o.dst = some t) (ht : t < N)
    (hc : vT P f Extern.BytealgIndexByte.indexByte) (hx : SV S x (.str l)) (hy : SV S y (.int .u8 c)) (h : idxB l c = r) : IOp P O N o S (S.set t (.int .i64 r)):=by
  refine aAe (xs:=[x,y]) ho hd ht hc (.cons hx (.cons hy .nil)) fun E β vs hv=>?_
  cases hv with
  | cons h1 h2 =>
    cases h2 with
    | cons h3 h4 =>
      cases h4
      obtain rfl:=jU h3
      obtain rfl:=aEg h1
      exact ⟨_,Lib.run_indexByteString _ _ _,h ▸ .int _ _ _⟩
end
end Go.IL
namespace Go.IL
section
variable {P : Program} {O : cG} {N : Nat} {S S' : St} {o : Oper} {t : Nat}
theorem aAV {T e : TypeId} (h : P.underlying T = some (.pointer e)) : P.underlying T = some (.pointer (P.pointee T)):=by
  unfold Program.pointee; rw [h]
theorem nilp_ev {E : Env} {β : bW} {a : Act} {y : Operand} (hr : Rel O N S E β a) (hy : SV S y .nilp) : a.eval y = .pointer none:=by
  have:=hy.rd hr
  generalize a.eval y = v at this
  cases this; rfl
theorem aEc {T e : TypeId} {p : Option Addr} (hu : P.underlying T = some (.pointer e)) (w : World) (neq : Bool) : (binOp (if neq then .neq else .eql) T (.pointer p) (.pointer none)).run P w = .ok (.bool (if neq then !p.isNone else p.isNone)) w:=by
  cases neq
  · exact run_eql_pointer_nil w T p (aAV hu)
  · exact run_neq_pointer_nil w T p (aAV hu)
theorem aA9 {T T2 e : TypeId} {x y : Operand} {neq r : Bool} (ho : o.op = .binOp (if neq then .neq else .eql) T x y T2) (hd : o.dst = some t) (ht : t < N) (hu : P.underlying T = some (.pointer e))
    (hx : ∀ E β a,Rel O N S E β a → ∃ p,a.eval x = .pointer p ∧ (if neq then !p.isNone else p.isNone) = r) (hy : SV S y .nilp) : IOp P O N o S (S.set t (.bool r)) :=
  eY hd ht fun E β a hr=>by
    obtain ⟨p,hp,hq⟩:=hx E β a hr
    have hyv:=nilp_ev hr hy
    have h1:=aEc (p:=p) hu E.w neq
    rw [hq] at h1
    exact ⟨_,by simp [execOp,ho,hp,hyv,eqGuard,h1],.bool _ _⟩
theorem aGN {T T2 e : TypeId} {x y : Operand} {b : Bool} (ho : o.op = .binOp .neq T x y T2) (hd : o.dst = some t) (ht : t < N) (hu : P.underlying T = some (.pointer e)) (hx : SV S x (.optp b)) (hy : SV S y .nilp) : IOp P O N o S (S.set t (.bool b)) :=
  aA9 (neq:=true) ho hd ht hu (fun E β a hr=>by have h:=hx.rd hr; generalize a.eval x = v at h; cases h <;> exact ⟨_,rfl,rfl⟩) hy
end
theorem svp1 {S : St} {x : Operand} {id off : Nat} (h : S.op x = .ref id off) : SV S x (.optp true):=(sv h).sub (.refp id off)
theorem svp0 {S : St} {x : Operand} (h : S.op x = .nilp) : SV S x (.optp false):=(sv h).sub .nilp
end Go.IL
open Go.Lib
open Go.RowKit (Below)
namespace Go.IL
section
variable {P : Program} {O : cG} {N : Nat} {S S' : St} {o : Oper} {t : Nat} {Q : Exit → St → Prop}
theorem HOk.drop {E E' : Env} {β : bW} {H H' : Nat → Ent} {b id : Nat} (h : HOk O E β H) (hs : Step O E E' b) (hle : E.le E')
    (hother : ∀ j,j ≠ id → H' j = H j) (hid : H' id = .none) (hap : ∀ j,j ≠ id → (H j).held = true → β j ≠ some b) : HOk O E' β H' where
  os:=hs.os.trans h.os
  tab:=h.tab
  tape:=hs.tape.trans h.tape
  output:=hs.output.trans h.output
  size:=Nat.le_trans h.size hs.size
  block k hk hf:=by
    have hne : k ≠ b:=by
      rintro rfl
      rcases hs.own with h1 | h1
      · omega
      · exact hf h1
    exact (hs.block k (by have:=h.size; omega) hne).trans (h.block k hk hf)
  xlt k o hX:=by
    by_cases hk : k = b
    · subst hk; exact hs.lt
    · exact Nat.lt_of_lt_of_le (h.xlt k o ((hs.X k o hk).1 hX)) hs.size
  xold k o hk hf:=by
    have hne : k ≠ b:=by
      rintro rfl
      rcases hs.own with h1 | h1
      · omega
      · exact hf h1
    exact (hs.X k o hne).trans (h.xold k o hk hf)
  ent j := by
    by_cases hj : j = id
    · subst hj; rw [hid]; trivial
    · rw [hother j hj]
      have hapj:=hap j hj
      have he:=h.ent j
      cases hH : H j with
      | none=>trivial
      | fresh=>rw [hH] at he; exact he
      | blk e ds =>
        rw [hH] at he hapj
        rcases he with ⟨h3,h4⟩ | ⟨k,vs,sp,h3,h4,h5,h6,h7⟩
        · exact .inl ⟨h3,h4⟩
        · have hne : k ≠ b := fun e => hapj rfl (e ▸ h3)
          exact .inr ⟨k,vs,sp,h3,h4,(hs.block k (dI h5) hne).trans h5,fun o=>(hs.X k o hne).2 (h6 o),RdL.mono hle (bW.le.refl _) h7⟩
      | tail e sz n =>
        rw [hH] at he hapj
        rcases he with ⟨h3,h4⟩ | ⟨k,c,h3,h4,h5,h6⟩
        · exact .inl ⟨h3,h4⟩
        · have hne : k ≠ b := fun e => hapj rfl (e ▸ h3)
          exact .inr ⟨k,c,h3,h4,(hs.block k (dI h5) hne).trans h5,fun o ho=>(hs.X k o hne).2 (h6 o ho)⟩
      | loop lk ds st pend =>
        rw [hH] at he hapj
        obtain ⟨k,r,h3,h4,h5,h6,h7,h8,h9,h10,h11,h12⟩:=he
        have hne : k ≠ b:=fun e=>hapj rfl (e ▸ h3)
        exact ⟨k,r,h3,h4,(hs.block k (dI h5) hne).trans h5,fun o=>(hs.X k o hne).2 (h6 o),h7,h8,h9,h10,h11,h12.1,RdL.mono hle (bW.le.refl _) h12.2⟩
      | mp ks ds =>
        rw [hH] at he hapj
        obtain ⟨k,es,cl,h3,h4,h5,h6,h7,h8⟩:=he
        have hne : k ≠ b:=fun e=>hapj rfl (e ▸ h3)
        exact ⟨k,es,cl,h3,h4,(hs.block k (dI h5) hne).trans h5,fun o=>(hs.X k o hne).2 (h6 o),h7,RdL.mono hle (bW.le.refl _) h8⟩
      | kept n ds =>
        rw [hH] at he
        refine ⟨RdL.mono hle (bW.le.refl _) he.1,fun c hc=>?_⟩
        have h5:=he.2 c hc
        by_cases hcb : c = b
        · subst hcb; exact absurd h5 (hs.dfr _)
        · exact (hs.block c (dI h5) hcb).trans h5
  le:=h.le.trans hle
  gid:=h.gid
  given i b hi:=h.given i b hi
  inj i j k hi hj h1 h2:=by
    have hii : i ≠ id:=fun e=>by rw [e,hid] at hi; cases hi
    have hjj : j ≠ id:=fun e=>by rw [e,hid] at hj; cases hj
    exact h.inj i j k (hother i hii ▸ hi) (hother j hjj ▸ hj) h1 h2
structure cG.Semi (O : cG) : Prop where
  round : O.round = none
  foot : ∀ b,O.w.heap.size ≤ b → ¬ O.foot b
structure cG.SemiL (L : List Nat) (O : cG) : Prop where
  round : O.round = none
  foot : ∀ b,O.w.heap.size ≤ b → ¬ O.foot b
  dv : ∀ j,j ∉ L → O.dv j = []
end
end Go.IL
namespace Go.IL
def mixD {α : Type} (f : Enc0 α) (pre : List D) (xs : List α) (post : List D) : List D:=pre ++ (D.flat (xs.map f.d) ++ post)
section
variable {P : Program} {O : cG} {N : Nat} {S S' : St} {o : Oper} {t : Nat} {α : Type}
theorem zP (f : Enc0 α) (pre : List D) (xs : List α) (post : List D) : (mixD f pre xs post).length = pre.length + (xs.length * f.sz + post.length):=by
  unfold mixD
  rw [List.length_append,List.length_append,f.flat_len]
theorem mix_pre (f : Enc0 α) {pre : List D} (xs : List α) (post : List D) {off : Nat} (h : off ≤ pre.length) : (mixD f pre xs post).drop off = pre.drop off ++ (D.flat (xs.map f.d) ++ post):=by
  unfold mixD
  rw [List.drop_append_of_le_length h]
theorem aGC (f : Enc0 α) (pre : List D) {xs : List α} {post : List D} {n off k : Nat} (hl : xs.length = n) (ho : off = pre.length + n * f.sz + k) : (mixD f pre xs post).drop off = post.drop k:=by
  unfold mixD
  have h1:=f.flat_len xs
  rw [hl] at h1
  rw [ho,Nat.add_assoc,List.drop_append,List.drop_of_length_le (by omega),List.nil_append,show pre.length + (n * f.sz + k) - pre.length = n * f.sz + k by omega,List.drop_append,List.drop_of_length_le (by omega),List.nil_append,show n * f.sz + k - (D.flat (xs.map f.d)).length = k by omega]
theorem mix_mid (f : Enc0 α) {pre : List D} {xs : List α} {post : List D} {b i k : Nat} {a : α} (hb : pre.length = b) (ha : xs[i]? = some a) (hk : k ≤ f.sz) : ∃ q,(mixD f pre xs post).drop (b + (i * f.sz + k)) = (f.d a).cells.drop k ++ q:=by
  obtain ⟨q,hq⟩:=f.drop_at ha k hk
  have hlt:=(List.getElem?_eq_some_iff.1 ha).1
  have hle : (i + 1) * f.sz ≤ xs.length * f.sz:=Nat.mul_le_mul_right _ (by omega)
  rw [Nat.add_mul,Nat.one_mul] at hle
  refine ⟨q ++ post,?_⟩
  unfold mixD
  rw [List.drop_append,List.drop_of_length_le (by omega),List.nil_append,show b + (i * f.sz + k) - pre.length = i * f.sz + k by omega,List.drop_append_of_le_length (by rw [f.flat_len]; omega),hq,List.append_assoc]
theorem aG5 {f : Enc0 α} {pre post : List D} {xs : List α} {a : α} {b i k size : Nat} (hb : pre.length = b) (ha : xs[i]? = some a) (hn : k + size ≤ f.sz) : b + (i * f.sz + k) + size ≤ (mixD f pre xs post).length:=by
  have hlt:=(List.getElem?_eq_some_iff.1 ha).1
  have hle : (i + 1) * f.sz ≤ xs.length * f.sz:=Nat.mul_le_mul_right _ (by omega)
  rw [Nat.add_mul,Nat.one_mul] at hle
  rw [zP]; omega
section loads
variable (f : Enc0 α) {T : TypeId} {x : Operand} {u : TypeDesc} {z : Option Value} {size bytes : Nat} {id off : Nat} {e : TypeId} {pre post r cs : List D} {xs : List α} {d : D}
theorem zW (ho : o.op = .load T x) (hd : o.dst = some t) (ht : t < N) (hu : P.underlying T = some u) (hg : eA P T = true) (hi : TI P T z size bytes) (h1 : 0 < size) (hx : SV S x (.ref id off)) (he : S.ent id = .blk e (mixD f pre xs post)) (hn : off + size ≤ pre.length)
    (hdd : (pre.drop off).take size = cs) : IOp P O N o S (S.set t (.agg cs)) :=
  jN ho hd ht hu hg hi h1 hx he (by rw [zP]; omega) (by rw [mix_pre f xs post (by omega),List.take_append_of_le_length (by rw [List.length_drop]; omega)]; exact hdd)
theorem zV {n k : Nat} (ho : o.op = .load T x) (hd : o.dst = some t) (ht : t < N) (hu : P.underlying T = some u) (hg : eA P T = false) (hi : TI P T z size bytes) (h1 : 0 < size) (hx : SV S x (.ref id off)) (he : S.ent id = .blk e (mixD f pre xs post)) (hl : xs.length = n)
    (hof : off = pre.length + n * f.sz + k) (hn : k + size ≤ post.length) (hdd : post.drop k = d :: r) : IOp P O N o S (S.set t d) :=
  eC ho hd ht hu hg hi h1 hx he (by rw [zP,hl]; omega) (by rw [aGC f pre hl hof]; exact hdd)
theorem aCj {b i k : Nat} {a : α} (ho : o.op = .load T x) (hd : o.dst = some t) (ht : t < N) (hu : P.underlying T = some u) (hg : eA P T = true) (hi : TI P T z size bytes) (h1 : 0 < size) (hx : SV S x (.ref id (b + (i * f.sz + k)))) (he : S.ent id = .blk e (mixD f pre xs post)) (hb : pre.length = b)
    (ha : xs[i]? = some a) (hn : k + size ≤ f.sz) (hdd : ((f.d a).cells.drop k).take size = cs) : IOp P O N o S (S.set t (.agg cs)):=by
  obtain ⟨q,hq⟩:=mix_mid (post:=post) f hb ha (show k ≤ f.sz by omega)
  exact jN ho hd ht hu hg hi h1 hx he (aG5 hb ha hn) (by rw [hq,List.take_append_of_le_length (by rw [List.length_drop,(f.fl a).1]; omega)]; exact hdd)
end loads
theorem yO {A Z C : List D} {off : Nat} (h : off + C.length ≤ A.length) : gL (A ++ Z) off C = gL A off C ++ Z:=by
  unfold gL
  rw [List.take_append_of_le_length (by omega),List.drop_append_of_le_length (by omega)]; simp
theorem rR {A Z C : List D} {off k : Nat} (h : off = A.length + k) : gL (A ++ Z) off C = A ++ gL Z k C:=by
  unfold gL
  rw [h,List.take_append,List.take_of_length_le (by omega),show A.length + k - A.length = k by omega,List.drop_append,List.drop_of_length_le (by omega),List.nil_append,show A.length + k + C.length - A.length = k + C.length by omega]; simp
section stores
variable (f : Enc0 α) {T : TypeId} {x y : Operand} {z : Option Value} {size bytes : Nat} {id off : Nat} {e : TypeId} {pre pre' post post' : List D} {xs zs : List α} {d : D}
theorem qD (ho : o.op = .store T x y) (hd : o.dst = none) (hi : TI P T z size bytes) (hx : SV S x (.ref id off)) (he : S.ent id = .blk e (mixD f pre xs post)) (hy : SV S y d) (hb : d.boxable = true) (hsz : d.cells.length = size) (h1 : d.cells.all D.one = true)
    (hn : off + size ≤ pre.length) (hds : gL pre off d.cells = pre') : IOp P O N o S (S.setE id (.blk e (mixD f pre' xs post))) :=
  cH ho hd hi hx he hy hb hsz h1 (by rw [zP]; omega) (by unfold mixD; rw [yO (by omega),hds])
theorem lS {n k : Nat} (ho : o.op = .store T x y) (hd : o.dst = none) (hi : TI P T z size bytes) (hx : SV S x (.ref id off)) (he : S.ent id = .blk e (mixD f pre xs post)) (hy : SV S y d) (hb : d.boxable = true) (hsz : d.cells.length = size) (h1 : d.cells.all D.one = true)
    (hl : xs.length = n) (hof : off = pre.length + n * f.sz + k) (hn : k + size ≤ post.length) (hds : gL post k d.cells = post') : IOp P O N o S (S.setE id (.blk e (mixD f pre xs post'))):=by
  have hfl:=f.flat_len xs
  rw [hl] at hfl
  exact cH ho hd hi hx he hy hb hsz h1 (by rw [zP,hl]; omega) (by unfold mixD; rw [rR (A:=pre) (k:=n * f.sz + k) (by omega),rR (k:=k) (by omega),hds])
theorem aAc {b i k : Nat} {a a' : α} (ho : o.op = .store T x y) (hd : o.dst = none) (hi : TI P T z size bytes) (hx : SV S x (.ref id (b + (i * f.sz + k)))) (he : S.ent id = .blk e (mixD f pre xs post)) (hy : SV S y d) (hb : d.boxable = true) (hsz : d.cells.length = size) (h1 : d.cells.all D.one = true)
    (hpb : pre.length = b) (ha : xs[i]? = some a) (hn : k + size ≤ f.sz) (hs : gL (f.d a).cells k d.cells = (f.d a').cells) (hz : xs.set i a' = zs) : IOp P O N o S (S.setE id (.blk e (mixD f pre zs post))):=by
  subst hz
  have hlt:=(List.getElem?_eq_some_iff.1 ha).1
  have hle : (i + 1) * f.sz ≤ xs.length * f.sz:=Nat.mul_le_mul_right _ (by omega)
  rw [Nat.add_mul,Nat.one_mul] at hle
  refine cH ho hd hi hx he hy hb hsz h1 (aG5 hpb ha hn) ?_
  unfold mixD
  rw [rR (A:=pre) (k:=i * f.sz + k) (by omega),yO (by rw [f.flat_len]; omega),f.flat_set (by omega) ha hs]
end stores
theorem aBF (f : Enc0 α) {T e : TypeId} {len b : Nat} {x y : Operand} {xs : List α} {a : α} {k : IntKind} {n : Int} {z : Option Value} {bytes : Nat} {id : Nat} (ho : o.op = .indexAddr T x y) (hd : o.dst = some t) (ht : t < N)
    (hu : P.underlying T = some (.array len e)) (hi : TI P e z f.sz bytes) (hx : SV S x (.ref id b)) (hl : xs.length = len) (hy : SV S y (.int k n)) (hn : gix xs n = some a) :
    IOp P O N o S (S.set t (.ref id (b + (n.toNat * f.sz + 0)))) :=
  eT ho hd ht hu hi hx hy (tE hn).1 (hl ▸ (List.getElem?_eq_some_iff.1 (tE hn).2).1) (by omega)
theorem tR {ρ : Nat → Nat} : ∀ (l m : List D),D.renL ρ (l ++ m) = D.renL ρ l ++ D.renL ρ m
  | [],_=>rfl
  | d :: l,m=>by rw [List.cons_append,D.renL,D.renL,tR l m]; rfl
theorem oH {ρ : Nat → Nat} (f : Enc α) (pre : List D) (xs : List α) (post : List D) : D.renL ρ (mixD f.toEnc0 pre xs post) = mixD f.toEnc0 (D.renL ρ pre) xs (D.renL ρ post):=by
  unfold mixD
  rw [tR,tR,D.renL_bare _ (f.noRef xs)]
theorem aAt {p : Nat → Bool} (f : Enc α) {pre : List D} {xs : List α} {post : List D} (h1 : D.refsInL p pre = true) (h2 : D.refsInL p post = true) : D.refsInL p (mixD f.toEnc0 pre xs post) = true:=by
  unfold mixD
  exact nJ h1 (nJ (D.refsInL_mono _ (f.noRef xs)) h2)
theorem SubC.refl : ∀ l : List D,SubC l l
  | []=>.nil
  | _ :: l=>.same (SubC.refl l)
theorem SubC.append {l l' m m' : List D} (h : SubC l l') (k : SubC m m') : SubC (l ++ m) (l' ++ m'):=by
  induction h with
  | nil=>exact k
  | same _ ih=>exact .same ih
  | nilg _ ih=>exact .nilg ih
  | nilo _ ih=>exact .nilo ih
  | nils _ ih=>exact .nils ih
  | gsl _ ih=>exact .gsl ih
theorem EntW.mix {ρ : Nat → Nat} {id : Nat} {e : TypeId} (f : Enc α) {pre pre' post post' : List D} {xs : List α} (h : S.ent (ρ id) = .blk e (mixD f.toEnc0 pre' xs post')) (h1 : SubC pre' (D.renL ρ pre)) (h2 : SubC post' (D.renL ρ post))
    (r1 : D.refsInL S'.okn pre = true) (r2 : D.refsInL S'.okn post = true) : EntW S S' ρ id (.blk e (mixD f.toEnc0 pre xs post)) :=
  .sub h (by rw [oH]; exact h1.append ((SubC.refl _).append h2)) (aAt f r1 r2)
theorem SubC.of_eq {l l' : List D} (h : l = l') : SubC l l':=h ▸ SubC.refl l
theorem aBJ (f : Enc α) {ρ : Nat → Nat} {i : Nat} {e : TypeId} {pre pre' post post' : List D} {xs : List α} (h : S.ent i = .blk e (mixD f.toEnc0 pre' xs post')) (h1 : pre' = D.renL ρ pre) (h2 : post' = D.renL ρ post) : S.ent i = (Ent.blk e (mixD f.toEnc0 pre xs post)).ren ρ:=by
  rw [h,Ent.ren,oH,h1,h2]
theorem mV (f : Enc α) {p : Nat → Bool} {e : TypeId} {pre post : List D} {xs : List α} (h1 : D.refsInL p pre = true) (h2 : D.refsInL p post = true) : (Ent.blk e (mixD f.toEnc0 pre xs post)).refsIn p = true:=aAt f h1 h2
theorem SlW.mix {ρ : Nat → Nat} {t : Nat} (f : Enc α) {xs : List α} (h : S.get t = .agg (mixD f.toEnc0 [] xs [])) : SlW S S' ρ t (.agg (mixD f.toEnc0 [] xs [])) :=
  .same (by rw [h,D.ren,oH]; rfl) (by rw [D.refsIn]; exact aAt f rfl rfl)
section
variable {Q : Exit → St → Prop}
end
end
end Go.IL
namespace Go.IL
section
variable {P : Program} {O : cG} {N : Nat} {S S' : St} {o : Oper} {t : Nat} {Q : Exit → St → Prop}
theorem lb {a b : Nat} (h : Nat.ble (a + 1) b = true) : a < b:=Nat.le_of_ble_eq_true h
theorem svI {x : Operand} {k : IntKind} {n : Int} (h : S.op x = .int k n) : SV S x (.int k n):=sv h
theorem svB {x : Operand} {n : Bool} (h : S.op x = .bool n) : SV S x (.bool n):=sv h
theorem svR {x : Operand} {i j : Nat} (h : S.op x = .ref i j) : SV S x (.ref i j):=sv h
theorem svL {x : Operand} {f : Bool} {l : List D} (h : S.op x = .slice f l) : SV S x (.slice f l):=sv h
theorem svA {x : Operand} (l : List D) (h : S.op x = .agg l) : SV S x (.agg l):=sv h
theorem svcI {x : Operand} {b : Bool} {k : IntKind} {n : Int} (h : S.op x = .cnd b (.int k n)) (hb : b = true) : SV S x (.int k n):=svc h hb
theorem svcB {x : Operand} {b n : Bool} (h : S.op x = .cnd b (.bool n)) (hb : b = true) : SV S x (.bool n):=svc h hb
theorem svcR {x : Operand} {b : Bool} {i j : Nat} (h : S.op x = .cnd b (.ref i j)) (hb : b = true) : SV S x (.ref i j):=svc h hb
theorem svcL {x : Operand} {b : Bool} {f : Bool} {l : List D} (h : S.op x = .cnd b (.slice f l)) (hb : b = true) : SV S x (.slice f l):=svc h hb
theorem svcA {x : Operand} {b : Bool} (l : List D) (h : S.op x = .cnd b (.agg l)) (hb : b = true) : SV S x (.agg l):=svc h hb
theorem mvI {x : Operand} {k : IntKind} {n : Int} (ho : o.op = .move x) (hd : o.dst = some t) (ht : Nat.ble (t + 1) N = true) (hx : S.op x = .int k n) : IOp P O N o S (S.set t (.int k n)):=dR ho hd (lb ht) (sv hx)
theorem mvB {x : Operand} {n : Bool} (ho : o.op = .move x) (hd : o.dst = some t) (ht : Nat.ble (t + 1) N = true) (hx : S.op x = .bool n) : IOp P O N o S (S.set t (.bool n)):=dR ho hd (lb ht) (sv hx)
theorem mvR {x : Operand} {i j : Nat} (ho : o.op = .move x) (hd : o.dst = some t) (ht : Nat.ble (t + 1) N = true) (hx : S.op x = .ref i j) : IOp P O N o S (S.set t (.ref i j)):=dR ho hd (lb ht) (sv hx)
theorem mvL {x : Operand} {f : Bool} {l : List D} (ho : o.op = .move x) (hd : o.dst = some t) (ht : Nat.ble (t + 1) N = true) (hx : S.op x = .slice f l) : IOp P O N o S (S.set t (.slice f l)):=dR ho hd (lb ht) (sv hx)
theorem asI {x : Operand} {k : IntKind} {n : Int} (ho : o.op = .assign x) (hd : o.dst = some t) (ht : Nat.ble (t + 1) N = true) (hx : S.op x = .int k n) : IOp P O N o S (S.set t (.int k n)):=bV ho hd (lb ht) (sv hx)
theorem asB {x : Operand} {n : Bool} (ho : o.op = .assign x) (hd : o.dst = some t) (ht : Nat.ble (t + 1) N = true) (hx : S.op x = .bool n) : IOp P O N o S (S.set t (.bool n)):=bV ho hd (lb ht) (sv hx)
def LA (P : Program) (T : TypeId) (u : TypeDesc) (z : Option Value) (size bytes : Nat) (g : Bool) : Prop:=P.underlying T = some u ∧ eA P T = g ∧ TI P T z size bytes ∧ 0 < size
theorem LA.mk {T : TypeId} {u : TypeDesc} {z : Option Value} {size bytes : Nat} {g : Bool} (h1 : P.underlying T = some u) (h2 : eA P T = g) (h3 : TI P T z size bytes) (h4 : 0 < size) : LA P T u z size bytes g:=⟨h1,h2,h3,h4⟩
theorem lra {T : TypeId} {x : Operand} {u : TypeDesc} {z : Option Value} {size bytes : Nat} {id off : Nat} {e : TypeId} {ds : List D} (cs : List D) (l : LA P T u z size bytes true) (ho : o.op = .load T x) (hd : o.dst = some t) (ht : Nat.ble (t + 1) N = true)
    (hx : S.op x = .ref id off) (he : S.ent id = .blk e ds) (hn : off + size ≤ ds.length) (hdd : (ds.drop off).take size = cs) : IOp P O N o S (S.set t (.agg cs)):=jN ho hd (lb ht) l.1 l.2.1 l.2.2.1 l.2.2.2 (sv hx) he hn hdd
theorem lrL {T : TypeId} {x : Operand} {u : TypeDesc} {z : Option Value} {size bytes : Nat} {id off : Nat} {e : TypeId} {ds r : List D} {f : Bool} {m : List D} (l : LA P T u z size bytes false) (ho : o.op = .load T x) (hd : o.dst = some t) (ht : Nat.ble (t + 1) N = true)
    (hx : S.op x = .ref id off) (he : S.ent id = .blk e ds) (hn : off + size ≤ ds.length) (hdd : ds.drop off = .slice f m :: r) : IOp P O N o S (S.set t (.slice f m)):=eC ho hd (lb ht) l.1 l.2.1 l.2.2.1 l.2.2.2 (sv hx) he hn hdd
theorem rva {x : Nat} {T : TypeId} {id off : Nat} {e : TypeId} {ds cs : List D} {u : TypeDesc} {z : Option Value} {size bytes : Nat} (l : LA P T u z size bytes true) (hx : S.get x = .ref id off) (he : S.ent id = .blk e ds)
    (hn : off + size ≤ ds.length) (hd : (ds.drop off).take size = cs) : ResV P S (.cell x T) (.agg cs):=resv_a hx he l.1 l.2.1 l.2.2.1 l.2.2.2 hn hd
theorem stA {T : TypeId} {x y : Operand} {z : Option Value} {size bytes : Nat} {id off : Nat} {e : TypeId} {ds : List D} (c ds' : List D) (hi : TI P T z size bytes) (ho : o.op = .store T x y) (hd : o.dst = none)
    (hx : S.op x = .ref id off) (he : S.ent id = .blk e ds) (hy : S.op y = .agg c) (hb : (D.agg c).boxable = true) (hsz : (D.agg c).cells.length = size) (h1 : (D.agg c).cells.all D.one = true)
    (hn : off + size ≤ ds.length) (hds : gL ds off (D.agg c).cells = ds') : IOp P O N o S (S.setE id (.blk e ds')):=cH ho hd hi (sv hx) he (sv hy) hb hsz h1 hn hds
theorem faR {T : TypeId} {x : Operand} {i : Nat} {fs : Array Field} {F : Field} {z : Option Value} {size bytes : Nat} {id off : Nat} (off' : Nat) (ho : o.op = .fieldAddr T x i) (hd : o.dst = some t) (ht : Nat.ble (t + 1) N = true)
    (hu : P.underlying T = some (.struct fs)) (hf : fs[i]? = some F) (hi : TI P F.type z size bytes) (hs : 0 < size) (hx : S.op x = .ref id off) (ho' : off + F.offset = off') : IOp P O N o S (S.set t (.ref id off')) :=
  cX ho hd (lb ht) hu hf hi hs (sv hx) ho'
theorem svaI {n : Node} {S0 : St} {s : Nat} {k : IntKind} {m : Int} (hA : rL n S S0) (hm : n.rs.elem s = true) (h : S0.get s = .int k m) : SV S (.tmp s) (.int k m):=sv (agr hA hm h)
theorem svaB {n : Node} {S0 : St} {s : Nat} {m : Bool} (hA : rL n S S0) (hm : n.rs.elem s = true) (h : S0.get s = .bool m) : SV S (.tmp s) (.bool m):=sv (agr hA hm h)
theorem svaR {n : Node} {S0 : St} {s i j : Nat} (hA : rL n S S0) (hm : n.rs.elem s = true) (h : S0.get s = .ref i j) : SV S (.tmp s) (.ref i j):=sv (agr hA hm h)
theorem svaL {n : Node} {S0 : St} {s : Nat} {f : Bool} {l : List D} (hA : rL n S S0) (hm : n.rs.elem s = true) (h : S0.get s = .slice f l) : SV S (.tmp s) (.slice f l):=sv (agr hA hm h)
theorem svaA {n : Node} {S0 : St} {s : Nat} (l : List D) (hA : rL n S S0) (hm : n.rs.elem s = true) (h : S0.get s = .agg l) : SV S (.tmp s) (.agg l):=sv (agr hA hm h)
theorem AllW.s {ρ : Nat → Nat} {t : Nat} {d : D} {l : List (Nat × D)} (h : S.get t = d.ren ρ) (hr : d.refsIn S'.okn = true) (k : AllW (SlW S S' ρ) l) : AllW (SlW S S' ρ) ((t,d) :: l):=.cons (.same h hr) k
theorem AllW.sames {ρ : Nat → Nat} : ∀ {l : List (Nat × D)},l.map (fun p=>S.get p.1) = l.map (fun p=>p.2.ren ρ) → (l.all fun p=>p.2.refsIn S'.okn) = true → AllW (SlW S S' ρ) l
  | [],_,_=>.nil
  | (t, d) :: l, h, hr => by
    simp only [List.map_cons,List.cons.injEq] at h
    simp only [List.all_cons,Bool.and_eq_true] at hr
    exact .cons (.same h.1 hr.1) (AllW.sames h.2 hr.2)
end
theorem SubL.k {d : D} {ds ds' : List D} (t : SubL ds ds') : SubL (d :: ds) (d :: ds'):=.cons (.refl d) t
theorem SubL.k4 {a b c d : D} {ds ds' : List D} (t : SubL ds ds') : SubL (a :: b :: c :: d :: ds) (a :: b :: c :: d :: ds'):=.k (.k (.k (.k t)))
theorem FDL.k {S : St} {d : D} {ds ds' : List D} (t : FDL S ds ds') : FDL S (d :: ds) (d :: ds'):=.cons (.refl d) t
theorem FDL.k4 {S : St} {a b c d : D} {ds ds' : List D} (t : FDL S ds ds') : FDL S (a :: b :: c :: d :: ds) (a :: b :: c :: d :: ds'):=.k (.k (.k (.k t)))
theorem SubL.all : ∀ (l : List D),SubL l l
  | []=>.nil
  | d :: l=>.cons (.refl d) (SubL.all l)
theorem FDL.all {S : St} (l : List D) : FDL S l l:=aDH l
theorem and_ff {a b : Bool} (h : (a && false) = b) : b = false:=by rw [← h,Bool.and_false]
theorem and_tt {a b : Bool} (h : (a && true) = b) (k : a = true) : b = true:=by rw [← h,k]; rfl
theorem and_cf {a b c : Bool} (h : (a && c) = b) (k : a = false) : b = false:=by rw [← h,k]; rfl
theorem beq_t {a : Bool} (h : (a == true) = true) : a = true:=by simpa using h
theorem beq_f {a : Bool} (h : (a == true) = false) : a = false:=by simpa using h
end Go.IL
namespace Go.IL
open RowKit (Below)
section
variable {P : Program} {O : cG} {N : Nat} {S S' : St} {o : Oper} {t : Nat}
theorem aDv {T : TypeId} (ho : o.op = .makeMap T none) (hd : o.dst = some t) (ht : t < N) : IOp P O N o S (S.set t .mapp) :=
  aB4 hd ht fun E β a hr=>by
    refine ⟨.map (some E.w.heap.size),E.w.alloc (.map #[] 0),?_,?_,.mapp _ _⟩
    · simp [execOp,ho,Instr.makeMap,Sem.run_bind,Sem.run_pure]
    · exact (RowKit.Below.refl _ _).alloc (Nat.le_refl _) _
theorem SubL.app {a b a' b' : List D} (h : SubL a a') (k : SubL b b') : SubL (a ++ b) (a' ++ b'):=by
  induction a generalizing a' with
  | nil=>cases h; exact k
  | cons d a ih=>cases h with | cons h1 h2=>exact .cons h1 (ih h2)
theorem aFx {α : Type} {f : Enc0 α} {xs : List α} {pre pre' post post' : List D} (h : SubL pre pre') (k : SubL post post') : SubL (mixD f pre xs post) (mixD f pre' xs post') :=
  h.app ((SubL.all _).app k)
end
end Go.IL
open Go Go.IL
namespace Go.Fn
structure bL where
  Streams : Int
  Window : Int
  Whole : Int
  Chunk : Int
  deriving DecidableEq,Inhabited
def oN : Enc bL:=⟨⟨fun x=>.agg [.int .i64 x.Streams,.int .i64 x.Window,.int .i64 x.Whole,.int .i64 x.Chunk],4,by decide,fun _=>⟨rfl,rfl⟩⟩,fun _=>rfl⟩

structure kD where
  c0 : bL
  c1 : bL
  deriving DecidableEq,Inhabited
def aGs : Enc kD:=⟨⟨fun x=>.agg [.int .i64 x.c0.Streams,.int .i64 x.c0.Window,.int .i64 x.c0.Whole,.int .i64 x.c0.Chunk,.int .i64 x.c1.Streams,.int .i64 x.c1.Window,.int .i64 x.c1.Whole,.int .i64 x.c1.Chunk],8,by decide,fun _=>⟨rfl,rfl⟩⟩,fun _=>rfl⟩

structure kZ where
  c0 : Int
  c1 : Int
  deriving DecidableEq,Inhabited
def aGr : Enc kZ:=⟨⟨fun x=>.agg [.int .u32 x.c0,.int .u32 x.c1],2,by decide,fun _=>⟨rfl,rfl⟩⟩,fun _=>rfl⟩

structure bF where
  Paths : Int
  Values : kD
  First : kZ
  deriving DecidableEq,Inhabited
def aAQ : Enc bF:=⟨⟨fun x=>.agg [.int .i64 x.Paths,.int .i64 x.Values.c0.Streams,.int .i64 x.Values.c0.Window,.int .i64 x.Values.c0.Whole,.int .i64 x.Values.c0.Chunk,.int .i64 x.Values.c1.Streams,.int .i64 x.Values.c1.Window,.int .i64 x.Values.c1.Whole,.int .i64 x.Values.c1.Chunk,.int .u32 x.First.c0,.int .u32 x.First.c1],11,by decide,fun _=>⟨rfl,rfl⟩⟩,fun _=>rfl⟩

structure dN where
  c0 : Int
  c1 : Int
  c2 : Int
  c3 : Int
  deriving DecidableEq,Inhabited
structure vS where
  c0 : Bool
  c1 : Bool
  c2 : Bool
  c3 : Bool
  c4 : Bool
  deriving DecidableEq,Inhabited
structure dQ where
  Config : bF
  seen : vS
  deriving DecidableEq,Inhabited
variable [Fu]
def lL (a0 : bF) : Option bF :=
  some a0

def gS (a0 : bL) : Option dN :=
  some (⟨a0.Streams,a0.Window,a0.Whole,a0.Chunk⟩ : dN)

def uB  : Option (dN × dN) :=
  some (((⟨0,1,1,1⟩ : dN),(⟨8,4096,1048576,32⟩ : dN)))

def jQ (a0 : dN) (x1 : (dN × dN)) : Nat → Int → Int → Int → Int → Int → Option dN
  | 0,_,_,_,_,_=>none
  | n0 + 1, v7, v8, v24, v25, v26 =>
    bnd (decide (v7 < 4)) fun x42 =>
    bif x42 then (
      bno (gix ([a0.c0,a0.c1,a0.c2,a0.c3] : List Int) v7) fun x44 =>
      chk (0 ≤ v7 ∧ v7 < 4) <|bno (gix ([x1.1.c0,x1.1.c1,x1.1.c2,x1.1.c3] : List Int) v7) fun x46 =>
      chk (0 ≤ v7 ∧ v7 < 4) <|bno (gix ([x1.2.c0,x1.2.c1,x1.2.c2,x1.2.c3] : List Int) v7) fun x48 =>
      bnd (min x44 x48) fun x49 =>
      bnd (max x46 x49) fun x50 =>
      chk (0 ≤ v7 ∧ v7 < 4) <|bnd (bif decide (v7 = 0) then x50 else v8) fun x52 =>
      bnd (bif decide (v7 = 1) then x50 else v24) fun x53 =>
      bnd (bif decide (v7 = 2) then x50 else v25) fun x54 =>
      bnd (bif decide (v7 = 3) then x50 else v26) fun x55 =>
      bnd (IntKind.wrap .i64 (v7 + 1)) fun x56 =>
      (jQ a0 x1 n0) x56 x52 x53 x54 x55
    ) else (
      some (⟨v8,v24,v25,v26⟩ : dN)
    )
def lW (a0 : dN) : Option dN :=
  bno (uB) fun x1 =>
  jQ a0 x1 fuel 0 a0.c0 a0.c1 a0.c2 a0.c3

def kN (a0 : bL) : Option Int :=
  bno (gS a0) fun x1 =>
  bno (lW x1) fun x2 =>
  bnd ((decide (x1.c0 = x2.c0) && (decide (x1.c1 = x2.c1) && (decide (x1.c2 = x2.c2) && (decide (x1.c3 = x2.c3) && true))))) fun x3 =>
  bif (!x3) then (
    some 8
  ) else (
    some 0
  )

def fX (a0 : bF) : Nat → Int → Option Int
  | 0,_=>none
  | n0 + 1, v11 =>
    bnd (decide (v11 < 2)) fun x19 =>
    bif x19 then (
      bno (gix ([a0.Values.c0,a0.Values.c1] : List bL) v11) fun x21 =>
      bno (kN x21) fun x22 =>
      bnd (!decide (x22 = 0)) fun x23 =>
      bif x23 then (
        some x22
      ) else (
        bnd (IntKind.wrap .i64 (v11 + 1)) fun x25 =>
        (fX a0 n0) x25
      )
    ) else (
      some 0
    )
def gR (a0 : bF) : Option Int :=
  bnd (decide (a0.Paths < 1)) fun x1 =>
  bnd (decide (4 < a0.Paths)) fun x2 =>
  bnd (x1 || x2) fun x3 =>
  bif x3 then (
    some 8
  ) else (
    fX a0 fuel 0
  )

def strconv_Itoa (a0 : Int) : Option (List UInt8):=aE8 a0

def gQ (a1 : (List Int)) : Nat → (List UInt8) → Int → Option (List UInt8)
  | 0,_,_=>none
  | n0 + 1, v8, v9 =>
    bnd (decide (v9 < (a1.length : Int))) fun x17 =>
    bif x17 then (
      bno (gix a1 v9) fun x19 =>
      bno (strconv_Itoa x19) fun x20 =>
      bno (cat ([32] : List UInt8) x20) fun x21 =>
      bno (cat v8 x21) fun x22 =>
      bnd (IntKind.wrap .i64 (v9 + 1)) fun x23 =>
      (gQ a1 n0) x22 x23
    ) else (
      bno (cat v8 ([10] : List UInt8)) fun x24 =>
      some x24
    )
def gJ (a0 : (List UInt8)) (a1 : (List Int)) : Option (List UInt8) :=
  gQ a1 fuel a0 0

def fV (a0 : bF) : Nat → (List UInt8) → Int → Option ((List UInt8) × Int)
  | 0,_,_=>none
  | n1 + 1, v30, v31 =>
    bnd (decide (v31 < 2)) fun x39 =>
    bif x39 then (
      bno (gix ([a0.First.c0,a0.First.c1] : List Int) v31) fun x41 =>
      bnd (IntKind.wrap .i64 x41) fun x42 =>
      bno (gJ [102,105,114,115,116] ([v31,x42] : (List Int))) fun x43 =>
      bno (cat v30 x43) fun x44 =>
      bnd (IntKind.wrap .i64 (v31 + 1)) fun x45 =>
      (fV a0 n1) x44 x45
    ) else (
      some (v30,0)
    )
def fW (a0 : bF) : Nat → (List UInt8) → Int → Option ((List UInt8) × Int)
  | 0,_,_=>none
  | n0 + 1, v10, v11 =>
    bnd (decide (v11 < 2)) fun x18 =>
    bif x18 then (
      bno (gix ([a0.Values.c0,a0.Values.c1] : List bL) v11) fun x20 =>
      bno (gJ [118,97,108,117,101,115] ([v11,x20.Streams,x20.Window,x20.Whole,x20.Chunk] : (List Int))) fun x21 =>
      bno (cat v10 x21) fun x22 =>
      bnd (IntKind.wrap .i64 (v11 + 1)) fun x23 =>
      (fW a0 n0) x22 x23
    ) else (
      fV a0 fuel v10 0
    )
def iH (a0 : bF) : Option ((List UInt8) × Int) :=
  bno (gR a0) fun x1 =>
  bnd (!decide (x1 = 0)) fun x2 =>
  bif x2 then (
    some ([],x1)
  ) else (
    bno (gJ [112,97,116,104,115] ([a0.Paths] : (List Int))) fun x4 =>
    fW a0 fuel x4 0
  )

def fJ (x1 : ((List UInt8) × Int)) : Nat → Int → Int → Option Int
  | 0,_,_=>none
  | n0 + 1, v11, v12 =>
    bnd (decide (v12 < (x1.1.length : Int))) fun x20 =>
    bif x20 then (
      bno (gix x1.1 v12) fun x22 =>
      bnd (IntKind.wrap .u32 (x22.toNat : Int)) fun x23 =>
      bnd (xorI .u32 v11 x23) fun x24 =>
      bnd (IntKind.wrap .u32 (x24 * 16777619)) fun x25 =>
      bnd (IntKind.wrap .i64 (v12 + 1)) fun x26 =>
      (fJ x1 n0) x25 x26
    ) else (
      some v11
    )
def iI (a0 : bF) : Option Int :=
  bno (iH a0) fun x1 =>
  bnd (!decide (x1.2 = 0)) fun x2 =>
  bif x2 then (
    some 0
  ) else (
    fJ x1 fuel 2166136261 0
  )

def hT (x1 : ((List UInt8) × Int)) : Nat → Int → Int → Option Int
  | 0,_,_=>none
  | n0 + 1, v11, v12 =>
    bnd (decide (v12 < (x1.1.length : Int))) fun x20 =>
    bif x20 then (
      bno (gix x1.1 v12) fun x22 =>
      bnd (IntKind.wrap .u32 (x22.toNat : Int)) fun x23 =>
      bnd (xorI .u32 v11 x23) fun x24 =>
      bnd (IntKind.wrap .u32 (x24 * 16777619)) fun x25 =>
      bnd (IntKind.wrap .i64 (v12 + 1)) fun x26 =>
      (hT x1 n0) x25 x26
    ) else (
      some v11
    )
def pT  : Option bL :=
  some (⟨8,256,4096,32⟩ : bL)

def nS  : Option bF :=
  bno (pT) fun x1 =>
  some ((⟨2,(⟨x1,x1⟩ : kD),(⟨1,2⟩ : kZ)⟩ : bF))

def lK (a0 : bF) : Option bF :=
  some a0

def eR (a0 : (List UInt8)) (a1 : Int) : Option Int :=
  bnd (idxB a0 a1) fun x1 =>
  some x1

def fL (a0 : (List UInt8)) (a1 : (List UInt8)) : Option Int :=
  bnd (decide ((a1.length : Int) = 0)) fun x1 =>
  bnd (decide (a1 = a0)) fun x2 =>
  bnd (x1 || x2) fun x3 =>
  bif x3 then (
    some 0
  ) else (
    bnd (decide ((a1.length : Int) = 1)) fun x5 =>
    bif x5 then (
      bno (gix a1 0) fun x7 =>
      bno (eR a0 (x7.toNat : Int)) fun x8 =>
      some x8
    ) else (
      bnd (decide ((a0.length : Int) ≤ (a1.length : Int))) fun x9 =>
      bif x9 then (
        some (-1)
      ) else (
        none
      )
    )
  )

def kQ (a0 : (List UInt8)) (a1 : (List UInt8)) : Option Int :=
  bno (fL a0 a1) fun x1 =>
  some x1

def jS (a1 : (List UInt8)) : Nat → (List UInt8) → Int → Option Int
  | 0,_,_=>none
  | n0 + 1, v13, v14 =>
    bno (kQ v13 a1) fun x21 =>
    bnd (decide (x21 = (-1))) fun x22 =>
    bif x22 then (
      some v14
    ) else (
      bnd (IntKind.wrap .i64 (v14 + 1)) fun x24 =>
      bnd (IntKind.wrap .i64 (x21 + (a1.length : Int))) fun x25 =>
      bno (cut v13 x25 (v13.length : Int)) fun x26 =>
      (jS a1 n0) x26 x24
    )
def lY (a0 : (List UInt8)) (a1 : (List UInt8)) : Option Int :=
  bnd (decide ((a1.length : Int) = 0)) fun x1 =>
  bif x1 then (
    none
  ) else (
    bnd (decide ((a1.length : Int) = 1)) fun x3 =>
    bif x3 then (
      bno (gix a1 0) fun x5 =>
      bnd (cntB a0 (x5.toNat : Int)) fun x6 =>
      some x6
    ) else (
      jS a1 fuel a0 0
    )
  )

def fN (v56 : (List UInt8)) (v57 : (List (List UInt8))) (v58 : Int) : Option (List (List UInt8)) :=
  bno (gix v57 v58) fun x59 =>
  bno (v57[(v58 : Int).toNat]?) fun x60 =>
  bnd (v57.set ((v58 : Int).toNat) v56) fun x61 =>
  bnd (IntKind.wrap .i64 (v58 + 1)) fun x62 =>
  bno (cut x61 0 x62) fun x63 =>
  some x63
def dX (a1 : (List UInt8)) (a2 : Int) (x13 : Int) : Nat → (List UInt8) → (List (List UInt8)) → Int → Option (List (List UInt8))
  | 0,_,_,_=>none
  | n3 + 1, v77, v78, v79 =>
    bnd (decide (v79 < x13)) fun x93 =>
    bif x93 then (
      bno (kQ v77 a1) fun x95 =>
      bnd (decide (x95 < 0)) fun x96 =>
      bif x96 then (
        fN v77 v78 v79
      ) else (
        bnd (IntKind.wrap .i64 (x95 + a2)) fun x98 =>
        bno (cut v77 0 x98) fun x99 =>
        bno (gix v78 v79) fun x100 =>
        bno (v78[(v79 : Int).toNat]?) fun x101 =>
        bnd (v78.set ((v79 : Int).toNat) x99) fun x102 =>
        bnd (IntKind.wrap .i64 (x95 + (a1.length : Int))) fun x103 =>
        bno (cut v77 x103 (v77.length : Int)) fun x104 =>
        bnd (IntKind.wrap .i64 (v79 + 1)) fun x105 =>
        (dX a1 a2 x13 n3) x104 x102 x105
      )
    ) else (
      fN v77 v78 v79
    )
def gT (a0 : (List UInt8)) (a1 : (List UInt8)) (a2 : Int) (v9 : Int) : Option (List (List UInt8)) :=
  bnd (IntKind.wrap .i64 ((a0.length : Int) + 1)) fun x10 =>
  bnd (min v9 x10) fun x11 =>
  bno (made 16 x11 ([] : (List UInt8))) fun x12 =>
  bnd (IntKind.wrap .i64 (x11 - 1)) fun x13 =>
  dX a1 a2 x13 fuel a0 x12 0
def lI (a0 : (List UInt8)) (a1 : (List UInt8)) (a2 : Int) (a3 : Int) : Option (List (List UInt8)) :=
  bnd (decide (a3 = 0)) fun x1 =>
  bif x1 then (
    some []
  ) else (
    bnd (decide (a1 = ([] : List UInt8))) fun x3 =>
    bif x3 then (
      none
    ) else (
      bnd (decide (a3 < 0)) fun x106 =>
      bif x106 then (
        bno (lY a0 a1) fun x108 =>
        bnd (IntKind.wrap .i64 (x108 + 1)) fun x109 =>
        gT a0 a1 a2 x109
      ) else (
        gT a0 a1 a2 a3
      )
    )
  )

def jJ (a0 : (List UInt8)) (a1 : (List UInt8)) : Option (List (List UInt8)) :=
  bno (lI a0 a1 0 (-1)) fun x1 =>
  some x1

def fI (a0 : (List UInt8)) : Nat → Int → Int → Option (Int × Bool)
  | 0,_,_=>none
  | n0 + 1, v22, v23 =>
    bnd (decide (v23 < (a0.length : Int))) fun x36 =>
    bif x36 then (
      bno (gix a0 v23) fun x38 =>
      bnd (decide ((x38.toNat : Int) < 48)) fun x39 =>
      bnd (decide (57 < (x38.toNat : Int))) fun x40 =>
      bnd (x39 || x40) fun x41 =>
      bif x41 then (
        some (0,false)
      ) else (
        bnd (IntKind.wrap .i64 (10 * v22)) fun x43 =>
        bnd (IntKind.wrap .u8 ((x38.toNat : Int) - 48)) fun x44 =>
        bnd (IntKind.wrap .i64 x44) fun x45 =>
        bnd (IntKind.wrap .i64 (x43 + x45)) fun x46 =>
        bnd (IntKind.wrap .i64 (v23 + 1)) fun x47 =>
        (fI a0 n0) x46 x47
      )
    ) else (
      some (v22,true)
    )
def mQ (a0 : (List UInt8)) : Option (Int × Bool) :=
  bnd (decide (a0 = ([] : List UInt8))) fun x1 =>
  bnd (decide (10 < (a0.length : Int))) fun x2 =>
  bnd (x1 || x2) fun x3 =>
  bnd (decide (1 < (a0.length : Int))) fun x4 =>
  bno (gd ((x3 == false) && (x4 == true)) (gix a0 0) 0) fun x5 =>
  bnd (decide ((x5.toNat : Int) = 48)) fun x6 =>
  bnd (x4 && x6) fun x7 =>
  bnd (x3 || x7) fun x8 =>
  bif x8 then (
    some (0,false)
  ) else (
    fI a0 fuel 0 0
  )

def fA (a0 : (List (List UInt8))) (a1 : Int) : Nat → (List Int) → Int → Option ((List Int) × Bool)
  | 0,_,_=>none
  | n0 + 1, v8, v9 =>
    bnd (decide (v9 < (a0.length : Int))) fun x17 =>
    bif x17 then (
      bno (gix a0 v9) fun x19 =>
      bno (mQ x19) fun x20 =>
      bif (!x20.2) then (
        some ([],false)
      ) else (
        bno (app 8 v8 ([x20.1] : (List Int))) fun x22 =>
        bnd (IntKind.wrap .i64 (v9 + 1)) fun x23 =>
        (fA a0 a1 n0) x22 x23
      )
    ) else (
      bnd (decide ((v8.length : Int) = a1)) fun x24 =>
      some (v8,x24)
    )
def nL (a0 : (List (List UInt8))) (a1 : Int) : Option ((List Int) × Bool) :=
  fA a0 a1 fuel ([] : (List Int)) 0

def dB (a1 : dQ) (v9 : Int) (x11 : ((List Int) × Bool)) (v31 : Int) : Option (Int × dQ) :=
  chk (0 ≤ v31 ∧ v31 < 5) <|bno (gix ([a1.seen.c0,a1.seen.c1,a1.seen.c2,a1.seen.c3,a1.seen.c4] : List Bool) v31) fun x33 =>
  bif x33 then (
    some (13,a1)
  ) else (
    chk (0 ≤ v31 ∧ v31 < 5) <|bnd (bif decide (v31 = 0) then true else a1.seen.c0) fun x36 =>
    bnd (bif decide (v31 = 1) then true else a1.seen.c1) fun x37 =>
    bnd (bif decide (v31 = 2) then true else a1.seen.c2) fun x38 =>
    bnd (bif decide (v31 = 3) then true else a1.seen.c3) fun x39 =>
    bnd (bif decide (v31 = 4) then true else a1.seen.c4) fun x40 =>
    bnd (decide (v9 = 1)) fun x41 =>
    bif x41 then (
      bno (gix x11.1 0) fun x43 =>
      some ((0,(⟨(⟨x43,a1.Config.Values,a1.Config.First⟩ : bF),(⟨x36,x37,x38,x39,x40⟩ : vS)⟩ : dQ)))
    ) else (
      bnd (decide (v9 = 2)) fun x44 =>
      bif x44 then (
        bno (gix x11.1 0) fun x46 =>
        bno (gix x11.1 1) fun x47 =>
        bnd (IntKind.wrap .u32 x47) fun x48 =>
        chk (0 ≤ x46 ∧ x46 < 2) <|bnd (bif decide (x46 = 0) then x48 else a1.Config.First.c0) fun x50 =>
        bnd (bif decide (x46 = 1) then x48 else a1.Config.First.c1) fun x51 =>
        some ((0,(⟨(⟨a1.Config.Paths,a1.Config.Values,(⟨x50,x51⟩ : kZ)⟩ : bF),(⟨x36,x37,x38,x39,x40⟩ : vS)⟩ : dQ)))
      ) else (
        bno (gix x11.1 0) fun x52 =>
        bno (gix x11.1 1) fun x53 =>
        bno (gix x11.1 2) fun x54 =>
        bno (gix x11.1 3) fun x55 =>
        bno (gix x11.1 4) fun x56 =>
        chk (0 ≤ x52 ∧ x52 < 2) <|bnd (bif decide (x52 = 0) then (⟨x53,x54,x55,x56⟩ : bL) else a1.Config.Values.c0) fun x58 =>
        bnd (bif decide (x52 = 1) then (⟨x53,x54,x55,x56⟩ : bL) else a1.Config.Values.c1) fun x59 =>
        some ((0,(⟨(⟨a1.Config.Paths,(⟨x58,x59⟩ : kD),a1.Config.First⟩ : bF),(⟨x36,x37,x38,x39,x40⟩ : vS)⟩ : dQ)))
      )
    )
  )
def dC (a1 : dQ) (x1 : (List (List UInt8))) (v9 : Int) : Option (Int × dQ) :=
  bno (cut x1 1 (x1.length : Int)) fun x10 =>
  bno (nL x10 v9) fun x11 =>
  bnd (decide (1 < v9)) fun x12 =>
  bno (gd (((!x11.2) == false) && (x12 == true)) (gix x11.1 0) default) fun x13 =>
  bnd (decide (1 < x13)) fun x14 =>
  bnd (x12 && x14) fun x15 =>
  bnd ((!x11.2) || x15) fun x16 =>
  bnd (decide (v9 = 2)) fun x17 =>
  bno (gd ((x16 == false) && (x17 == true)) (gix x11.1 1) default) fun x18 =>
  bnd (decide (4294967295 < x18)) fun x19 =>
  bnd (x17 && x19) fun x20 =>
  bnd (x16 || x20) fun x21 =>
  bif x21 then (
    some (60,a1)
  ) else (
    bnd (decide (v9 = 2)) fun x60 =>
    bif x60 then (
      bno (gix x11.1 0) fun x62 =>
      bnd (IntKind.wrap .i64 (3 + x62)) fun x63 =>
      dB a1 v9 x11 x63
    ) else (
      bnd (decide (v9 = 5)) fun x64 =>
      bif x64 then (
        bno (gix x11.1 0) fun x66 =>
        bnd (IntKind.wrap .i64 (1 + x66)) fun x67 =>
        dB a1 v9 x11 x67
      ) else (
        dB a1 v9 x11 0
      )
    )
  )
def cO (a0 : (List UInt8)) (a1 : dQ) : Option (Int × dQ) :=
  bno (jJ a0 [32]) fun x1 =>
  bno (gix x1 0) fun x68 =>
  bnd (decide (x68 = ([112,97,116,104,115] : List UInt8))) fun x69 =>
  bif x69 then (
    dC a1 x1 1
  ) else (
    bnd (decide (x68 = ([102,105,114,115,116] : List UInt8))) fun x71 =>
    bif x71 then (
      dC a1 x1 2
    ) else (
      bnd (decide (x68 = ([118,97,108,117,101,115] : List UInt8))) fun x73 =>
      bif x73 then (
        dC a1 x1 5
      ) else (
        some (12,a1)
      )
    )
  )

def dU (a0 : (List UInt8)) (a1 : (List UInt8)) : Option Bool :=
  bnd (decide ((a1.length : Int) ≤ (a0.length : Int))) fun x1 =>
  bnd (IntKind.wrap .i64 ((a0.length : Int) - (a1.length : Int))) fun x2 =>
  bno (gd (x1 == true) (cut a0 x2 (a0.length : Int)) []) fun x3 =>
  bnd (decide (x3 = a1)) fun x4 =>
  bnd (x1 && x4) fun x5 =>
  some x5

def fO (a0 : (List UInt8)) (a1 : (List UInt8)) : Option Bool :=
  bno (dU a0 a1) fun x1 =>
  some x1

def eS (a0 : (List UInt8)) (x71 : (List (List UInt8))) : Nat → Int → Int → Int → Int → Int → Int → Int → Int → Int → Int → Int → Int → Bool → Bool → Bool → Bool → Bool → Option (bF × Int × Int)
  | 0,_,_,_,_,_,_,_,_,_,_,_,_,_,_,_,_,_=>none
  | n1 + 1, v89, v90, v91, v92, v93, v94, v95, v96, v97, v98, v99, v100, v101, v102, v103, v104, v105 =>
    bnd (decide (v89 < (x71.length : Int))) fun x123 =>
    bif x123 then (
      bno (gix x71 v89) fun x125 =>
      bnd (!decide (x125 = ([] : List UInt8))) fun x126 =>
      bno (gd (x126 == true) (gix x125 0) 0) fun x127 =>
      bnd (!decide ((x127.toNat : Int) = 35)) fun x128 =>
      bnd (x126 && x128) fun x129 =>
      bnd (IntKind.wrap .i64 (v89 + 1)) fun x130 =>
      bif (x129 == true) then (
        bno (cO x125 ((⟨(⟨v90,(⟨(⟨v91,v92,v93,v94⟩ : bL),(⟨v95,v96,v97,v98⟩ : bL)⟩ : kD),(⟨v99,v100⟩ : kZ)⟩ : bF),(⟨v101,v102,v103,v104,v105⟩ : vS)⟩ : dQ))) fun x132 =>
        bnd (!decide (x132.1 = 0)) fun x133 =>
        bif x133 then (
          bnd (x129 && true) fun x135 =>
          some (((⟨0,(⟨(⟨0,0,0,0⟩ : bL),(⟨0,0,0,0⟩ : bL)⟩ : kD),(⟨0,0⟩ : kZ)⟩ : bF),x130,x132.1))
        ) else (
          bnd (x129 && false) fun x136 =>
          bnd (IntKind.wrap .i64 (v89 + 1)) fun x137 =>
          (eS a0 x71 n1) x137 x132.2.Config.Paths x132.2.Config.Values.c0.Streams x132.2.Config.Values.c0.Window x132.2.Config.Values.c0.Whole x132.2.Config.Values.c0.Chunk x132.2.Config.Values.c1.Streams x132.2.Config.Values.c1.Window x132.2.Config.Values.c1.Whole x132.2.Config.Values.c1.Chunk x132.2.Config.First.c0 x132.2.Config.First.c1 x132.2.seen.c0 x132.2.seen.c1 x132.2.seen.c2 x132.2.seen.c3 x132.2.seen.c4
        )
      ) else (
        bnd (x129 && true) fun x138 =>
        bnd (IntKind.wrap .i64 (v89 + 1)) fun x139 =>
        (eS a0 x71 n1) x139 v90 v91 v92 v93 v94 v95 v96 v97 v98 v99 v100 v101 v102 v103 v104 v105
      )
    ) else (
      bnd (!decide (a0 = ([] : List UInt8))) fun x140 =>
      bno (gd (x140 == true) (fO a0 [10]) default) fun x141 =>
      bnd (x140 && (!x141)) fun x142 =>
      bif x142 then (
        some (((⟨0,(⟨(⟨0,0,0,0⟩ : bL),(⟨0,0,0,0⟩ : bL)⟩ : kD),(⟨0,0⟩ : kZ)⟩ : bF),0,3))
      ) else (
        bno (gR ((⟨v90,(⟨(⟨v91,v92,v93,v94⟩ : bL),(⟨v95,v96,v97,v98⟩ : bL)⟩ : kD),(⟨v99,v100⟩ : kZ)⟩ : bF))) fun x144 =>
        bnd (!decide (x144 = 0)) fun x145 =>
        bif x145 then (
          some (((⟨0,(⟨(⟨0,0,0,0⟩ : bL),(⟨0,0,0,0⟩ : bL)⟩ : kD),(⟨0,0⟩ : kZ)⟩ : bF),0,x144))
        ) else (
          some (((⟨v90,(⟨(⟨v91,v92,v93,v94⟩ : bL),(⟨v95,v96,v97,v98⟩ : bL)⟩ : kD),(⟨v99,v100⟩ : kZ)⟩ : bF),0,0))
        )
      )
    )
def eN (a0 : (List UInt8)) : Option (bF × Int × Int) :=
  bno (nS) fun x1 =>
  bno (jJ a0 [10]) fun x71 =>
  eS a0 x71 fuel 0 x1.Paths x1.Values.c0.Streams x1.Values.c0.Window x1.Values.c0.Whole x1.Values.c0.Chunk x1.Values.c1.Streams x1.Values.c1.Window x1.Values.c1.Whole x1.Values.c1.Chunk x1.First.c0 x1.First.c1 false false false false false

def iU  : Option Bool :=
  bno (eN [35,32,120,10,102,105,114,115,116,32,49,32,52,50,57,52,57,54,55,50,57,53,10,10,112,97,116,104,115,32,51,10]) fun x1 =>
  bno (eN [112,97,116,104,115,32,51,10,112,97,116,104,115,32,51,10]) fun x2 =>
  bno (eN [112,97,116,104,32,51,10]) fun x3 =>
  bno (eN [112,97,116,104,115,32,51]) fun x4 =>
  bno (eN [118,97,108,117,101,115,32,50,32,49,32,49,32,49,32,49,10]) fun x5 =>
  bno (nS) fun x6 =>
  bno (iH x6) fun x7 =>
  bno (eN [112,97,116,104,115,32,53,10]) fun x8 =>
  bnd (decide (x1.1.Paths = 3)) fun x9 =>
  bnd (decide (x1.1.First.c1 = 4294967295)) fun x10 =>
  bnd (x9 && x10) fun x11 =>
  bnd (decide (x1.1.First.c0 = 1)) fun x12 =>
  bnd (x11 && x12) fun x13 =>
  bnd (decide (x1.2.1 = 0)) fun x14 =>
  bnd (x13 && x14) fun x15 =>
  bnd (decide (x1.2.2 = 0)) fun x16 =>
  bnd (x15 && x16) fun x17 =>
  bnd (decide (x2.2.1 = 2)) fun x18 =>
  bnd (x17 && x18) fun x19 =>
  bnd (decide (x2.2.2 = 13)) fun x20 =>
  bnd (x19 && x20) fun x21 =>
  bnd (decide (x3.2.1 = 1)) fun x22 =>
  bnd (x21 && x22) fun x23 =>
  bnd (decide (x3.2.2 = 12)) fun x24 =>
  bnd (x23 && x24) fun x25 =>
  bnd (decide (x4.2.1 = 0)) fun x26 =>
  bnd (x25 && x26) fun x27 =>
  bnd (decide (x4.2.2 = 3)) fun x28 =>
  bnd (x27 && x28) fun x29 =>
  bnd (decide (x5.2.1 = 1)) fun x30 =>
  bnd (x29 && x30) fun x31 =>
  bnd (decide (x5.2.2 = 60)) fun x32 =>
  bnd (x31 && x32) fun x33 =>
  bnd (decide (x7.1 = ([112,97,116,104,115,32,50,10,118,97,108,117,101,115,32,48,32,56,32,50,53,54,32,52,48,57,54,32,51,50,10,118,97,108,117,101,115,32,49,32,56,32,50,53,54,32,52,48,57,54,32,51,50,10,102,105,114,115,116,32,48,32,49,10,102,105,114,115,116,32,49,32,50,10] : List UInt8))) fun x34 =>
  bnd (x33 && x34) fun x35 =>
  bnd (decide (x7.2 = 0)) fun x36 =>
  bnd (x35 && x36) fun x37 =>
  bnd (decide (x8.2.1 = 0)) fun x38 =>
  bnd (x37 && x38) fun x39 =>
  bnd (decide (x8.2.2 = 8)) fun x40 =>
  bnd (x39 && x40) fun x41 =>
  bno (gd (x41 == true) (iI x1.1) default) fun x42 =>
  bnd (!decide (x42 = 0)) fun x43 =>
  bnd (x41 && x43) fun x44 =>
  bno (gd (x44 == true) (iI ((⟨0,(⟨(⟨0,0,0,0⟩ : bL),(⟨0,0,0,0⟩ : bL)⟩ : kD),(⟨0,0⟩ : kZ)⟩ : bF))) default) fun x45 =>
  bnd (decide (x45 = 0)) fun x46 =>
  bnd (x44 && x46) fun x47 =>
  bno (gd (x47 == true) (gR x1.1) default) fun x48 =>
  bnd (decide (x48 = 0)) fun x49 =>
  bnd (x47 && x49) fun x50 =>
  bnd (bif x50 then true else false) fun x51 =>
  bnd (bif x51 then true else false) fun x52 =>
  bnd (bif x52 then true else false) fun x53 =>
  bnd (bif x53 then true else false) fun x54 =>
  some x54

end Go.Fn
open Go Go.IL
namespace Go.Fn
structure aT where
  ID : Int
  Value : Int
  deriving DecidableEq,Inhabited
def bA : Enc aT:=⟨⟨fun x=>.agg [.int .i64 x.ID,.int .i64 x.Value],2,by decide,fun _=>⟨rfl,rfl⟩⟩,fun _=>rfl⟩
structure aD where
  Kind : Int
  Flag : Bool
  Stream : Int
  Offset : Int
  Dep : Int
  Weight : Int
  N : Int
  Code : Int
  Pairs : (List aT)
  Data : (List UInt8)
  deriving DecidableEq,Inhabited
def bO : Enc aD:=⟨⟨fun x=>.agg [.int .u8 x.Kind,.bool x.Flag,.int .i64 x.Stream,.int .i64 x.Offset,.int .i64 x.Dep,.int .i64 x.Weight,.int .i64 x.N,.int .i64 x.Code,.slice false (x.Pairs.map bA.d),.str x.Data],10,by decide,fun _=>⟨rfl,rfl⟩⟩,fun _=>rfl⟩

variable [Fu]
def pD (a0 : Int) : Option Bool :=
  bnd (decide (a0 ≤ 10)) fun x1 =>
  bnd (!decide (a0 = 5)) fun x2 =>
  bnd (x1 && x2) fun x3 =>
  some x3

def mN (a0 : Int) (a1 : Int) (a2 : Int) : Option Bool :=
  bnd (decide (a1 ≤ a0)) fun x1 =>
  bnd (decide (a0 ≤ a2)) fun x2 =>
  bnd (x1 && x2) fun x3 =>
  some x3

def gK (a0 : aT) : Option Bool :=
  bno (mN a0.ID 0 1099511627776) fun x1 =>
  bno (gd ((!x1) == false) (mN a0.Value 0 1099511627776) default) fun x2 =>
  bnd ((!x1) || (!x2)) fun x3 =>
  some x3

def bY (a0 : (List aT)) : Nat → Int → Option Int
  | 0,_=>none
  | n0 + 1, v7 =>
    bnd (decide (v7 < (a0.length : Int))) fun x14 =>
    bif x14 then (
      bno (gix a0 v7) fun x16 =>
      bno (gK x16) fun x17 =>
      bif x17 then (
        some v7
      ) else (
        bnd (IntKind.wrap .i64 (v7 + 1)) fun x19 =>
        (bY a0 n0) x19
      )
    ) else (
      some (-1)
    )
def dH (a0 : (List aT)) : Option Int :=
  bY a0 fuel 0

def cT (a0 : (List aT)) : Option Bool :=
  bno (dH a0) fun x1 =>
  bnd (decide (0 ≤ x1)) fun x2 =>
  some x2

def dV (a0 : aD) (v15 : Int) (v16 : Int) (v17 : Int) : Option Bool :=
  bno (cT a0.Pairs) fun x18 =>
  bno (gd (x18 == false) (mN a0.N v15 v16) default) fun x19 =>
  bnd (x18 || (!x19)) fun x20 =>
  bno (gd (x20 == false) (mN a0.Code 0 v17) default) fun x21 =>
  bnd (x20 || (!x21)) fun x22 =>
  bif x22 then (
    some false
  ) else (
    bno (mN a0.Stream 0 1048576) fun x24 =>
    bno (gd (x24 == true) (mN a0.Dep 0 1048576) default) fun x25 =>
    bnd (x24 && x25) fun x26 =>
    bno (gd (x26 == true) (mN a0.Offset 0 1099511627776) default) fun x27 =>
    bnd (x26 && x27) fun x28 =>
    some x28
  )
def fU (a0 : aD) (v36 : Bool) : Option Bool :=
  bif v36 then (
    bno (mN a0.Weight 1 256) fun x38 =>
    bif (!x38) then (
      some false
    ) else (
      dV a0 0 1099511627776 255
    )
  ) else (
    dV a0 0 1099511627776 255
  )
def iF (a0 : aD) : Option Bool :=
  bnd (decide (a0.Kind = 8)) fun x29 =>
  bif x29 then (
    dV a0 1 1099511627776 255
  ) else (
    bnd (decide (a0.Kind = 10)) fun x31 =>
    bif x31 then (
      dV a0 0 3 1
    ) else (
      bnd (decide (a0.Kind = 1)) fun x40 =>
      bif x40 then (
        fU a0 x40
      ) else (
        bnd (decide (a0.Kind = 2)) fun x42 =>
        fU a0 x42
      )
    )
  )

def eZ (v26 : (List Nat)) : Option (List Nat) :=
  bno (app 8 v26 ([6] : (List Nat))) fun x27 =>
  some x27
def eL (a0 : aD) : Option (List Nat) :=
  bnd (decide (a0.Kind = 0)) fun x28 =>
  bif x28 then (
    bno (app 8 ([] : (List Nat)) ([2,3] : (List Nat))) fun x30 =>
    some x30
  ) else (
    bnd (decide (a0.Kind = 9)) fun x31 =>
    bif x31 then (
      bno (app 8 ([] : (List Nat)) ([2,3] : (List Nat))) fun x33 =>
      some x33
    ) else (
      bnd (decide (a0.Kind = 1)) fun x34 =>
      bif x34 then (
        bno (app 8 ([] : (List Nat)) ([2,4,5] : (List Nat))) fun x36 =>
        some x36
      ) else (
        bnd (decide (a0.Kind = 2)) fun x37 =>
        bif x37 then (
          bno (app 8 ([] : (List Nat)) ([2,4,5] : (List Nat))) fun x39 =>
          some x39
        ) else (
          bnd (decide (a0.Kind = 3)) fun x40 =>
          bif x40 then (
            bno (app 8 ([] : (List Nat)) ([2,6,7] : (List Nat))) fun x42 =>
            some x42
          ) else (
            bnd (decide (a0.Kind = 7)) fun x43 =>
            bif x43 then (
              bno (app 8 ([] : (List Nat)) ([2,7] : (List Nat))) fun x45 =>
              some x45
            ) else (
              bnd (decide (a0.Kind = 8)) fun x46 =>
              bif x46 then (
                bno (app 8 ([] : (List Nat)) ([2] : (List Nat))) fun x48 =>
                eZ x48
              ) else (
                bnd (decide (a0.Kind = 6)) fun x49 =>
                bif x49 then (
                  eZ ([] : (List Nat))
                ) else (
                  bnd (decide (a0.Kind = 10)) fun x51 =>
                  bif x51 then (
                    bno (app 8 ([] : (List Nat)) ([6,7] : (List Nat))) fun x53 =>
                    some x53
                  ) else (
                    some ([] : (List Nat))
                  )
                )
              )
            )
          )
        )
      )
    )
  )

def mO (a0 : Int) : Option Bool :=
  bnd (decide (a0 = 0)) fun x1 =>
  bif x1 then (
    some true
  ) else (
    bnd (decide (a0 = 1)) fun x3 =>
    bif x3 then (
      some true
    ) else (
      bnd (decide (a0 = 2)) fun x5 =>
      bif x5 then (
        some true
      ) else (
        bnd (decide (a0 = 4)) fun x7 =>
        bif x7 then (
          some true
        ) else (
          bnd (decide (a0 = 6)) fun x9 =>
          bif x9 then (
            some true
          ) else (
            bnd (decide (a0 = 9)) fun x11 =>
            bif x11 then (
              some true
            ) else (
              some false
            )
          )
        )
      )
    )
  )

def eM (a0 : aD) (v9 : Int) (v10 : Int) (v11 : Int) (v12 : Int) (v13 : Int) (v14 : Int) (v32 : (List aT)) (v33 : (List UInt8)) : Option aD :=
  bno (mO a0.Kind) fun x34 =>
  bif x34 then (
    some (⟨a0.Kind,false,v9,v10,v11,v12,v13,v14,v32,v33⟩ : aD)
  ) else (
    some (⟨a0.Kind,a0.Flag,v9,v10,v11,v12,v13,v14,v32,v33⟩ : aD)
  )
def dY (a0 : aD) (x1 : (List Nat)) : Nat → Int → Int → Int → Int → Int → Int → Int → Option aD
  | 0,_,_,_,_,_,_,_=>none
  | n0 + 1, v8, v9, v10, v11, v12, v13, v14 =>
    bnd (decide (v8 < (x1.length : Int))) fun x21 =>
    bif x21 then (
      bno (gix x1 v8) fun x23 =>
      bno (x1[(v8 : Int).toNat]?) fun x24 =>
      bno (aBI [none,none,some v9,some v10,some v11,some v12,some v13,some v14,none,none] x24) fun x25 =>
      bnd (IntKind.wrap .i64 (v8 + 1)) fun x26 =>
      (dY a0 x1 n0) x26 (bif Nat.beq x24 2 then 0 else v9) (bif Nat.beq x24 3 then 0 else v10) (bif Nat.beq x24 4 then 0 else v11) (bif Nat.beq x24 5 then 0 else v12) (bif Nat.beq x24 6 then 0 else v13) (bif Nat.beq x24 7 then 0 else v14)
    ) else (
      bnd (decide (a0.Kind = 0)) fun x36 =>
      bif x36 then (
        eM a0 v9 v10 v11 v12 v13 v14 a0.Pairs ([] : (List UInt8))
      ) else (
        bnd (decide (a0.Kind = 4)) fun x38 =>
        bif x38 then (
          bif (!a0.Flag) then (
            eM a0 v9 v10 v11 v12 v13 v14 ([] : (List aT)) a0.Data
          ) else (
            eM a0 v9 v10 v11 v12 v13 v14 a0.Pairs a0.Data
          )
        ) else (
          eM a0 v9 v10 v11 v12 v13 v14 a0.Pairs a0.Data
        )
      )
    )
def jV (a0 : aD) : Option aD :=
  bno (eL a0) fun x1 =>
  dY a0 x1 fuel 0 a0.Stream a0.Offset a0.Dep a0.Weight a0.N a0.Code

def cV (a0 : (List aT)) (a1 : (List aT)) : Nat → Int → Option Bool
  | 0,_=>none
  | n0 + 1, v10 =>
    bnd (decide (v10 < (a0.length : Int))) fun x18 =>
    bif x18 then (
      bno (gix a0 v10) fun x20 =>
      bno (gix a1 v10) fun x21 =>
      bnd ((decide (x20.ID = x21.ID) && (decide (x20.Value = x21.Value) && true))) fun x22 =>
      bif (!x22) then (
        some false
      ) else (
        bnd (IntKind.wrap .i64 (v10 + 1)) fun x24 =>
        (cV a0 a1 n0) x24
      )
    ) else (
      some true
    )
def dT (a0 : (List aT)) (a1 : (List aT)) : Option Bool :=
  bnd (!decide ((a0.length : Int) = (a1.length : Int))) fun x1 =>
  bif x1 then (
    some false
  ) else (
    cV a0 a1 fuel 0
  )

def qG (a0 : aD) (a1 : aD) : Option Bool :=
  bnd (!decide (a0.Kind = a1.Kind)) fun x1 =>
  bnd (!(a0.Flag == a1.Flag)) fun x2 =>
  bnd (x1 || x2) fun x3 =>
  bno (gd (x3 == false) (dT a0.Pairs a1.Pairs) default) fun x4 =>
  bnd (x3 || (!x4)) fun x5 =>
  bif x5 then (
    some false
  ) else (
    bnd (decide (a0.Stream = a1.Stream)) fun x7 =>
    bnd (decide (a0.Offset = a1.Offset)) fun x8 =>
    bnd (x7 && x8) fun x9 =>
    bnd (decide (a0.Dep = a1.Dep)) fun x10 =>
    bnd (x9 && x10) fun x11 =>
    bnd (decide (a0.Weight = a1.Weight)) fun x12 =>
    bnd (x11 && x12) fun x13 =>
    bnd (decide (a0.N = a1.N)) fun x14 =>
    bnd (x13 && x14) fun x15 =>
    bnd (decide (a0.Code = a1.Code)) fun x16 =>
    bnd (x15 && x16) fun x17 =>
    bnd (decide (a0.Data = a1.Data)) fun x18 =>
    bnd (x17 && x18) fun x19 =>
    some x19
  )

def jX (a0 : aD) (v8 : Bool) : Option Int :=
  bif v8 then (
    some 5
  ) else (
    bno (jV a0) fun x10 =>
    bno (qG x10 (⟨a0.Kind,false,0,0,0,0,0,0,[],[]⟩ : aD)) fun x11 =>
    bif (!x11) then (
      some 4
    ) else (
      some 0
    )
  )
def nG (a0 : aD) : Option Int :=
  bno (pD a0.Kind) fun x1 =>
  bif (!x1) then (
    some 12
  ) else (
    bno (iF a0) fun x3 =>
    bif (!x3) then (
      some 8
    ) else (
      bnd (decide (32 < (a0.Data.length : Int))) fun x13 =>
      bif x13 then (
        jX a0 x13
      ) else (
        bnd (decide (4 < (a0.Pairs.length : Int))) fun x15 =>
        jX a0 x15
      )
    )
  )

def fZ (v16 : Int) (v17 : Int) : Option Int :=
  bnd (IntKind.wrap .u8 v16) fun x18 =>
  bno (gix ([0,1,2,2,3,3,3,3,4,4,4,4,4,4,4,4,5,5,5,5,5,5,5,5,5,5,5,5,5,5,5,5,6,6,6,6,6,6,6,6,6,6,6,6,6,6,6,6,6,6,6,6,6,6,6,6,6,6,6,6,6,6,6,6,7,7,7,7,7,7,7,7,7,7,7,7,7,7,7,7,7,7,7,7,7,7,7,7,7,7,7,7,7,7,7,7,7,7,7,7,7,7,7,7,7,7,7,7,7,7,7,7,7,7,7,7,7,7,7,7,7,7,7,7,7,7,7,7,8,8,8,8,8,8,8,8,8,8,8,8,8,8,8,8,8,8,8,8,8,8,8,8,8,8,8,8,8,8,8,8,8,8,8,8,8,8,8,8,8,8,8,8,8,8,8,8,8,8,8,8,8,8,8,8,8,8,8,8,8,8,8,8,8,8,8,8,8,8,8,8,8,8,8,8,8,8,8,8,8,8,8,8,8,8,8,8,8,8,8,8,8,8,8,8,8,8,8,8,8,8,8,8,8,8,8,8,8,8,8,8,8,8,8,8,8,8,8,8,8,8,8,8,8,8,8,8] : List UInt8) x18) fun x19 =>
  bnd (IntKind.wrap .i64 (x19.toNat : Int)) fun x20 =>
  bnd (IntKind.wrap .i64 (v17 + x20)) fun x21 =>
  some x21
def gA (v10 : Int) (v11 : Int) : Option Int :=
  bnd (decide (256 ≤ v10)) fun x22 =>
  bif x22 then (
    bno (shrI .u64 v10 8) fun x24 =>
    bnd (IntKind.wrap .i64 (v11 + 8)) fun x25 =>
    fZ x24 x25
  ) else (
    fZ v10 v11
  )
def gB (v4 : Int) (v5 : Int) : Option Int :=
  bnd (decide (65536 ≤ v4)) fun x26 =>
  bif x26 then (
    bno (shrI .u64 v4 16) fun x28 =>
    bnd (IntKind.wrap .i64 (v5 + 16)) fun x29 =>
    gA x28 x29
  ) else (
    gA v4 v5
  )
def kK (a0 : Int) : Option Int :=
  bnd (decide (4294967296 ≤ a0)) fun x30 =>
  bif x30 then (
    bno (shrI .u64 a0 32) fun x32 =>
    gB x32 32
  ) else (
    gB a0 0
  )

def mI (a0 : Int) : Option Int :=
  bno (kK a0) fun x1 =>
  some x1

def iN (a0 : Int) : Nat → Int → Option Int
  | 0,_=>none
  | n0 + 1, v14 =>
    bnd (decide (v14 < 4)) fun x24 =>
    bif x24 then (
      bnd (IntKind.wrap .u64 a0) fun x26 =>
      bno (mI x26) fun x27 =>
      bno (shlI .i64 8 v14) fun x28 =>
      bnd (IntKind.wrap .i64 (x28 - 2)) fun x29 =>
      bnd (decide (x27 ≤ x29)) fun x30 =>
      bif x30 then (
        some v14
      ) else (
        bnd (IntKind.wrap .i64 (v14 + 1)) fun x32 =>
        (iN a0 n0) x32
      )
    ) else (
      some (-1)
    )
def mX (a0 : Int) : Option Int :=
  bnd (decide (a0 < 0)) fun x1 =>
  bnd (decide (4611686018427387903 < a0)) fun x2 =>
  bnd (x1 || x2) fun x3 =>
  bif x3 then (
    some (-1)
  ) else (
    iN a0 fuel 0
  )

def jG (x1 : Int) : Nat → Int → (List UInt8) → Int → Option ((List UInt8) × Int)
  | 0,_,_,_=>none
  | n0 + 1, v16, v17, v18 =>
    bnd (decide (0 ≤ v18)) fun x28 =>
    bif x28 then (
      bnd (IntKind.wrap .u8 v16) fun x30 =>
      bno (gix v17 v18) fun x31 =>
      bno (v17[(v18 : Int).toNat]?) fun x32 =>
      bno (toU8 x30) fun x33 =>
      bnd (v17.set ((v18 : Int).toNat) x33) fun x34 =>
      bno (shrI .i64 v16 8) fun x35 =>
      bnd (IntKind.wrap .i64 (v18 - 1)) fun x36 =>
      (jG x1 n0) x35 x34 x36
    ) else (
      bno (gix v17 0) fun x37 =>
      bno (v17[(0 : Int).toNat]?) fun x38 =>
      bno (shlI .i64 x1 6) fun x39 =>
      bnd (IntKind.wrap .u8 x39) fun x40 =>
      bnd (orI .u8 (x38.toNat : Int) x40) fun x41 =>
      bno (gix v17 0) fun x42 =>
      bno (v17[(0 : Int).toNat]?) fun x43 =>
      bno (toU8 x41) fun x44 =>
      bnd (v17.set ((0 : Int).toNat) x44) fun x45 =>
      some (x45,0)
    )
def oO (a0 : Int) : Option ((List UInt8) × Int) :=
  bno (mX a0) fun x1 =>
  bnd (decide (x1 < 0)) fun x2 =>
  bif x2 then (
    some ([],8)
  ) else (
    bno (shlI .i64 1 x1) fun x4 =>
    bno (made 1 x4 (0 : UInt8)) fun x5 =>
    bnd (IntKind.wrap .i64 ((x5.length : Int) - 1)) fun x6 =>
    jG x1 fuel a0 x5 x6
  )

def iO (a0 : (List Int)) : Nat → (List UInt8) → Int → Option ((List UInt8) × Int)
  | 0,_,_=>none
  | n0 + 1, v9, v10 =>
    bnd (decide (v10 < (a0.length : Int))) fun x19 =>
    bif x19 then (
      bno (gix a0 v10) fun x21 =>
      bno (oO x21) fun x22 =>
      bnd (!decide (x22.2 = 0)) fun x23 =>
      bif x23 then (
        some ([],x22.2)
      ) else (
        bno (app 1 v9 x22.1) fun x25 =>
        bnd (IntKind.wrap .i64 (v10 + 1)) fun x26 =>
        (iO a0 n0) x25 x26
      )
    ) else (
      some (v9,0)
    )
def qL (a0 : (List Int)) : Option ((List UInt8) × Int) :=
  iO a0 fuel ([] : (List UInt8)) 0

def mY (a0 : (List Int)) : Option ((List UInt8) × Int) :=
  bno (qL a0) fun x1 =>
  some (x1.1,x1.2)

def eD (a0 : aD) : Nat → (List Int) → Int → Option (List UInt8)
  | 0,_,_=>none
  | n1 + 1, v30, v31 =>
    bnd (decide (v31 < (a0.Pairs.length : Int))) fun x37 =>
    bif x37 then (
      bno (gix a0.Pairs v31) fun x39 =>
      bno (app 8 v30 ([x39.ID,x39.Value] : (List Int))) fun x40 =>
      bnd (IntKind.wrap .i64 (v31 + 1)) fun x41 =>
      (eD a0 n1) x40 x41
    ) else (
      bno (mY v30) fun x42 =>
      bno (cat x42.1 a0.Data) fun x43 =>
      some x43
    )
def eE (a0 : aD) (x1 : (List Nat)) : Nat → (List Int) → Int → Option (List UInt8)
  | 0,_,_=>none
  | n0 + 1, v9, v10 =>
    bnd (decide (v10 < (x1.length : Int))) fun x18 =>
    bif x18 then (
      bno (gix x1 v10) fun x20 =>
      bno (x1[(v10 : Int).toNat]?) fun x21 =>
      bno (aBI [none,none,some a0.Stream,some a0.Offset,some a0.Dep,some a0.Weight,some a0.N,some a0.Code,none,none] x21) fun x22 =>
      bno (app 8 v9 ([x22] : (List Int))) fun x23 =>
      bnd (IntKind.wrap .i64 (v10 + 1)) fun x24 =>
      (eE a0 x1 n0) x23 x24
    ) else (
      eD a0 fuel v9 0
    )
def gX (a0 : aD) : Option (List UInt8) :=
  bno (eL a0) fun x1 =>
  eE a0 x1 fuel ([] : (List Int)) 0

def eX (a0 : (List UInt8)) : Option (List UInt8) :=
  aBS a0 (
    some ([] : (List UInt8))
  ) (
    bno (app 1 ([] : (List UInt8)) a0) fun x3 =>
    some x3
  )

def pE (a0 : Int) (a1 : Int) : Option Bool :=
  bnd (decide (0 ≤ a0)) fun x1 =>
  bnd (decide (1 ≤ a1)) fun x2 =>
  bnd (x1 && x2) fun x3 =>
  bnd (decide (a1 ≤ 7)) fun x4 =>
  bnd (x3 && x4) fun x5 =>
  bnd (IntKind.wrap .i64 (8 * a1)) fun x6 =>
  bno (gd (x5 == true) (shrI .i64 a0 x6) 0) fun x7 =>
  bnd (decide (x7 = 0)) fun x8 =>
  bnd (x5 && x8) fun x9 =>
  some x9

def kW (a1 : Int) (a2 : Int) : Nat → (List UInt8) → Int → Option (List UInt8)
  | 0,_,_=>none
  | n0 + 1, v14, v15 =>
    bnd (decide (v15 < a2)) fun x26 =>
    bif x26 then (
      bnd (IntKind.wrap .i64 (a2 - 1)) fun x28 =>
      bnd (IntKind.wrap .i64 (x28 - v15)) fun x29 =>
      bnd (IntKind.wrap .i64 (8 * x29)) fun x30 =>
      bno (shrI .i64 a1 x30) fun x31 =>
      bnd (IntKind.wrap .u8 x31) fun x32 =>
      bno (toU8 x32) fun x33 =>
      bno (app 1 v14 ([x33] : (List UInt8))) fun x34 =>
      bnd (IntKind.wrap .i64 (v15 + 1)) fun x35 =>
      (kW a1 a2 n0) x34 x35
    ) else (
      some v14
    )
def oR (a0 : (List UInt8)) (a1 : Int) (a2 : Int) : Option (List UInt8) :=
  bno (eX a0) fun x1 =>
  bno (pE a1 a2) fun x2 =>
  bif (!x2) then (
    some x1
  ) else (
    kW a1 a2 fuel x1 0
  )

def lU (a0 : aD) (v5 : Int) : Option ((List UInt8) × Int) :=
  bno (gX a0) fun x6 =>
  bno (oO (x6.length : Int)) fun x7 =>
  bnd (!decide (x7.2 = 0)) fun x8 =>
  bif x8 then (
    some ([],x7.2)
  ) else (
    bnd (IntKind.wrap .i64 a0.Kind) fun x10 =>
    bno (oR ([] : (List UInt8)) x10 1) fun x11 =>
    bno (oR x11 v5 1) fun x12 =>
    bno (cat x12 x7.1) fun x13 =>
    bno (cat x13 x6) fun x14 =>
    some (x14,0)
  )
def sF (a0 : aD) : Option ((List UInt8) × Int) :=
  bno (nG a0) fun x1 =>
  bnd (!decide (x1 = 0)) fun x2 =>
  bif x2 then (
    some ([],x1)
  ) else (
    bif a0.Flag then (
      lU a0 1
    ) else (
      lU a0 0
    )
  )

def jH (x5 : Int) (x6 : Int) (x12 : (List UInt8)) : Nat → Int → Int → Option (Int × Int × Int)
  | 0,_,_=>none
  | n0 + 1, v20, v21 =>
    bnd (decide (v21 < (x12.length : Int))) fun x29 =>
    bif x29 then (
      bno (gix x12 v21) fun x31 =>
      bno (shlI .i64 v20 8) fun x32 =>
      bnd (IntKind.wrap .i64 (x31.toNat : Int)) fun x33 =>
      bnd (orI .i64 x32 x33) fun x34 =>
      bnd (IntKind.wrap .i64 (v21 + 1)) fun x35 =>
      (jH x5 x6 x12 n0) x34 x35
    ) else (
      bno (mX v20) fun x36 =>
      bnd (!decide (x36 = x5)) fun x37 =>
      bif x37 then (
        some (0,0,4)
      ) else (
        some (v20,x6,0)
      )
    )
def mZ (a0 : (List UInt8)) : Option (Int × Int × Int) :=
  bnd (decide (a0 = ([] : List UInt8))) fun x1 =>
  bif x1 then (
    some (0,0,3)
  ) else (
    bno (gix a0 0) fun x3 =>
    bno (shrI .u8 (x3.toNat : Int) 6) fun x4 =>
    bnd (IntKind.wrap .i64 x4) fun x5 =>
    bno (shlI .i64 1 x5) fun x6 =>
    bnd (decide ((a0.length : Int) < x6)) fun x7 =>
    bif x7 then (
      some (0,0,3)
    ) else (
      bno (gix a0 0) fun x9 =>
      bnd (andI .u8 (x9.toNat : Int) 63) fun x10 =>
      bnd (IntKind.wrap .i64 x10) fun x11 =>
      bno (cut a0 1 x6) fun x12 =>
      jH x5 x6 x12 fuel x11 0
    )
  )

def sX (a0 : (List UInt8)) : Option (aD × Int × Int × Int) :=
  bnd (decide (a0 = ([] : List UInt8))) fun x1 =>
  bif x1 then (
    some ((⟨0,false,0,0,0,0,0,0,[],[]⟩ : aD),0,0,3)
  ) else (
    bno (gix a0 0) fun x3 =>
    bno (pD (x3.toNat : Int)) fun x4 =>
    bif (!x4) then (
      some ((⟨0,false,0,0,0,0,0,0,[],[]⟩ : aD),0,0,12)
    ) else (
      bnd (decide ((a0.length : Int) < 2)) fun x6 =>
      bif x6 then (
        some ((⟨0,false,0,0,0,0,0,0,[],[]⟩ : aD),0,0,3)
      ) else (
        bno (gix a0 1) fun x8 =>
        bnd (decide (1 < (x8.toNat : Int))) fun x9 =>
        bif x9 then (
          some ((⟨0,false,0,0,0,0,0,0,[],[]⟩ : aD),0,0,4)
        ) else (
          bno (cut a0 2 (a0.length : Int)) fun x11 =>
          bno (mZ x11) fun x12 =>
          bnd (!decide (x12.2.2 = 0)) fun x13 =>
          bif x13 then (
            some ((⟨0,false,0,0,0,0,0,0,[],[]⟩ : aD),0,0,x12.2.2)
          ) else (
            bnd (decide (64 < x12.1)) fun x15 =>
            bif x15 then (
              some ((⟨0,false,0,0,0,0,0,0,[],[]⟩ : aD),0,0,5)
            ) else (
              bnd (IntKind.wrap .i64 ((a0.length : Int) - 2)) fun x17 =>
              bnd (IntKind.wrap .i64 (x17 - x12.2.1)) fun x18 =>
              bnd (decide (x18 < x12.1)) fun x19 =>
              bif x19 then (
                some ((⟨0,false,0,0,0,0,0,0,[],[]⟩ : aD),0,0,3)
              ) else (
                bno (gix a0 0) fun x21 =>
                bno (gix a0 1) fun x22 =>
                bnd (decide ((x22.toNat : Int) = 1)) fun x23 =>
                bnd (IntKind.wrap .i64 (2 + x12.2.1)) fun x24 =>
                bnd (IntKind.wrap .i64 (2 + x12.2.1)) fun x25 =>
                bnd (IntKind.wrap .i64 (x25 + x12.1)) fun x26 =>
                some ((⟨(x21.toNat : Int),x23,0,0,0,0,0,0,[],[]⟩ : aD),x24,x26,0)
              )
            )
          )
        )
      )
    )
  )

def jI  : Nat → (List UInt8) → (List Int) → Option ((List Int) × Int)
  | 0,_,_=>none
  | n0 + 1, v8, v9 =>
    bnd (!decide (v8 = ([] : List UInt8))) fun x17 =>
    bif x17 then (
      bno (mZ v8) fun x19 =>
      bnd (!decide (x19.2.2 = 0)) fun x20 =>
      bif x20 then (
        some ([],x19.2.2)
      ) else (
        bno (app 8 v9 ([x19.1] : (List Int))) fun x22 =>
        bno (cut v8 x19.2.1 (v8.length : Int)) fun x23 =>
        (jI n0) x23 x22
      )
    ) else (
      some (v9,0)
    )
def pR (a0 : (List UInt8)) : Option ((List Int) × Int) :=
  jI fuel a0 ([] : (List Int))

def fR  : Nat → (List Int) → (List aT) → Option ((List aT) × Bool)
  | 0,_,_=>none
  | n0 + 1, v13, v14 =>
    bnd (decide (0 < (v13.length : Int))) fun x21 =>
    bif x21 then (
      bno (gix v13 0) fun x23 =>
      bno (gix v13 1) fun x24 =>
      bno (app 16 v14 (([(⟨x23,x24⟩ : aT)] : (List aT)))) fun x25 =>
      bno (cut v13 2 (v13.length : Int)) fun x26 =>
      (fR n0) x26 x25
    ) else (
      some (v14,true)
    )
def jW (a0 : (List UInt8)) : Option ((List aT) × Bool) :=
  bno (pR a0) fun x1 =>
  bnd (!decide (x1.2 = 0)) fun x2 =>
  bno (gd (x2 == false) (remI (x1.1.length : Int) 2) 0) fun x3 =>
  bnd (decide (x3 = 1)) fun x4 =>
  bnd (x2 || x4) fun x5 =>
  bif x5 then (
    some ([],false)
  ) else (
    fR fuel x1.1 ([] : (List aT))
  )

def eK (a1 : aD) (x1 : (List Nat)) : Nat → (List UInt8) → Int → Int → Int → Int → Int → Int → Int → Option (Bool × aD)
  | 0,_,_,_,_,_,_,_,_=>none
  | n0 + 1, v12, v13, v14, v15, v16, v17, v18, v19 =>
    bnd (decide (v13 < (x1.length : Int))) fun x30 =>
    bif x30 then (
      bno (gix x1 v13) fun x32 =>
      bno (x1[(v13 : Int).toNat]?) fun x33 =>
      bno (mZ v12) fun x34 =>
      bnd (!decide (x34.2.2 = 0)) fun x35 =>
      bif x35 then (
        some (false,(⟨a1.Kind,a1.Flag,v14,v15,v16,v17,v18,v19,a1.Pairs,a1.Data⟩ : aD))
      ) else (
        bno (aBI [none,none,some v14,some v15,some v16,some v17,some v18,some v19,none,none] x33) fun x37 =>
        bno (cut v12 x34.2.1 (v12.length : Int)) fun x38 =>
        bnd (IntKind.wrap .i64 (v13 + 1)) fun x39 =>
        (eK a1 x1 n0) x38 x39 (bif Nat.beq x33 2 then x34.1 else v14) (bif Nat.beq x33 3 then x34.1 else v15) (bif Nat.beq x33 4 then x34.1 else v16) (bif Nat.beq x33 5 then x34.1 else v17) (bif Nat.beq x33 6 then x34.1 else v18) (bif Nat.beq x33 7 then x34.1 else v19)
      )
    ) else (
      bnd (decide (a1.Kind = 0)) fun x40 =>
      bif x40 then (
        some (true,(⟨a1.Kind,a1.Flag,v14,v15,v16,v17,v18,v19,a1.Pairs,v12⟩ : aD))
      ) else (
        bnd (decide (a1.Kind = 4)) fun x42 =>
        bif x42 then (
          bno (jW v12) fun x44 =>
          some (x44.2,(⟨a1.Kind,a1.Flag,v14,v15,v16,v17,v18,v19,x44.1,a1.Data⟩ : aD))
        ) else (
          bnd (decide (v12 = ([] : List UInt8))) fun x45 =>
          some (x45,(⟨a1.Kind,a1.Flag,v14,v15,v16,v17,v18,v19,a1.Pairs,a1.Data⟩ : aD))
        )
      )
    )
def iE (a0 : (List UInt8)) (a1 : aD) : Option (Bool × aD) :=
  bno (eL a1) fun x1 =>
  eK a1 x1 fuel a0 0 a1.Stream a1.Offset a1.Dep a1.Weight a1.N a1.Code

def sG (a0 : (List UInt8)) : Option (aD × Int × Int) :=
  bno (sX a0) fun x1 =>
  bnd (!decide (x1.2.2.2 = 0)) fun x2 =>
  bif x2 then (
    some ((⟨0,false,0,0,0,0,0,0,[],[]⟩ : aD),0,x1.2.2.2)
  ) else (
    bno (cut a0 x1.2.1 x1.2.2.1) fun x4 =>
    bno (iE x4 x1.1) fun x5 =>
    bif (!x5.1) then (
      some ((⟨0,false,0,0,0,0,0,0,[],[]⟩ : aD),0,4)
    ) else (
      bno (nG x5.2) fun x7 =>
      bnd (!decide (x7 = 0)) fun x8 =>
      bif x8 then (
        some ((⟨0,false,0,0,0,0,0,0,[],[]⟩ : aD),0,x7)
      ) else (
        some (x5.2,x1.2.2.1,0)
      )
    )
  )

end Go.Fn
open Go Go.IL
namespace Go.Fn
structure fG where
  Buf : (List UInt8)
  Bad : Int
  Seen : Int
  deriving DecidableEq,Inhabited
variable [Fu]
def kU (a0 : fG) : Option Int :=
  bnd (!decide (a0.Bad = 0)) fun x1 =>
  bnd (!decide (a0.Buf = ([] : List UInt8))) fun x2 =>
  bnd (x1 && x2) fun x3 =>
  bif x3 then (
    some 4
  ) else (
    bno (sG a0.Buf) fun x5 =>
    bnd (!decide (x5.2.2 = 3)) fun x6 =>
    bnd (decide (80 < (a0.Buf.length : Int))) fun x7 =>
    bnd (x6 || x7) fun x8 =>
    bif x8 then (
      some 5
    ) else (
      bnd (decide (a0.Seen < 0)) fun x10 =>
      bif x10 then (
        some 8
      ) else (
        some 0
      )
    )
  )

end Go.Fn
open Go Go.IL
namespace Go.Fn
structure aD8 where
  Kind : Int
  N : Int
  Path : Int
  Fin : Bool
  deriving DecidableEq,Inhabited
structure bX where
  From : Int
  To : Int
  Path : Int
  Fin : Bool
  deriving DecidableEq,Inhabited
def cS : Enc bX:=⟨⟨fun x=>.agg [.int .i64 x.From,.int .i64 x.To,.int .i64 x.Path,.bool x.Fin],4,by decide,fun _=>⟨rfl,rfl⟩⟩,fun _=>rfl⟩

structure aG where
  From : Int
  To : Int
  deriving DecidableEq,Inhabited
def aF : Enc aG:=⟨⟨fun x=>.agg [.int .i64 x.From,.int .i64 x.To],2,by decide,fun _=>⟨rfl,rfl⟩⟩,fun _=>rfl⟩

structure cJ where
  Base : Int
  Data : (List UInt8)
  Next : Int
  Pieces : (List bX)
  Lost : (List aG)
  Closed : Bool
  Sent : Bool
  Again : Bool
  Done : Bool
  deriving DecidableEq,Inhabited
variable [Fu]
def aAq  : Option cJ :=
  some (⟨0,[],0,[],[],false,false,false,false⟩ : cJ)

def dP (a0 : (List aG)) : Option (List aG) :=
  aBS a0 (
    some []
  ) (
    bno (app 16 ([] : (List aG)) a0) fun x3 =>
    some x3
  )

def jT (a0 : cJ) : Option (Int × (List UInt8) × Int × (List bX) × (List aG) × Bool × Bool × Bool × Bool) :=
  bno (made 32 (a0.Pieces.length : Int) ((⟨0,0,0,false⟩ : bX) : bX)) fun x1 =>
  bnd (cpy x1 a0.Pieces) fun x2 =>
  bno (dP a0.Lost) fun x3 =>
  some (a0.Base,a0.Data,a0.Next,x2,x3,a0.Closed,a0.Sent,a0.Again,a0.Done)

def sB (a0 : Int) : Option Bool :=
  bnd (decide (0 ≤ a0)) fun x1 =>
  bnd (decide (a0 ≤ 4611686018427387903)) fun x2 =>
  bnd (x1 && x2) fun x3 =>
  some x3

def iS (a0 : aG) : Option Bool :=
  bno (sB a0.From) fun x1 =>
  bno (gd (x1 == true) (sB a0.To) default) fun x2 =>
  bnd (x1 && x2) fun x3 =>
  some x3

def mJ (a0 : aG) : Option Bool :=
  bno (iS (⟨a0.From,a0.To⟩ : aG)) fun x1 =>
  some (!x1)

def bN (a0 : (List aG)) : Nat → Int → Option Int
  | 0,_=>none
  | n0 + 1, v7 =>
    bnd (decide (v7 < (a0.length : Int))) fun x14 =>
    bif x14 then (
      bno (gix a0 v7) fun x16 =>
      bno (mJ (⟨x16.From,x16.To⟩ : aG)) fun x17 =>
      bif x17 then (
        some v7
      ) else (
        bnd (IntKind.wrap .i64 (v7 + 1)) fun x19 =>
        (bN a0 n0) x19
      )
    ) else (
      some (-1)
    )
def dS (a0 : (List aG)) : Option Int :=
  bN a0 fuel 0

def cZ (a0 : (List aG)) : Option Bool :=
  bno (dS a0) fun x1 =>
  bnd (decide (0 ≤ x1)) fun x2 =>
  some x2

def gW (a0 : aG) : Option Bool :=
  bnd (decide (a0.To ≤ a0.From)) fun x1 =>
  some x1

def bQ (a0 : (List aG)) : Nat → Int → Option Int
  | 0,_=>none
  | n0 + 1, v7 =>
    bnd (decide (v7 < (a0.length : Int))) fun x14 =>
    bif x14 then (
      bno (gix a0 v7) fun x16 =>
      bno (gW (⟨x16.From,x16.To⟩ : aG)) fun x17 =>
      bif x17 then (
        some v7
      ) else (
        bnd (IntKind.wrap .i64 (v7 + 1)) fun x19 =>
        (bQ a0 n0) x19
      )
    ) else (
      some (-1)
    )
def eB (a0 : (List aG)) : Option Int :=
  bQ a0 fuel 0

def dE (a0 : (List aG)) : Option Bool :=
  bno (eB a0) fun x1 =>
  bnd (decide (0 ≤ x1)) fun x2 =>
  some x2

def fT (a0 : (List aG)) : Nat → Int → Option Int
  | 0,_=>none
  | n0 + 1, v13 =>
    bnd (decide (v13 < (a0.length : Int))) fun x22 =>
    bif x22 then (
      bno (gix a0 v13) fun x24 =>
      bnd (IntKind.wrap .i64 (v13 - 1)) fun x25 =>
      bno (gix a0 x25) fun x26 =>
      bnd (decide (x24.From ≤ x26.To)) fun x27 =>
      bif x27 then (
        some 10
      ) else (
        bnd (IntKind.wrap .i64 (v13 + 1)) fun x29 =>
        (fT a0 n0) x29
      )
    ) else (
      some 0
    )
def lO (a0 : (List aG)) : Option Int :=
  bno (cZ a0) fun x1 =>
  bif x1 then (
    some 8
  ) else (
    bno (dE a0) fun x3 =>
    bif x3 then (
      some 4
    ) else (
      fT a0 fuel 1
    )
  )

def kG (a0 : cJ) : Option Bool :=
  bno (lO a0.Lost) fun x1 =>
  bnd (!decide (x1 = 0)) fun x2 =>
  bif x2 then (
    some false
  ) else (
    bnd (decide ((a0.Lost.length : Int) = 0)) fun x4 =>
    bno (gd (x4 == false) (gix a0.Lost 0) default) fun x5 =>
    bnd (decide (a0.Base ≤ x5.From)) fun x6 =>
    bnd (IntKind.wrap .i64 ((a0.Lost.length : Int) - 1)) fun x7 =>
    bno (gd ((x4 == false) && (x6 == true)) (gix a0.Lost x7) default) fun x8 =>
    bnd (decide (x8.To ≤ a0.Next)) fun x9 =>
    bnd (x6 && x9) fun x10 =>
    bnd (x4 || x10) fun x11 =>
    some x11
  )

def uH (a0 : Int) : Option Bool :=
  bnd (decide (0 ≤ a0)) fun x1 =>
  bnd (decide (a0 < 4)) fun x2 =>
  bnd (x1 && x2) fun x3 =>
  some x3

def kI (a0 : bX) : Option aG :=
  some (⟨a0.From,a0.To⟩ : aG)

def dK (a0 : (List aG)) : Option (List aG) :=
  aBS a0 (
    some ([] : (List aG))
  ) (
    bno (app 16 ([] : (List aG)) a0) fun x3 =>
    some x3
  )

def fH (v52 : Int) (kk0 : Int → (List aG) → Option (List aG)) (x99 : aG) (x100 : Int) (x101 : Int) : Nat → Int → (List aG) → Option (List aG)
  | 0,_,_=>none
  | n1 + 1, v113, v114 =>
    bnd (decide (v113 < 2)) fun x127 =>
    bif x127 then (
      bno (gix ([(⟨x99.From,x100⟩ : aG),(⟨x101,x99.To⟩ : aG)] : List aG) v113) fun x129 =>
      bno (gW (⟨x129.From,x129.To⟩ : aG)) fun x130 =>
      bif ((!x130) == true) then (
        bno (app 16 v114 (([(⟨x129.From,x129.To⟩ : aG)] : (List aG)))) fun x132 =>
        bnd ((!x130) && (!true)) fun x133 =>
        bif x133 then (
          some x132
        ) else (
          bnd (IntKind.wrap .i64 (v113 + 1)) fun x135 =>
          (fH v52 kk0 x99 x100 x101 n1) x135 x132
        )
      ) else (
        bnd ((!x130) && (!false)) fun x136 =>
        bif x136 then (
          some v114
        ) else (
          bnd (IntKind.wrap .i64 (v113 + 1)) fun x138 =>
          (fH v52 kk0 x99 x100 x101 n1) x138 v114
        )
      )
    ) else (
      bnd (IntKind.wrap .i64 (v52 + 1)) fun x139 =>
      kk0 x139 v114
    )
def iB (a0 : (List aG)) (a1 : aG) : Nat → Int → (List aG) → Option (List aG)
  | 0,_,_=>none
  | n0 + 1, v52, v53 =>
    bnd (decide (v52 < (a0.length : Int))) fun x97 =>
    bif x97 then (
      bno (gix a0 v52) fun x99 =>
      bnd (min x99.To a1.From) fun x100 =>
      bnd (max x99.From a1.To) fun x101 =>
      fH v52 (iB a0 a1 n0) x99 x100 x101 fuel 0 v53
    ) else (
      some v53
    )
def sC (a0 : (List aG)) (a1 : aG) : Option (List aG) :=
  bno (iS (⟨a1.From,a1.To⟩ : aG)) fun x1 =>
  bno (gd ((!x1) == false) (gW (⟨a1.From,a1.To⟩ : aG)) default) fun x2 =>
  bnd ((!x1) || x2) fun x3 =>
  bno (gd (x3 == false) (lO a0) default) fun x4 =>
  bnd (!decide (x4 = 0)) fun x5 =>
  bnd (x3 || x5) fun x6 =>
  bif x6 then (
    bno (dK a0) fun x8 =>
    some x8
  ) else (
    iB a0 a1 fuel 0 ([] : (List aG))
  )

def iA (a0 : (List aG)) : Nat → (List aG) → Int → Option (List aG)
  | 0,_,_=>none
  | n0 + 1, v13, v14 =>
    bnd (decide (v14 < (a0.length : Int))) fun x20 =>
    bif x20 then (
      bno (gix a0 v14) fun x22 =>
      bno (sC v13 (⟨x22.From,x22.To⟩ : aG)) fun x23 =>
      bnd (IntKind.wrap .i64 (v14 + 1)) fun x24 =>
      (iA a0 n0) x23 x24
    ) else (
      some v13
    )
def qC (a0 : (List aG)) (a1 : aG) : Option (List aG) :=
  bno (iS (⟨a1.From,a1.To⟩ : aG)) fun x1 =>
  bno (gd ((!x1) == false) (lO a0) default) fun x2 =>
  bnd (!decide (x2 = 0)) fun x3 =>
  bnd ((!x1) || x3) fun x4 =>
  bno (gd (x4 == false) (gW (⟨a1.From,a1.To⟩ : aG)) default) fun x5 =>
  bnd (x4 || x5) fun x6 =>
  bif x6 then (
    some []
  ) else (
    iA a0 fuel (([(⟨a1.From,a1.To⟩ : aG)] : (List aG))) 0
  )

def cL (a0 : (List aG)) (a1 : (List aG)) : Nat → Int → Option Bool
  | 0,_=>none
  | n0 + 1, v10 =>
    bnd (decide (v10 < (a0.length : Int))) fun x18 =>
    bif x18 then (
      bno (gix a0 v10) fun x20 =>
      bno (gix a1 v10) fun x21 =>
      bnd ((decide (x20.From = x21.From) && (decide (x20.To = x21.To) && true))) fun x22 =>
      bif (!x22) then (
        some false
      ) else (
        bnd (IntKind.wrap .i64 (v10 + 1)) fun x24 =>
        (cL a0 a1 n0) x24
      )
    ) else (
      some true
    )
def eF (a0 : (List aG)) (a1 : (List aG)) : Option Bool :=
  bnd (!decide ((a0.length : Int) = (a1.length : Int))) fun x1 =>
  bif x1 then (
    some false
  ) else (
    cL a0 a1 fuel 0
  )

def qB (a0 : (List aG)) (a1 : (List aG)) : Option Bool :=
  bno (eF a0 a1) fun x1 =>
  some x1

def kH (a0 : cJ) (a1 : bX) (a2 : Int) : Option Bool :=
  bnd (decide (a1.From < a2)) fun x1 =>
  bnd (decide (a1.To < a1.From)) fun x2 =>
  bnd (x1 || x2) fun x3 =>
  bnd (decide (a0.Next < a1.To)) fun x4 =>
  bnd (x3 || x4) fun x5 =>
  bno (gd (x5 == false) (uH a1.Path) default) fun x6 =>
  bnd (x5 || (!x6)) fun x7 =>
  bif x7 then (
    some false
  ) else (
    bnd (decide (a1.From = a1.To)) fun x9 =>
    bif x9 then (
      some a1.Fin
    ) else (
      bno (kI a1) fun x11 =>
      bno (qC a0.Lost (⟨x11.From,x11.To⟩ : aG)) fun x12 =>
      bno (kI a1) fun x13 =>
      bno (qB x12 ([(⟨x13.From,x13.To⟩ : aG)] : (List aG))) fun x14 =>
      some x14
    )
  )

def iP (a0 : cJ) : Option Int :=
  bnd (IntKind.wrap .i64 (a0.Base + (a0.Data.length : Int))) fun x1 =>
  some x1

def eG (a0 : cJ) : Nat → Int → Int → Option Bool
  | 0,_,_=>none
  | n0 + 1, v11, v12 =>
    bnd (decide (v12 < (a0.Pieces.length : Int))) fun x23 =>
    bif x23 then (
      bno (gix a0.Pieces v12) fun x25 =>
      bif x25.Fin then (
        bnd (IntKind.wrap .i64 (v11 + 1)) fun x27 =>
        bno (iP a0) fun x28 =>
        bnd (!decide (x25.To = x28)) fun x29 =>
        bif x29 then (
          some false
        ) else (
          bnd (IntKind.wrap .i64 (v12 + 1)) fun x31 =>
          (eG a0 n0) x27 x31
        )
      ) else (
        bnd (IntKind.wrap .i64 (v12 + 1)) fun x32 =>
        (eG a0 n0) v11 x32
      )
    ) else (
      bif (!a0.Sent) then (
        bnd (decide (v11 = 0)) fun x34 =>
        bnd (x34 && (!a0.Again)) fun x35 =>
        bnd (x35 && (!a0.Done)) fun x36 =>
        some x36
      ) else (
        bno (gd ((!a0.Closed) == false) (iP a0) default) fun x37 =>
        bnd (!decide (a0.Next = x37)) fun x38 =>
        bnd ((!a0.Closed) || x38) fun x39 =>
        bnd (a0.Again && a0.Done) fun x40 =>
        bnd (x39 || x40) fun x41 =>
        bif x41 then (
          some false
        ) else (
          bnd ((!a0.Again) && (!a0.Done)) fun x43 =>
          bnd (decide (v11 = 1)) fun x44 =>
          bnd (x43 && x44) fun x45 =>
          bnd (decide (v11 = 0)) fun x46 =>
          bnd ((!x43) && x46) fun x47 =>
          bnd (x45 || x47) fun x48 =>
          some x48
        )
      )
    )
def mB (a0 : cJ) : Option Bool :=
  eG a0 fuel 0 0

def hU (a0 : cJ) : Nat → Int → Int → Option Int
  | 0,_,_=>none
  | n1 + 1, v21, v22 =>
    bnd (decide (v22 < (a0.Pieces.length : Int))) fun x29 =>
    bif x29 then (
      bno (gix a0.Pieces v22) fun x31 =>
      bno (kH a0 x31 v21) fun x32 =>
      bif (!x32) then (
        some 10
      ) else (
        bnd (IntKind.wrap .i64 (v22 + 1)) fun x34 =>
        (hU a0 n1) x31.To x34
      )
    ) else (
      bno (mB a0) fun x35 =>
      bif (!x35) then (
        some 9
      ) else (
        some 0
      )
    )
def jK (a0 : cJ) (v9 : Bool) : Option Int :=
  bif v9 then (
    some 8
  ) else (
    bnd (decide (4096 < (a0.Data.length : Int))) fun x11 =>
    bif x11 then (
      some 5
    ) else (
      bno (kG a0) fun x13 =>
      bif (!x13) then (
        some 4
      ) else (
        hU a0 fuel a0.Base 0
      )
    )
  )
def oP (a0 : cJ) : Option Int :=
  bnd (decide (a0.Base < 0)) fun x37 =>
  bif x37 then (
    jK a0 x37
  ) else (
    bnd (decide (1099511623680 < a0.Base)) fun x39 =>
    bif x39 then (
      jK a0 x39
    ) else (
      bnd (decide (a0.Next < a0.Base)) fun x41 =>
      bif x41 then (
        jK a0 x41
      ) else (
        bnd (IntKind.wrap .i64 (a0.Next - a0.Base)) fun x43 =>
        bnd (decide ((a0.Data.length : Int) < x43)) fun x44 =>
        jK a0 x44
      )
    )
  )

def pX (a0 : cJ) : Option Int :=
  bif a0.Closed then (
    some 0
  ) else (
    bnd (IntKind.wrap .i64 (4096 - (a0.Data.length : Int))) fun x2 =>
    some x2
  )

def pW (a0 : cJ) (a1 : (List UInt8)) : Option (cJ × Int) :=
  bno (jT a0) fun x1 =>
  bno (oP a0) fun x2 =>
  bnd (!decide (x2 = 0)) fun x3 =>
  bif x3 then (
    some ((⟨x1.1,x1.2.1,x1.2.2.1,x1.2.2.2.1,x1.2.2.2.2.1,x1.2.2.2.2.2.1,x1.2.2.2.2.2.2.1,x1.2.2.2.2.2.2.2.1,x1.2.2.2.2.2.2.2.2⟩ : cJ),0)
  ) else (
    bno (pX a0) fun x5 =>
    bnd (min x5 (a1.length : Int)) fun x6 =>
    bno (iP a0) fun x7 =>
    bnd (IntKind.wrap .i64 (1099511623680 - x6)) fun x8 =>
    bnd (decide (x8 < x7)) fun x9 =>
    bif x9 then (
      some ((⟨x1.1,x1.2.1,x1.2.2.1,x1.2.2.2.1,x1.2.2.2.2.1,x1.2.2.2.2.2.1,x1.2.2.2.2.2.2.1,x1.2.2.2.2.2.2.2.1,x1.2.2.2.2.2.2.2.2⟩ : cJ),0)
    ) else (
      bno (cut a1 0 x6) fun x11 =>
      bno (cat x1.2.1 x11) fun x12 =>
      some ((⟨x1.1,x12,x1.2.2.1,x1.2.2.2.1,x1.2.2.2.2.1,x1.2.2.2.2.2.1,x1.2.2.2.2.2.2.1,x1.2.2.2.2.2.2.2.1,x1.2.2.2.2.2.2.2.2⟩ : cJ),x6)
    )
  )

end Go.Fn
open Go Go.IL
namespace Go.Fn
structure aDT where
  Kind : Int
  N : Int
  Path : Int
  Text : (List UInt8)
  deriving DecidableEq,Inhabited
structure cE where
  At : Int
  Data : (List UInt8)
  deriving DecidableEq,Inhabited
def cY : Enc cE:=⟨⟨fun x=>.agg [.int .i64 x.At,.str x.Data],2,by decide,fun _=>⟨rfl,rfl⟩⟩,fun _=>rfl⟩

structure cM where
  Base : Int
  Ready : (List UInt8)
  Parts : (List cE)
  deriving DecidableEq,Inhabited
structure eO where
  Recv : cM
  End : Int
  deriving DecidableEq,Inhabited
structure eP where
  Window : Int
  Limit : Int
  Used : Int
  Read : Int
  deriving DecidableEq,Inhabited
structure bU where
  ID : Int
  Send : cJ
  Recv : eO
  Out : eP
  In : eP
  Mine : Int
  Hers : Int
  deriving DecidableEq,Inhabited
def nU : Enc bU:=⟨⟨fun x=>.agg [.int .i64 x.ID,.int .i64 x.Send.Base,.str x.Send.Data,.int .i64 x.Send.Next,.slice false (x.Send.Pieces.map cS.d),.slice false (x.Send.Lost.map aF.d),.bool x.Send.Closed,.bool x.Send.Sent,.bool x.Send.Again,.bool x.Send.Done,.int .i64 x.Recv.Recv.Base,.str x.Recv.Recv.Ready,.slice false (x.Recv.Recv.Parts.map cY.d),.int .i64 x.Recv.End,.int .i64 x.Out.Window,.int .i64 x.Out.Limit,.int .i64 x.Out.Used,.int .i64 x.Out.Read,.int .i64 x.In.Window,.int .i64 x.In.Limit,.int .i64 x.In.Used,.int .i64 x.In.Read,.int .i64 x.Mine,.int .i64 x.Hers],24,by decide,fun _=>⟨rfl,rfl⟩⟩,fun _=>rfl⟩

structure kY where
  State : cM
  end_ : Int
  deriving DecidableEq,Inhabited
structure tW where
  at_ : Int
  s : (List UInt8)
  fin : Bool
  deriving DecidableEq,Inhabited
structure vR where
  a : bU
  b : bU
  went : (List tW)
  wrote : (List UInt8)
  read : (List UInt8)
  given : Int
  end_ : Bool
  deriving DecidableEq,Inhabited
variable [Fu]
def pL (a0 : eP) : Option Int :=
  bnd (decide (0 ≤ a0.Read)) fun x1 =>
  bnd (decide (a0.Read ≤ a0.Used)) fun x2 =>
  bnd (x1 && x2) fun x3 =>
  bnd (decide (a0.Used ≤ a0.Limit)) fun x4 =>
  bnd (x3 && x4) fun x5 =>
  bnd (decide (a0.Limit ≤ 1099511627776)) fun x6 =>
  bnd (x5 && x6) fun x7 =>
  bnd (decide (a0.Window < 1)) fun x8 =>
  bnd ((!x7) || x8) fun x9 =>
  bnd (decide (1048576 < a0.Window)) fun x10 =>
  bnd (x9 || x10) fun x11 =>
  bif x11 then (
    some 8
  ) else (
    some 0
  )

def kX (a0 : Int) : Option (eP × Int) :=
  bno (pL (⟨a0,a0,0,0⟩ : eP)) fun x1 =>
  bnd (!decide (x1 = 0)) fun x2 =>
  bif x2 then (
    some ((⟨0,0,0,0⟩ : eP),x1)
  ) else (
    some ((⟨a0,a0,0,0⟩ : eP),0)
  )

def uJ  : Option cM :=
  some (⟨0,[],[]⟩ : cM)

def aAv  : Option eO :=
  bno (uJ) fun x1 =>
  some (⟨x1,(-1)⟩ : eO)

def oV (a0 : cM) : Option Int :=
  bnd (IntKind.wrap .i64 (a0.Base - (a0.Ready.length : Int))) fun x1 =>
  bnd (IntKind.wrap .i64 (x1 + 4096)) fun x2 =>
  bnd (min x2 1099511627776) fun x3 =>
  some x3

def lC (a0 : cE) : Option Int :=
  bnd (IntKind.wrap .i64 (a0.At + (a0.Data.length : Int))) fun x1 =>
  some x1

def gN (a0 : cM) (x8 : Int) : Nat → Int → Int → Option Int
  | 0,_,_=>none
  | n0 + 1, v23, v24 =>
    bnd (decide (v24 < (a0.Parts.length : Int))) fun x39 =>
    bif x39 then (
      bno (gix a0.Parts v24) fun x41 =>
      bnd (decide (x41.At ≤ v23)) fun x42 =>
      bnd (decide (x41.Data = ([] : List UInt8))) fun x43 =>
      bnd (x42 || x43) fun x44 =>
      bnd (decide (x8 < x41.At)) fun x45 =>
      bnd (x44 || x45) fun x46 =>
      bnd (IntKind.wrap .i64 (x8 - x41.At)) fun x47 =>
      bnd (decide (x47 < (x41.Data.length : Int))) fun x48 =>
      bnd (x46 || x48) fun x49 =>
      bif x49 then (
        some 10
      ) else (
        bno (lC x41) fun x51 =>
        bnd (IntKind.wrap .i64 (v24 + 1)) fun x52 =>
        (gN a0 x8 n0) x51 x52
      )
    ) else (
      some 0
    )
def oW (a0 : cM) : Option Int :=
  bnd (decide (a0.Base < 0)) fun x1 =>
  bnd (decide (1099511627776 < a0.Base)) fun x2 =>
  bnd (x1 || x2) fun x3 =>
  bnd (min a0.Base 4096) fun x4 =>
  bnd (decide (x4 < (a0.Ready.length : Int))) fun x5 =>
  bnd (x3 || x5) fun x6 =>
  bif x6 then (
    some 8
  ) else (
    bno (oV a0) fun x8 =>
    gN a0 x8 fuel a0.Base 0
  )

def uK (a0 : eO) : Option kY :=
  some (⟨a0.Recv,a0.End⟩ : kY)

def hB (a0 : kY) : Option Int :=
  bnd (decide (0 < (a0.State.Parts.length : Int))) fun x1 =>
  bif x1 then (
    bnd (IntKind.wrap .i64 ((a0.State.Parts.length : Int) - 1)) fun x3 =>
    bno (gix a0.State.Parts x3) fun x4 =>
    bnd (IntKind.wrap .i64 ((a0.State.Parts.length : Int) - 1)) fun x5 =>
    bno (gix a0.State.Parts x5) fun x6 =>
    bnd (IntKind.wrap .i64 (x4.At + (x6.Data.length : Int))) fun x7 =>
    some x7
  ) else (
    some a0.State.Base
  )

def uL (a0 : eO) : Option Int :=
  bno (uK a0) fun x1 =>
  bno (hB x1) fun x2 =>
  some x2

def oQ (a0 : eO) : Option Int :=
  bno (oW a0.Recv) fun x1 =>
  bnd (!decide (x1 = 0)) fun x2 =>
  bif x2 then (
    some x1
  ) else (
    bnd (!decide (a0.End = (-1))) fun x4 =>
    bno (gd (x4 == true) (uL a0) default) fun x5 =>
    bnd (decide (a0.End < x5)) fun x6 =>
    bnd (decide (1099511627776 < a0.End)) fun x7 =>
    bnd (x6 || x7) fun x8 =>
    bnd (x4 && x8) fun x9 =>
    bif x9 then (
      some 8
    ) else (
      some 0
    )
  )

def mD (a0 : cM) : Nat → Int → Int → Option Int
  | 0,_,_=>none
  | n0 + 1, v6, v7 =>
    bnd (decide (v7 < (a0.Parts.length : Int))) fun x13 =>
    bif x13 then (
      bno (gix a0.Parts v7) fun x15 =>
      bnd (IntKind.wrap .i64 (v6 + (x15.Data.length : Int))) fun x16 =>
      bnd (IntKind.wrap .i64 (v7 + 1)) fun x17 =>
      (mD a0 n0) x16 x17
    ) else (
      some v6
    )
def aDg (a0 : cM) : Option Int :=
  mD a0 fuel (a0.Ready.length : Int) 0

end Go.Fn
open Go Go.IL
namespace Go.Fn
structure dM where
  Send : cJ
  Recv : eO
  In : fG
  deriving DecidableEq,Inhabited
structure aFl where
  Scope : Int
  Code : Int
  deriving DecidableEq,Inhabited
variable [Fu]
def rB  : Option dM :=
  bno (aAq) fun x1 =>
  bno (aAv) fun x2 =>
  some (⟨x1,x2,(⟨[],0,0⟩ : fG)⟩ : dM)

def iG (a0 : dM) : Option Int :=
  bno (oP a0.Send) fun x1 =>
  bnd (!decide (x1 = 0)) fun x2 =>
  bif x2 then (
    some x1
  ) else (
    bno (oQ a0.Recv) fun x4 =>
    bnd (!decide (x4 = 0)) fun x5 =>
    bif x5 then (
      some x4
    ) else (
      bno (kU a0.In) fun x7 =>
      bnd (!decide (x7 = 0)) fun x8 =>
      bif x8 then (
        some x7
      ) else (
        bnd (decide (0 ≤ a0.Recv.End)) fun x10 =>
        bnd (a0.Send.Closed || x10) fun x11 =>
        bnd (!decide (a0.Recv.Recv.Ready = ([] : List UInt8))) fun x12 =>
        bnd (x11 || x12) fun x13 =>
        bnd (!decide (a0.In.Bad = 0)) fun x14 =>
        bnd (x13 || x14) fun x15 =>
        bif x15 then (
          some 4
        ) else (
          some 0
        )
      )
    )
  )

def mC (a0 : Int) : Option Bool :=
  bnd (decide (a0 = 1)) fun x1 =>
  bif x1 then (
    some true
  ) else (
    bnd (decide (a0 = 2)) fun x3 =>
    bif x3 then (
      some true
    ) else (
      bnd (decide (a0 = 3)) fun x5 =>
      bif x5 then (
        some true
      ) else (
        bnd (decide (a0 = 4)) fun x7 =>
        bif x7 then (
          some true
        ) else (
          bnd (decide (a0 = 6)) fun x9 =>
          bif x9 then (
            some true
          ) else (
            bnd (decide (a0 = 7)) fun x11 =>
            bif x11 then (
              some true
            ) else (
              bnd (decide (a0 = 8)) fun x13 =>
              bif x13 then (
                some true
              ) else (
                some false
              )
            )
          )
        )
      )
    )
  )

def gP (a0 : dM) (a1 : aD) : Option (dM × Int) :=
  bno (iG a0) fun x1 =>
  bnd (!decide (x1 = 0)) fun x2 =>
  bif x2 then (
    some (a0,x1)
  ) else (
    bno (mC a1.Kind) fun x4 =>
    bif (!x4) then (
      some (a0,12)
    ) else (
      bno (sF a1) fun x6 =>
      bnd (!decide (x6.2 = 0)) fun x7 =>
      bif x7 then (
        some (a0,x6.2)
      ) else (
        bno (pX a0.Send) fun x9 =>
        bnd (decide (x9 < (x6.1.length : Int))) fun x10 =>
        bif x10 then (
          some (a0,7)
        ) else (
          bno (pW a0.Send x6.1) fun x12 =>
          bnd (decide (x12.2 < (x6.1.length : Int))) fun x13 =>
          bif x13 then (
            some (a0,7)
          ) else (
            some ((⟨x12.1,a0.Recv,a0.In⟩ : dM),0)
          )
        )
      )
    )
  )

end Go.Fn
open Go Go.IL
namespace Go.Fn
structure lH where
  Path : Int
  To : Int
  Data : (List UInt8)
  deriving DecidableEq,Inhabited
def nM : Enc lH:=⟨⟨fun x=>.agg [.int .i64 x.Path,.int .i64 x.To,.str x.Data],3,by decide,fun _=>⟨rfl,rfl⟩⟩,fun _=>rfl⟩

structure fK where
  Odd : Bool
  Paths : Int
  Values : bL
  First : Int
  deriving DecidableEq,Inhabited
structure cF where
  Stage : Int
  Path : Int
  Epoch : Int
  Mine : Int
  Hers : Int
  deriving DecidableEq,Inhabited
structure iM where
  From : Int
  To : Int
  Sent : Int
  Tries : Int
  Lost : Bool
  deriving DecidableEq,Inhabited
def jP : Enc iM:=⟨⟨fun x=>.agg [.int .i64 x.From,.int .i64 x.To,.int .i64 x.Sent,.int .i64 x.Tries,.bool x.Lost],5,by decide,fun _=>⟨rfl,rfl⟩⟩,fun _=>rfl⟩

structure dZ where
  Base : Int
  Data : (List UInt8)
  Next : Int
  Flight : (List iM)
  Came : (List aG)
  deriving DecidableEq,Inhabited
structure eU where
  Smooth : Int
  Var : Int
  Known : Bool
  Shift : Int
  deriving DecidableEq,Inhabited
structure eQ where
  Win : Int
  Thresh : Int
  Part : Int
  deriving DecidableEq,Inhabited
structure bI where
  Shake : cF
  Send : dZ
  Recv : cM
  Rtt : eU
  Win : eQ
  Limit : Int
  Now : Int
  Heard : Int
  Next : Int
  Probe : Int
  Due : Bool
  deriving DecidableEq,Inhabited
def aP : Enc bI:=⟨⟨fun x=>.agg [.int .u8 x.Shake.Stage,.int .i64 x.Shake.Path,.int .i64 x.Shake.Epoch,.int .u32 x.Shake.Mine,.int .u32 x.Shake.Hers,.int .i64 x.Send.Base,.str x.Send.Data,.int .i64 x.Send.Next,.slice false (x.Send.Flight.map jP.d),.slice false (x.Send.Came.map aF.d),.int .i64 x.Recv.Base,.str x.Recv.Ready,.slice false (x.Recv.Parts.map cY.d),.int .i64 x.Rtt.Smooth,.int .i64 x.Rtt.Var,.bool x.Rtt.Known,.int .i64 x.Rtt.Shift,.int .i64 x.Win.Win,.int .i64 x.Win.Thresh,.int .i64 x.Win.Part,.int .i64 x.Limit,.int .i64 x.Now,.int .i64 x.Heard,.int .i64 x.Next,.int .i64 x.Probe,.bool x.Due],26,by decide,fun _=>⟨rfl,rfl⟩⟩,fun _=>rfl⟩

structure bZ where
  ID : Int
  Parent : Int
  Weight : Int
  Closed : Bool
  deriving DecidableEq,Inhabited
def nV : Enc bZ:=⟨⟨fun x=>.agg [.int .i64 x.ID,.int .i64 x.Parent,.int .i64 x.Weight,.bool x.Closed],4,by decide,fun _=>⟨rfl,rfl⟩⟩,fun _=>rfl⟩

structure tO where
  ID : Int
  Weight : Int
  Sent : Int
  deriving DecidableEq,Inhabited
def aAR : Enc tO:=⟨⟨fun x=>.agg [.int .i64 x.ID,.int .i64 x.Weight,.int .i64 x.Sent],3,by decide,fun _=>⟨rfl,rfl⟩⟩,fun _=>rfl⟩

structure bP where
  Parent : Int
  Members : (List tO)
  deriving DecidableEq,Inhabited
def mR : Enc bP:=⟨⟨fun x=>.agg [.int .i64 x.Parent,.slice false (x.Members.map aAR.d)],2,by decide,fun _=>⟨rfl,rfl⟩⟩,fun _=>rfl⟩

structure cR where
  Stream : Int
  Path : Int
  deriving DecidableEq,Inhabited
def lV : Enc cR:=⟨⟨fun x=>.agg [.int .i64 x.Stream,.int .i64 x.Path],2,by decide,fun _=>⟨rfl,rfl⟩⟩,fun _=>rfl⟩

structure aM where
  ID : Int
  At : Int
  deriving DecidableEq,Inhabited
def aO : Enc aM:=⟨⟨fun x=>.agg [.int .i64 x.ID,.int .i64 x.At],2,by decide,fun _=>⟨rfl,rfl⟩⟩,fun _=>rfl⟩

structure bC where
  ID : Int
  Used : Int
  deriving DecidableEq,Inhabited
def bG : Enc bC:=⟨⟨fun x=>.agg [.int .i64 x.ID,.int .i64 x.Used],2,by decide,fun _=>⟨rfl,rfl⟩⟩,fun _=>rfl⟩

structure bD where
  Kind : Int
  ID : Int
  Code : Int
  deriving DecidableEq,Inhabited
def bH : Enc bD:=⟨⟨fun x=>.agg [.int .i64 x.Kind,.int .i64 x.ID,.int .i64 x.Code],3,by decide,fun _=>⟨rfl,rfl⟩⟩,fun _=>rfl⟩

structure jF where
  Up : Bool
  Dead : Bool
  Bytes : Int
  Ticks : Int
  deriving DecidableEq,Inhabited
structure aAi where
  c0 : jF
  c1 : jF
  c2 : jF
  c3 : jF
  deriving DecidableEq,Inhabited
structure jO where
  Lines : aAi
  Pinned : Int
  Binds : (List cR)
  deriving DecidableEq,Inhabited
structure dF where
  Odd : Bool
  Next : Int
  Last : Int
  Live : (List Int)
  Cut : (List Int)
  Mine : Int
  Hers : Int
  Heard : Int
  Told : Int
  deriving DecidableEq,Inhabited
structure fY where
  Live : Bool
  Value : Int
  Link : Int
  deriving DecidableEq,Inhabited
def nW : Enc fY:=⟨⟨fun x=>.agg [.bool x.Live,.int .i64 x.Value,.int .i64 x.Link],3,by decide,fun _=>⟨rfl,rfl⟩⟩,fun _=>rfl⟩

structure oM where
  Cells : (List fY)
  Free : Int
  Used : Int
  deriving DecidableEq,Inhabited
structure dA where
  id : Int
  up : Int
  first : Int
  next : Int
  weight : Int
  closed : Bool
  deriving DecidableEq,Inhabited
def cU : Enc dA:=⟨⟨fun x=>.agg [.int .i64 x.id,.int .i64 x.up,.int .i64 x.first,.int .i64 x.next,.int .i64 x.weight,.bool x.closed],6,by decide,fun _=>⟨rfl,rfl⟩⟩,fun _=>rfl⟩

def uN  : Option jO :=
  some ((⟨(⟨(⟨false,false,0,0⟩ : jF),(⟨false,false,0,0⟩ : jF),(⟨false,false,0,0⟩ : jF),(⟨false,false,0,0⟩ : jF)⟩ : aAi),(-1),[]⟩ : jO))

def uG (a0 : Int) (a1 : Int) (a2 : Int) : Option cF :=
  some (⟨0,a0,a1,a2,0⟩ : cF)

def gM (a0 : cF) (v8 : Bool) : Option Int :=
  bif v8 then (
    some 8
  ) else (
    bnd (decide (4 < a0.Stage)) fun x10 =>
    bif x10 then (
      some 12
    ) else (
      bnd (decide (a0.Stage < 2)) fun x12 =>
      bnd (!decide (a0.Hers = 0)) fun x13 =>
      bnd (x12 && x13) fun x14 =>
      bif x14 then (
        some 4
      ) else (
        some 0
      )
    )
  )
def nB (a0 : cF) : Option Int :=
  bnd (decide (a0.Path < 0)) fun x16 =>
  bif x16 then (
    gM a0 x16
  ) else (
    bnd (decide (4 ≤ a0.Path)) fun x18 =>
    bif x18 then (
      gM a0 x18
    ) else (
      bnd (decide (a0.Epoch < 0)) fun x20 =>
      bif x20 then (
        gM a0 x20
      ) else (
        bnd (decide (65535 < a0.Epoch)) fun x22 =>
        gM a0 x22
      )
    )
  )

def yS  : Option dZ :=
  some (⟨0,[],0,[],[]⟩ : dZ)

def aCR  : Option eU :=
  some (⟨0,0,false,0⟩ : eU)

def aBT  : Option eQ :=
  some (⟨96,1024,0⟩ : eQ)

def uM (a0 : Int) (a1 : Int) (a2 : Int) : Option (bI × Int) :=
  bno (uG a0 a1 a2) fun x1 =>
  bno (nB x1) fun x2 =>
  bnd (!decide (x2 = 0)) fun x3 =>
  bif x3 then (
    some (((⟨(⟨0,0,0,0,0⟩ : cF),(⟨0,[],0,[],[]⟩ : dZ),(⟨0,[],[]⟩ : cM),(⟨0,0,false,0⟩ : eU),(⟨0,0,0⟩ : eQ),0,0,0,0,0,false⟩ : bI),x2))
  ) else (
    bno (yS) fun x5 =>
    bno (uJ) fun x6 =>
    bno (aCR) fun x7 =>
    bno (aBT) fun x8 =>
    some ((⟨x1,x5,x6,x7,x8,4096,0,0,0,0,false⟩ : bI),0)
  )

def nI (a0 : cF) (a1 : Int) : Option cF :=
  bno (nB a0) fun x1 =>
  bnd (decide (x1 = 0)) fun x2 =>
  bif x2 then (
    some (⟨a1,a0.Path,a0.Epoch,a0.Mine,a0.Hers⟩ : cF)
  ) else (
    some a0
  )

def rS (a0 : cF) : Option cF :=
  bnd (!decide (a0.Stage = 0)) fun x1 =>
  bif x1 then (
    some a0
  ) else (
    bno (nI a0 1) fun x3 =>
    some x3
  )

def rU (a0 : bI) : Option bI :=
  bnd (decide (a0.Shake.Stage = 0)) fun x1 =>
  bif x1 then (
    bno (rS a0.Shake) fun x3 =>
    some (⟨x3,a0.Send,a0.Recv,a0.Rtt,a0.Win,a0.Limit,a0.Now,a0.Now,a0.Next,a0.Probe,a0.Due⟩ : bI)
  ) else (
    some a0
  )

def qN (a0 : Int) (a1 : Int) (a2 : Int) : Option Bool :=
  bnd (decide (a1 ≤ a0)) fun x1 =>
  bnd (decide (a0 ≤ a2)) fun x2 =>
  bnd (x1 && x2) fun x3 =>
  some x3

def uE (a0 : dF) (a1 : Int) : Option Bool :=
  bnd (decide (0 < a1)) fun x1 =>
  bnd (andI .i64 a1 1) fun x2 =>
  bnd (decide (x2 = 1)) fun x3 =>
  bnd (x3 == a0.Odd) fun x4 =>
  bnd (x1 && x4) fun x5 =>
  some x5

def lZ (a0 : dF) : Option Bool :=
  bno (qN a0.Next 1 1048578) fun x1 =>
  bno (gd ((!x1) == false) (uE a0 a0.Next) default) fun x2 =>
  bnd ((!x1) || (!x2)) fun x3 =>
  bno (gd (x3 == false) (qN a0.Last 0 1048576) default) fun x4 =>
  bnd (x3 || (!x4)) fun x5 =>
  bno (gd (x5 == false) (uE a0 a0.Last) default) fun x6 =>
  bnd (x5 || x6) fun x7 =>
  bif x7 then (
    some false
  ) else (
    bno (qN a0.Heard (-1) 1048576) fun x9 =>
    bno (gd (x9 == true) (qN a0.Told (-1) 1048576) default) fun x10 =>
    bnd (x9 && x10) fun x11 =>
    bno (gd (x11 == true) (qN a0.Mine 0 8) default) fun x12 =>
    bnd (x11 && x12) fun x13 =>
    bno (gd (x13 == true) (qN a0.Hers 0 8) default) fun x14 =>
    bnd (x13 && x14) fun x15 =>
    some x15
  )

def lJ (a0 : dF) (a1 : Int) : Option Bool :=
  bno (uE a0 a1) fun x1 =>
  bif x1 then (
    bnd (decide (a1 < a0.Next)) fun x3 =>
    some x3
  ) else (
    bno (qN a1 1 a0.Last) fun x4 =>
    some x4
  )

def gU (a0 : dF) : Nat → Int → Int → Option Bool
  | 0,_,_=>none
  | n0 + 1, v11, v12 =>
    bnd (decide (v12 < (a0.Live.length : Int))) fun x21 =>
    bif x21 then (
      bno (gix a0.Live v12) fun x23 =>
      bnd (decide (x23 ≤ v11)) fun x24 =>
      bno (gd (x24 == false) (lJ a0 x23) default) fun x25 =>
      bnd (x24 || (!x25)) fun x26 =>
      bif x26 then (
        some false
      ) else (
        bnd (IntKind.wrap .i64 (v12 + 1)) fun x28 =>
        (gU a0 n0) x23 x28
      )
    ) else (
      some true
    )
def nZ (a0 : dF) : Option Bool :=
  bnd (decide (16 < (a0.Live.length : Int))) fun x1 =>
  bif x1 then (
    some false
  ) else (
    gU a0 fuel 0 0
  )

def mA (a0 : Int) : Option (List Int):=aGX 8 a0

def eV (a0 : (List (List Int))) : Nat → (List Int) → Int → Option (List Int)
  | 0,_,_=>none
  | n1 + 1, v30, v31 =>
    bnd (decide (v31 < (a0.length : Int))) fun x37 =>
    bif x37 then (
      bno (gix a0 v31) fun x39 =>
      bno (app 8 v30 x39) fun x40 =>
      bnd (IntKind.wrap .i64 (v31 + 1)) fun x41 =>
      (eV a0 n1) x40 x41
    ) else (
      some v30
    )
def eW (a0 : (List (List Int))) : Nat → Int → Int → Option (List Int)
  | 0,_,_=>none
  | n0 + 1, v8, v9 =>
    bnd (decide (v9 < (a0.length : Int))) fun x17 =>
    bif x17 then (
      bno (gix a0 v9) fun x19 =>
      bnd (IntKind.wrap .i64 (v8 + (x19.length : Int))) fun x20 =>
      bnd (decide (x20 < 0)) fun x21 =>
      bif x21 then (
        none
      ) else (
        bnd (IntKind.wrap .i64 (v9 + 1)) fun x23 =>
        (eW a0 n0) x20 x23
      )
    ) else (
      bno (mA v8) fun x24 =>
      eV a0 fuel x24 0
    )
def kE (a0 : (List (List Int))) : Option (List Int) :=
  eW a0 fuel 0 0

def gV (a0 : dF) (v30 : Bool) (v31 : Int) (kk0 : Bool → Int → Option Bool) (x61 : Int) (x63 : (List Int)) : Nat → Int → Option Bool
  | 0,_=>none
  | n1 + 1, v70 =>
    bnd (decide (v70 < (x63.length : Int))) fun x77 =>
    bif x77 then (
      bno (gix x63 v70) fun x79 =>
      bnd (decide (x79 = x61)) fun x80 =>
      bif x80 then (
        some false
      ) else (
        bnd (IntKind.wrap .i64 (v70 + 1)) fun x82 =>
        (gV a0 v30 v31 kk0 x61 x63 n1) x82
      )
    ) else (
      bno (gd (v30 == true) (lJ a0 x61) default) fun x83 =>
      bnd (v30 && x83) fun x84 =>
      bnd (IntKind.wrap .i64 (v31 + 1)) fun x85 =>
      kk0 x84 x85
    )
def fP (a0 : dF) : Nat → Bool → Int → Option Bool
  | 0,_,_=>none
  | n0 + 1, v30, v31 =>
    bnd (decide (v31 < (a0.Cut.length : Int))) fun x59 =>
    bif x59 then (
      bno (gix a0.Cut v31) fun x61 =>
      bno (cut a0.Cut 0 v31) fun x62 =>
      bno (kE ([a0.Live,x62] : (List (List Int)))) fun x63 =>
      gV a0 v30 v31 (fP a0 n0) x61 x63 fuel 0
    ) else (
      some v30
    )
def oA (a0 : dF) : Option Bool :=
  bnd (decide (8 < (a0.Cut.length : Int))) fun x1 =>
  bif x1 then (
    some false
  ) else (
    fP a0 fuel true 0
  )

def vW (a0 : dF) : Option Int :=
  bno (lZ a0) fun x1 =>
  bif (!x1) then (
    some 8
  ) else (
    bno (nZ a0) fun x3 =>
    bif (!x3) then (
      some 4
    ) else (
      bno (oA a0) fun x5 =>
      bif (!x5) then (
        some 10
      ) else (
        some 0
      )
    )
  )

def qO (a0 : Bool) (a1 : Int) (a2 : Int) (v3 : Int) : Option (dF × Int) :=
  bno (vW ((⟨a0,v3,0,[],[],a1,a2,(-1),(-1)⟩ : dF))) fun x4 =>
  bnd (!decide (x4 = 0)) fun x5 =>
  bif x5 then (
    some ((⟨false,0,0,[],[],0,0,0,0⟩ : dF),x4)
  ) else (
    some (((⟨a0,v3,0,[],[],a1,a2,(-1),(-1)⟩ : dF),0))
  )
def uF (a0 : Bool) (a1 : Int) (a2 : Int) : Option (dF × Int) :=
  bif (!a0) then (
    bnd (IntKind.wrap .i64 (1 + 1)) fun x8 =>
    qO a0 a1 a2 x8
  ) else (
    qO a0 a1 a2 1
  )

def sP (a0 : Int) (a1 : Int) (a2 : Int) : Option Bool :=
  bnd (decide (a1 ≤ a0)) fun x1 =>
  bnd (decide (a0 ≤ a2)) fun x2 =>
  bnd (x1 && x2) fun x3 =>
  some x3

def lX (x1 : dN) : Nat → (List aT) → Int → Option (List aT)
  | 0,_,_=>none
  | n0 + 1, v7, v8 =>
    bnd (decide (v8 < 4)) fun x15 =>
    bif x15 then (
      bno (gix ([x1.c0,x1.c1,x1.c2,x1.c3] : List Int) v8) fun x17 =>
      bnd (IntKind.wrap .i64 (v8 + 1)) fun x18 =>
      bno (app 16 v7 (([(⟨x18,x17⟩ : aT)] : (List aT)))) fun x19 =>
      bnd (IntKind.wrap .i64 (v8 + 1)) fun x20 =>
      (lX x1 n0) x19 x20
    ) else (
      some v7
    )
def sM (a0 : bL) : Option (List aT) :=
  bno (gS a0) fun x1 =>
  lX x1 fuel ([] : (List aT)) 0

def hG (x7 : dN) (x8 : (List aT)) : Nat → (List aT) → Int → Option (List aT)
  | 0,_,_=>none
  | n0 + 1, v20, v21 =>
    bnd (decide (v21 < (x8.length : Int))) fun x33 =>
    bif x33 then (
      bno (gix x8 v21) fun x35 =>
      bnd (IntKind.wrap .i64 (x35.ID - 1)) fun x36 =>
      chk (0 ≤ x36 ∧ x36 < 4) <|bno (gix ([x7.c0,x7.c1,x7.c2,x7.c3] : List Int) x36) fun x38 =>
      bnd (!decide (x38 = x35.Value)) fun x39 =>
      bif x39 then (
        bno (app 16 v20 ([x35] : (List aT))) fun x41 =>
        bnd (IntKind.wrap .i64 (v21 + 1)) fun x42 =>
        (hG x7 x8 n0) x41 x42
      ) else (
        bnd (IntKind.wrap .i64 (v21 + 1)) fun x43 =>
        (hG x7 x8 n0) v20 x43
      )
    ) else (
      some v20
    )
def pU (a0 : bL) (a1 : bL) : Option (List aT) :=
  bno (kN a0) fun x1 =>
  bnd (!decide (x1 = 0)) fun x2 =>
  bno (gd (x2 == false) (kN a1) default) fun x3 =>
  bnd (!decide (x3 = 0)) fun x4 =>
  bnd (x2 || x4) fun x5 =>
  bif x5 then (
    some []
  ) else (
    bno (gS a0) fun x7 =>
    bno (sM a1) fun x8 =>
    hG x7 x8 fuel ([] : (List aT)) 0
  )

def jY (a0 : aD) (a1 : Int) (a2 : (List UInt8)) (a3 : Int) (a4 : (List bX)) (a5 : (List aG)) (a6 : Bool) (a7 : Bool) (a8 : Bool) (a9 : Bool) (a10 : Int) (a11 : (List UInt8)) (a12 : (List cE)) (a13 : Int) (a14 : (List UInt8)) (a15 : Int) (a16 : Int) (a17 : Bool) (a18 : Int) (a19 : Int) (a20 : (List Int)) (a21 : (List Int)) (a22 : Int) (a23 : Int) (a24 : Int) (a25 : Int) (a26 : (List bU)) (a27 : (List bZ)) (a28 : (List Int)) (a29 : (List bP)) (a30 : Bool) (a31 : Bool) (a32 : Int) (a33 : Int) (a34 : Bool) (a35 : Bool) (a36 : Int) (a37 : Int) (a38 : Bool) (a39 : Bool) (a40 : Int) (a41 : Int) (a42 : Bool) (a43 : Bool) (a44 : Int) (a45 : Int) (a46 : Int) (a47 : (List cR)) (a48 : (List bI)) (a49 : (List UInt8)) (a50 : Int) (a51 : Int) (a52 : (List UInt8)) (a53 : Int) (a54 : Int) (a55 : (List UInt8)) (a56 : Int) (a57 : Int) (a58 : (List UInt8)) (a59 : Int) (a60 : Int) (a61 : Int) (a62 : Int) (a63 : Int) (a64 : Int) (a65 : Int) (a66 : Int) (a67 : Int) (a68 : Int) (a69 : Int) (a70 : Int) (a71 : Int) (a72 : Int) (a73 : Int) (a74 : Int) (a75 : Int) (a76 : Int) (a77 : (List aM)) (a78 : (List bC)) (a79 : (List Int)) (a80 : (List aD)) (a81 : (List aM)) (a82 : (List bD)) (a83 : Int) (a84 : Int) (a85 : Int) (a86 : Int) (a87 : Int) (a88 : Bool) (a89 : Bool) (a90 : Int) (a91 : Int) (a92 : Int) (a93 : Int) (a94 : Int) (a95 : Int) : Option (Int × Int × (List UInt8) × Int × (List bX) × (List aG) × Bool × Bool × Bool × Bool × Int × (List UInt8) × (List cE) × Int × (List UInt8) × Int × Int × Bool × Int × Int × (List Int) × (List Int) × Int × Int × Int × Int × (List bU) × (List bZ) × (List Int) × (List bP) × Bool × Bool × Int × Int × Bool × Bool × Int × Int × Bool × Bool × Int × Int × Bool × Bool × Int × Int × Int × (List cR) × (List bI) × (List UInt8) × Int × Int × (List UInt8) × Int × Int × (List UInt8) × Int × Int × (List UInt8) × Int × Int × Int × Int × Int × Int × Int × Int × Int × Int × Int × Int × Int × Int × Int × Int × Int × Int × (List aM) × (List bC) × (List Int) × (List aD) × (List aM) × (List bD) × Int × Int × Int × Int × Int × Bool × Bool × Int × Int × Int × Int × Int × Int) :=
  bno (gP ((⟨(⟨a1,a2,a3,a4,a5,a6,a7,a8,a9⟩ : cJ),(⟨(⟨a10,a11,a12⟩ : cM),a13⟩ : eO),(⟨a14,a15,a16⟩ : fG)⟩ : dM)) a0) fun x1 =>
  some (x1.2,x1.1.Send.Base,x1.1.Send.Data,x1.1.Send.Next,x1.1.Send.Pieces,x1.1.Send.Lost,x1.1.Send.Closed,x1.1.Send.Sent,x1.1.Send.Again,x1.1.Send.Done,x1.1.Recv.Recv.Base,x1.1.Recv.Recv.Ready,x1.1.Recv.Recv.Parts,x1.1.Recv.End,x1.1.In.Buf,x1.1.In.Bad,x1.1.In.Seen,a17,a18,a19,a20,a21,a22,a23,a24,a25,a26,a27,a28,a29,a30,a31,a32,a33,a34,a35,a36,a37,a38,a39,a40,a41,a42,a43,a44,a45,a46,a47,a48,a49,a50,a51,a52,a53,a54,a55,a56,a57,a58,a59,a60,a61,a62,a63,a64,a65,a66,a67,a68,a69,a70,a71,a72,a73,a74,a75,a76,a77,a78,a79,a80,a81,a82,a83,a84,a85,a86,a87,a88,a89,a90,a91,a92,a93,a94,a95)

def hM (a0 : aD) (a1 : Int) (a2 : (List UInt8)) (a3 : Int) (a4 : (List bX)) (a5 : (List aG)) (a6 : Bool) (a7 : Bool) (a8 : Bool) (a9 : Bool) (a10 : Int) (a11 : (List UInt8)) (a12 : (List cE)) (a13 : Int) (a14 : (List UInt8)) (a15 : Int) (a16 : Int) (a17 : Bool) (a18 : Int) (a19 : Int) (a20 : (List Int)) (a21 : (List Int)) (a22 : Int) (a23 : Int) (a24 : Int) (a25 : Int) (a26 : (List bU)) (a27 : (List bZ)) (a28 : (List Int)) (a29 : (List bP)) (a30 : Bool) (a31 : Bool) (a32 : Int) (a33 : Int) (a34 : Bool) (a35 : Bool) (a36 : Int) (a37 : Int) (a38 : Bool) (a39 : Bool) (a40 : Int) (a41 : Int) (a42 : Bool) (a43 : Bool) (a44 : Int) (a45 : Int) (a46 : Int) (a47 : (List cR)) (a48 : (List bI)) (a49 : (List UInt8)) (a50 : Int) (a51 : Int) (a52 : (List UInt8)) (a53 : Int) (a54 : Int) (a55 : (List UInt8)) (a56 : Int) (a57 : Int) (a58 : (List UInt8)) (a59 : Int) (a60 : Int) (a61 : Int) (a62 : Int) (a63 : Int) (a64 : Int) (a65 : Int) (a66 : Int) (a67 : Int) (a68 : Int) (a69 : Int) (a70 : Int) (a71 : Int) (a72 : Int) (a73 : Int) (a74 : Int) (a75 : Int) (a76 : Int) (a77 : (List aM)) (a78 : (List bC)) (a79 : (List Int)) (a80 : (List aD)) (a81 : (List aM)) (a82 : (List bD)) (a83 : Int) (a84 : Int) (a85 : Int) (a86 : Int) (a87 : Int) (a88 : Bool) (a89 : Bool) (a90 : Int) (a91 : Int) (a92 : Int) (a93 : Int) (a94 : Int) (a95 : Int) : Option (Int × (List UInt8) × Int × (List bX) × (List aG) × Bool × Bool × Bool × Bool × Int × (List UInt8) × (List cE) × Int × (List UInt8) × Int × Int × Bool × Int × Int × (List Int) × (List Int) × Int × Int × Int × Int × (List bU) × (List bZ) × (List Int) × (List bP) × Bool × Bool × Int × Int × Bool × Bool × Int × Int × Bool × Bool × Int × Int × Bool × Bool × Int × Int × Int × (List cR) × (List bI) × (List UInt8) × Int × Int × (List UInt8) × Int × Int × (List UInt8) × Int × Int × (List UInt8) × Int × Int × Int × Int × Int × Int × Int × Int × Int × Int × Int × Int × Int × Int × Int × Int × Int × Int × (List aM) × (List bC) × (List Int) × (List aD) × (List aM) × (List bD) × Int × Int × Int × Int × Int × Bool × Bool × Int × Int × Int × Int × Int × Int) :=
  bno (jY a0 a1 a2 a3 a4 a5 a6 a7 a8 a9 a10 a11 a12 a13 a14 a15 a16 a17 a18 a19 a20 a21 a22 a23 a24 a25 a26 a27 a28 a29 a30 a31 a32 a33 a34 a35 a36 a37 a38 a39 a40 a41 a42 a43 a44 a45 a46 a47 a48 a49 a50 a51 a52 a53 a54 a55 a56 a57 a58 a59 a60 a61 a62 a63 a64 a65 a66 a67 a68 a69 a70 a71 a72 a73 a74 a75 a76 a77 a78 a79 a80 a81 a82 a83 a84 a85 a86 a87 a88 a89 a90 a91 a92 a93 a94 a95) fun x1 =>
  bnd (!decide (x1.1 = 0)) fun x2 =>
  bif x2 then (
    none
  ) else (
    some (x1.2.1,x1.2.2.1,x1.2.2.2.1,x1.2.2.2.2.1,x1.2.2.2.2.2.1,x1.2.2.2.2.2.2.1,x1.2.2.2.2.2.2.2.1,x1.2.2.2.2.2.2.2.2.1,x1.2.2.2.2.2.2.2.2.2.1,x1.2.2.2.2.2.2.2.2.2.2.1,x1.2.2.2.2.2.2.2.2.2.2.2.1,x1.2.2.2.2.2.2.2.2.2.2.2.2.1,x1.2.2.2.2.2.2.2.2.2.2.2.2.2.1,x1.2.2.2.2.2.2.2.2.2.2.2.2.2.2.1,x1.2.2.2.2.2.2.2.2.2.2.2.2.2.2.2.1,x1.2.2.2.2.2.2.2.2.2.2.2.2.2.2.2.2.1,x1.2.2.2.2.2.2.2.2.2.2.2.2.2.2.2.2.2.1,x1.2.2.2.2.2.2.2.2.2.2.2.2.2.2.2.2.2.2.1,x1.2.2.2.2.2.2.2.2.2.2.2.2.2.2.2.2.2.2.2.1,x1.2.2.2.2.2.2.2.2.2.2.2.2.2.2.2.2.2.2.2.2.1,x1.2.2.2.2.2.2.2.2.2.2.2.2.2.2.2.2.2.2.2.2.2.1,x1.2.2.2.2.2.2.2.2.2.2.2.2.2.2.2.2.2.2.2.2.2.2.1,x1.2.2.2.2.2.2.2.2.2.2.2.2.2.2.2.2.2.2.2.2.2.2.2.1,x1.2.2.2.2.2.2.2.2.2.2.2.2.2.2.2.2.2.2.2.2.2.2.2.2.1,x1.2.2.2.2.2.2.2.2.2.2.2.2.2.2.2.2.2.2.2.2.2.2.2.2.2.1,x1.2.2.2.2.2.2.2.2.2.2.2.2.2.2.2.2.2.2.2.2.2.2.2.2.2.2.1,x1.2.2.2.2.2.2.2.2.2.2.2.2.2.2.2.2.2.2.2.2.2.2.2.2.2.2.2.1,x1.2.2.2.2.2.2.2.2.2.2.2.2.2.2.2.2.2.2.2.2.2.2.2.2.2.2.2.2.1,x1.2.2.2.2.2.2.2.2.2.2.2.2.2.2.2.2.2.2.2.2.2.2.2.2.2.2.2.2.2.1,x1.2.2.2.2.2.2.2.2.2.2.2.2.2.2.2.2.2.2.2.2.2.2.2.2.2.2.2.2.2.2.1,x1.2.2.2.2.2.2.2.2.2.2.2.2.2.2.2.2.2.2.2.2.2.2.2.2.2.2.2.2.2.2.2.1,x1.2.2.2.2.2.2.2.2.2.2.2.2.2.2.2.2.2.2.2.2.2.2.2.2.2.2.2.2.2.2.2.2.1,x1.2.2.2.2.2.2.2.2.2.2.2.2.2.2.2.2.2.2.2.2.2.2.2.2.2.2.2.2.2.2.2.2.2.1,x1.2.2.2.2.2.2.2.2.2.2.2.2.2.2.2.2.2.2.2.2.2.2.2.2.2.2.2.2.2.2.2.2.2.2.1,x1.2.2.2.2.2.2.2.2.2.2.2.2.2.2.2.2.2.2.2.2.2.2.2.2.2.2.2.2.2.2.2.2.2.2.2.1,x1.2.2.2.2.2.2.2.2.2.2.2.2.2.2.2.2.2.2.2.2.2.2.2.2.2.2.2.2.2.2.2.2.2.2.2.2.1,x1.2.2.2.2.2.2.2.2.2.2.2.2.2.2.2.2.2.2.2.2.2.2.2.2.2.2.2.2.2.2.2.2.2.2.2.2.2.1,x1.2.2.2.2.2.2.2.2.2.2.2.2.2.2.2.2.2.2.2.2.2.2.2.2.2.2.2.2.2.2.2.2.2.2.2.2.2.2.1,x1.2.2.2.2.2.2.2.2.2.2.2.2.2.2.2.2.2.2.2.2.2.2.2.2.2.2.2.2.2.2.2.2.2.2.2.2.2.2.2.1,x1.2.2.2.2.2.2.2.2.2.2.2.2.2.2.2.2.2.2.2.2.2.2.2.2.2.2.2.2.2.2.2.2.2.2.2.2.2.2.2.2.1,x1.2.2.2.2.2.2.2.2.2.2.2.2.2.2.2.2.2.2.2.2.2.2.2.2.2.2.2.2.2.2.2.2.2.2.2.2.2.2.2.2.2.1,x1.2.2.2.2.2.2.2.2.2.2.2.2.2.2.2.2.2.2.2.2.2.2.2.2.2.2.2.2.2.2.2.2.2.2.2.2.2.2.2.2.2.2.1,x1.2.2.2.2.2.2.2.2.2.2.2.2.2.2.2.2.2.2.2.2.2.2.2.2.2.2.2.2.2.2.2.2.2.2.2.2.2.2.2.2.2.2.2.1,x1.2.2.2.2.2.2.2.2.2.2.2.2.2.2.2.2.2.2.2.2.2.2.2.2.2.2.2.2.2.2.2.2.2.2.2.2.2.2.2.2.2.2.2.2.1,x1.2.2.2.2.2.2.2.2.2.2.2.2.2.2.2.2.2.2.2.2.2.2.2.2.2.2.2.2.2.2.2.2.2.2.2.2.2.2.2.2.2.2.2.2.2.1,x1.2.2.2.2.2.2.2.2.2.2.2.2.2.2.2.2.2.2.2.2.2.2.2.2.2.2.2.2.2.2.2.2.2.2.2.2.2.2.2.2.2.2.2.2.2.2.1,x1.2.2.2.2.2.2.2.2.2.2.2.2.2.2.2.2.2.2.2.2.2.2.2.2.2.2.2.2.2.2.2.2.2.2.2.2.2.2.2.2.2.2.2.2.2.2.2.1,x1.2.2.2.2.2.2.2.2.2.2.2.2.2.2.2.2.2.2.2.2.2.2.2.2.2.2.2.2.2.2.2.2.2.2.2.2.2.2.2.2.2.2.2.2.2.2.2.2.1,x1.2.2.2.2.2.2.2.2.2.2.2.2.2.2.2.2.2.2.2.2.2.2.2.2.2.2.2.2.2.2.2.2.2.2.2.2.2.2.2.2.2.2.2.2.2.2.2.2.2.1,x1.2.2.2.2.2.2.2.2.2.2.2.2.2.2.2.2.2.2.2.2.2.2.2.2.2.2.2.2.2.2.2.2.2.2.2.2.2.2.2.2.2.2.2.2.2.2.2.2.2.2.1,x1.2.2.2.2.2.2.2.2.2.2.2.2.2.2.2.2.2.2.2.2.2.2.2.2.2.2.2.2.2.2.2.2.2.2.2.2.2.2.2.2.2.2.2.2.2.2.2.2.2.2.2.1,x1.2.2.2.2.2.2.2.2.2.2.2.2.2.2.2.2.2.2.2.2.2.2.2.2.2.2.2.2.2.2.2.2.2.2.2.2.2.2.2.2.2.2.2.2.2.2.2.2.2.2.2.2.1,x1.2.2.2.2.2.2.2.2.2.2.2.2.2.2.2.2.2.2.2.2.2.2.2.2.2.2.2.2.2.2.2.2.2.2.2.2.2.2.2.2.2.2.2.2.2.2.2.2.2.2.2.2.2.1,x1.2.2.2.2.2.2.2.2.2.2.2.2.2.2.2.2.2.2.2.2.2.2.2.2.2.2.2.2.2.2.2.2.2.2.2.2.2.2.2.2.2.2.2.2.2.2.2.2.2.2.2.2.2.2.1,x1.2.2.2.2.2.2.2.2.2.2.2.2.2.2.2.2.2.2.2.2.2.2.2.2.2.2.2.2.2.2.2.2.2.2.2.2.2.2.2.2.2.2.2.2.2.2.2.2.2.2.2.2.2.2.2.1,x1.2.2.2.2.2.2.2.2.2.2.2.2.2.2.2.2.2.2.2.2.2.2.2.2.2.2.2.2.2.2.2.2.2.2.2.2.2.2.2.2.2.2.2.2.2.2.2.2.2.2.2.2.2.2.2.2.1,x1.2.2.2.2.2.2.2.2.2.2.2.2.2.2.2.2.2.2.2.2.2.2.2.2.2.2.2.2.2.2.2.2.2.2.2.2.2.2.2.2.2.2.2.2.2.2.2.2.2.2.2.2.2.2.2.2.2.1,x1.2.2.2.2.2.2.2.2.2.2.2.2.2.2.2.2.2.2.2.2.2.2.2.2.2.2.2.2.2.2.2.2.2.2.2.2.2.2.2.2.2.2.2.2.2.2.2.2.2.2.2.2.2.2.2.2.2.2.1,x1.2.2.2.2.2.2.2.2.2.2.2.2.2.2.2.2.2.2.2.2.2.2.2.2.2.2.2.2.2.2.2.2.2.2.2.2.2.2.2.2.2.2.2.2.2.2.2.2.2.2.2.2.2.2.2.2.2.2.2.1,x1.2.2.2.2.2.2.2.2.2.2.2.2.2.2.2.2.2.2.2.2.2.2.2.2.2.2.2.2.2.2.2.2.2.2.2.2.2.2.2.2.2.2.2.2.2.2.2.2.2.2.2.2.2.2.2.2.2.2.2.2.1,x1.2.2.2.2.2.2.2.2.2.2.2.2.2.2.2.2.2.2.2.2.2.2.2.2.2.2.2.2.2.2.2.2.2.2.2.2.2.2.2.2.2.2.2.2.2.2.2.2.2.2.2.2.2.2.2.2.2.2.2.2.2.1,x1.2.2.2.2.2.2.2.2.2.2.2.2.2.2.2.2.2.2.2.2.2.2.2.2.2.2.2.2.2.2.2.2.2.2.2.2.2.2.2.2.2.2.2.2.2.2.2.2.2.2.2.2.2.2.2.2.2.2.2.2.2.2.1,x1.2.2.2.2.2.2.2.2.2.2.2.2.2.2.2.2.2.2.2.2.2.2.2.2.2.2.2.2.2.2.2.2.2.2.2.2.2.2.2.2.2.2.2.2.2.2.2.2.2.2.2.2.2.2.2.2.2.2.2.2.2.2.2.1,x1.2.2.2.2.2.2.2.2.2.2.2.2.2.2.2.2.2.2.2.2.2.2.2.2.2.2.2.2.2.2.2.2.2.2.2.2.2.2.2.2.2.2.2.2.2.2.2.2.2.2.2.2.2.2.2.2.2.2.2.2.2.2.2.2.1,x1.2.2.2.2.2.2.2.2.2.2.2.2.2.2.2.2.2.2.2.2.2.2.2.2.2.2.2.2.2.2.2.2.2.2.2.2.2.2.2.2.2.2.2.2.2.2.2.2.2.2.2.2.2.2.2.2.2.2.2.2.2.2.2.2.2.1,x1.2.2.2.2.2.2.2.2.2.2.2.2.2.2.2.2.2.2.2.2.2.2.2.2.2.2.2.2.2.2.2.2.2.2.2.2.2.2.2.2.2.2.2.2.2.2.2.2.2.2.2.2.2.2.2.2.2.2.2.2.2.2.2.2.2.2.1,x1.2.2.2.2.2.2.2.2.2.2.2.2.2.2.2.2.2.2.2.2.2.2.2.2.2.2.2.2.2.2.2.2.2.2.2.2.2.2.2.2.2.2.2.2.2.2.2.2.2.2.2.2.2.2.2.2.2.2.2.2.2.2.2.2.2.2.2.1,x1.2.2.2.2.2.2.2.2.2.2.2.2.2.2.2.2.2.2.2.2.2.2.2.2.2.2.2.2.2.2.2.2.2.2.2.2.2.2.2.2.2.2.2.2.2.2.2.2.2.2.2.2.2.2.2.2.2.2.2.2.2.2.2.2.2.2.2.2.1,x1.2.2.2.2.2.2.2.2.2.2.2.2.2.2.2.2.2.2.2.2.2.2.2.2.2.2.2.2.2.2.2.2.2.2.2.2.2.2.2.2.2.2.2.2.2.2.2.2.2.2.2.2.2.2.2.2.2.2.2.2.2.2.2.2.2.2.2.2.2.1,x1.2.2.2.2.2.2.2.2.2.2.2.2.2.2.2.2.2.2.2.2.2.2.2.2.2.2.2.2.2.2.2.2.2.2.2.2.2.2.2.2.2.2.2.2.2.2.2.2.2.2.2.2.2.2.2.2.2.2.2.2.2.2.2.2.2.2.2.2.2.2.1,x1.2.2.2.2.2.2.2.2.2.2.2.2.2.2.2.2.2.2.2.2.2.2.2.2.2.2.2.2.2.2.2.2.2.2.2.2.2.2.2.2.2.2.2.2.2.2.2.2.2.2.2.2.2.2.2.2.2.2.2.2.2.2.2.2.2.2.2.2.2.2.2.1,x1.2.2.2.2.2.2.2.2.2.2.2.2.2.2.2.2.2.2.2.2.2.2.2.2.2.2.2.2.2.2.2.2.2.2.2.2.2.2.2.2.2.2.2.2.2.2.2.2.2.2.2.2.2.2.2.2.2.2.2.2.2.2.2.2.2.2.2.2.2.2.2.2.1,x1.2.2.2.2.2.2.2.2.2.2.2.2.2.2.2.2.2.2.2.2.2.2.2.2.2.2.2.2.2.2.2.2.2.2.2.2.2.2.2.2.2.2.2.2.2.2.2.2.2.2.2.2.2.2.2.2.2.2.2.2.2.2.2.2.2.2.2.2.2.2.2.2.2.1,x1.2.2.2.2.2.2.2.2.2.2.2.2.2.2.2.2.2.2.2.2.2.2.2.2.2.2.2.2.2.2.2.2.2.2.2.2.2.2.2.2.2.2.2.2.2.2.2.2.2.2.2.2.2.2.2.2.2.2.2.2.2.2.2.2.2.2.2.2.2.2.2.2.2.2.1,x1.2.2.2.2.2.2.2.2.2.2.2.2.2.2.2.2.2.2.2.2.2.2.2.2.2.2.2.2.2.2.2.2.2.2.2.2.2.2.2.2.2.2.2.2.2.2.2.2.2.2.2.2.2.2.2.2.2.2.2.2.2.2.2.2.2.2.2.2.2.2.2.2.2.2.2.1,x1.2.2.2.2.2.2.2.2.2.2.2.2.2.2.2.2.2.2.2.2.2.2.2.2.2.2.2.2.2.2.2.2.2.2.2.2.2.2.2.2.2.2.2.2.2.2.2.2.2.2.2.2.2.2.2.2.2.2.2.2.2.2.2.2.2.2.2.2.2.2.2.2.2.2.2.2.1,x1.2.2.2.2.2.2.2.2.2.2.2.2.2.2.2.2.2.2.2.2.2.2.2.2.2.2.2.2.2.2.2.2.2.2.2.2.2.2.2.2.2.2.2.2.2.2.2.2.2.2.2.2.2.2.2.2.2.2.2.2.2.2.2.2.2.2.2.2.2.2.2.2.2.2.2.2.2.1,x1.2.2.2.2.2.2.2.2.2.2.2.2.2.2.2.2.2.2.2.2.2.2.2.2.2.2.2.2.2.2.2.2.2.2.2.2.2.2.2.2.2.2.2.2.2.2.2.2.2.2.2.2.2.2.2.2.2.2.2.2.2.2.2.2.2.2.2.2.2.2.2.2.2.2.2.2.2.2.1,x1.2.2.2.2.2.2.2.2.2.2.2.2.2.2.2.2.2.2.2.2.2.2.2.2.2.2.2.2.2.2.2.2.2.2.2.2.2.2.2.2.2.2.2.2.2.2.2.2.2.2.2.2.2.2.2.2.2.2.2.2.2.2.2.2.2.2.2.2.2.2.2.2.2.2.2.2.2.2.2.1,x1.2.2.2.2.2.2.2.2.2.2.2.2.2.2.2.2.2.2.2.2.2.2.2.2.2.2.2.2.2.2.2.2.2.2.2.2.2.2.2.2.2.2.2.2.2.2.2.2.2.2.2.2.2.2.2.2.2.2.2.2.2.2.2.2.2.2.2.2.2.2.2.2.2.2.2.2.2.2.2.2.1,x1.2.2.2.2.2.2.2.2.2.2.2.2.2.2.2.2.2.2.2.2.2.2.2.2.2.2.2.2.2.2.2.2.2.2.2.2.2.2.2.2.2.2.2.2.2.2.2.2.2.2.2.2.2.2.2.2.2.2.2.2.2.2.2.2.2.2.2.2.2.2.2.2.2.2.2.2.2.2.2.2.2.1,x1.2.2.2.2.2.2.2.2.2.2.2.2.2.2.2.2.2.2.2.2.2.2.2.2.2.2.2.2.2.2.2.2.2.2.2.2.2.2.2.2.2.2.2.2.2.2.2.2.2.2.2.2.2.2.2.2.2.2.2.2.2.2.2.2.2.2.2.2.2.2.2.2.2.2.2.2.2.2.2.2.2.2.1,x1.2.2.2.2.2.2.2.2.2.2.2.2.2.2.2.2.2.2.2.2.2.2.2.2.2.2.2.2.2.2.2.2.2.2.2.2.2.2.2.2.2.2.2.2.2.2.2.2.2.2.2.2.2.2.2.2.2.2.2.2.2.2.2.2.2.2.2.2.2.2.2.2.2.2.2.2.2.2.2.2.2.2.2.1,x1.2.2.2.2.2.2.2.2.2.2.2.2.2.2.2.2.2.2.2.2.2.2.2.2.2.2.2.2.2.2.2.2.2.2.2.2.2.2.2.2.2.2.2.2.2.2.2.2.2.2.2.2.2.2.2.2.2.2.2.2.2.2.2.2.2.2.2.2.2.2.2.2.2.2.2.2.2.2.2.2.2.2.2.2.1,x1.2.2.2.2.2.2.2.2.2.2.2.2.2.2.2.2.2.2.2.2.2.2.2.2.2.2.2.2.2.2.2.2.2.2.2.2.2.2.2.2.2.2.2.2.2.2.2.2.2.2.2.2.2.2.2.2.2.2.2.2.2.2.2.2.2.2.2.2.2.2.2.2.2.2.2.2.2.2.2.2.2.2.2.2.2.1,x1.2.2.2.2.2.2.2.2.2.2.2.2.2.2.2.2.2.2.2.2.2.2.2.2.2.2.2.2.2.2.2.2.2.2.2.2.2.2.2.2.2.2.2.2.2.2.2.2.2.2.2.2.2.2.2.2.2.2.2.2.2.2.2.2.2.2.2.2.2.2.2.2.2.2.2.2.2.2.2.2.2.2.2.2.2.2.1,x1.2.2.2.2.2.2.2.2.2.2.2.2.2.2.2.2.2.2.2.2.2.2.2.2.2.2.2.2.2.2.2.2.2.2.2.2.2.2.2.2.2.2.2.2.2.2.2.2.2.2.2.2.2.2.2.2.2.2.2.2.2.2.2.2.2.2.2.2.2.2.2.2.2.2.2.2.2.2.2.2.2.2.2.2.2.2.2.1,x1.2.2.2.2.2.2.2.2.2.2.2.2.2.2.2.2.2.2.2.2.2.2.2.2.2.2.2.2.2.2.2.2.2.2.2.2.2.2.2.2.2.2.2.2.2.2.2.2.2.2.2.2.2.2.2.2.2.2.2.2.2.2.2.2.2.2.2.2.2.2.2.2.2.2.2.2.2.2.2.2.2.2.2.2.2.2.2.2.1,x1.2.2.2.2.2.2.2.2.2.2.2.2.2.2.2.2.2.2.2.2.2.2.2.2.2.2.2.2.2.2.2.2.2.2.2.2.2.2.2.2.2.2.2.2.2.2.2.2.2.2.2.2.2.2.2.2.2.2.2.2.2.2.2.2.2.2.2.2.2.2.2.2.2.2.2.2.2.2.2.2.2.2.2.2.2.2.2.2.2.1,x1.2.2.2.2.2.2.2.2.2.2.2.2.2.2.2.2.2.2.2.2.2.2.2.2.2.2.2.2.2.2.2.2.2.2.2.2.2.2.2.2.2.2.2.2.2.2.2.2.2.2.2.2.2.2.2.2.2.2.2.2.2.2.2.2.2.2.2.2.2.2.2.2.2.2.2.2.2.2.2.2.2.2.2.2.2.2.2.2.2.2.1,x1.2.2.2.2.2.2.2.2.2.2.2.2.2.2.2.2.2.2.2.2.2.2.2.2.2.2.2.2.2.2.2.2.2.2.2.2.2.2.2.2.2.2.2.2.2.2.2.2.2.2.2.2.2.2.2.2.2.2.2.2.2.2.2.2.2.2.2.2.2.2.2.2.2.2.2.2.2.2.2.2.2.2.2.2.2.2.2.2.2.2.2.1,x1.2.2.2.2.2.2.2.2.2.2.2.2.2.2.2.2.2.2.2.2.2.2.2.2.2.2.2.2.2.2.2.2.2.2.2.2.2.2.2.2.2.2.2.2.2.2.2.2.2.2.2.2.2.2.2.2.2.2.2.2.2.2.2.2.2.2.2.2.2.2.2.2.2.2.2.2.2.2.2.2.2.2.2.2.2.2.2.2.2.2.2.2.1,x1.2.2.2.2.2.2.2.2.2.2.2.2.2.2.2.2.2.2.2.2.2.2.2.2.2.2.2.2.2.2.2.2.2.2.2.2.2.2.2.2.2.2.2.2.2.2.2.2.2.2.2.2.2.2.2.2.2.2.2.2.2.2.2.2.2.2.2.2.2.2.2.2.2.2.2.2.2.2.2.2.2.2.2.2.2.2.2.2.2.2.2.2.2.1,x1.2.2.2.2.2.2.2.2.2.2.2.2.2.2.2.2.2.2.2.2.2.2.2.2.2.2.2.2.2.2.2.2.2.2.2.2.2.2.2.2.2.2.2.2.2.2.2.2.2.2.2.2.2.2.2.2.2.2.2.2.2.2.2.2.2.2.2.2.2.2.2.2.2.2.2.2.2.2.2.2.2.2.2.2.2.2.2.2.2.2.2.2.2.2.1,x1.2.2.2.2.2.2.2.2.2.2.2.2.2.2.2.2.2.2.2.2.2.2.2.2.2.2.2.2.2.2.2.2.2.2.2.2.2.2.2.2.2.2.2.2.2.2.2.2.2.2.2.2.2.2.2.2.2.2.2.2.2.2.2.2.2.2.2.2.2.2.2.2.2.2.2.2.2.2.2.2.2.2.2.2.2.2.2.2.2.2.2.2.2.2.2)
  )

def vQ  : Option oM :=
  some (⟨[],(-1),0⟩ : oM)

def fS (a0 : aD) (a1 : Int) (a2 : (List UInt8)) (a3 : Int) (a4 : (List bX)) (a5 : (List aG)) (a6 : Bool) (a7 : Bool) (a8 : Bool) (a9 : Bool) (a10 : Int) (a11 : (List UInt8)) (a12 : (List cE)) (a13 : Int) (a14 : (List UInt8)) (a15 : Int) (a16 : Int) (a17 : Bool) (a18 : Int) (a19 : Int) (a20 : (List Int)) (a21 : (List Int)) (a22 : Int) (a23 : Int) (a24 : Int) (a25 : Int) (a26 : (List bU)) (a27 : (List bZ)) (a28 : (List Int)) (a29 : (List bP)) (a30 : Bool) (a31 : Bool) (a32 : Int) (a33 : Int) (a34 : Bool) (a35 : Bool) (a36 : Int) (a37 : Int) (a38 : Bool) (a39 : Bool) (a40 : Int) (a41 : Int) (a42 : Bool) (a43 : Bool) (a44 : Int) (a45 : Int) (a46 : Int) (a47 : (List cR)) (a48 : (List bI)) (a49 : (List UInt8)) (a50 : Int) (a51 : Int) (a52 : (List UInt8)) (a53 : Int) (a54 : Int) (a55 : (List UInt8)) (a56 : Int) (a57 : Int) (a58 : (List UInt8)) (a59 : Int) (a60 : Int) (a61 : Int) (a62 : Int) (a63 : Int) (a64 : Int) (a65 : Int) (a66 : Int) (a67 : Int) (a68 : Int) (a69 : Int) (a70 : Int) (a71 : Int) (a72 : Int) (a73 : Int) (a74 : Int) (a75 : Int) (a76 : Int) (a77 : (List aM)) (a78 : (List bC)) (a79 : (List Int)) (a80 : (List aD)) (a81 : (List aM)) (a82 : (List bD)) (a83 : Int) (a84 : Int) (a85 : Int) (a86 : Int) (a87 : Int) (a88 : Bool) (a89 : Bool) (a90 : Int) (a91 : Int) (a92 : Int) (a93 : Int) (a94 : Int) (a95 : Int) (a96 : Int) (a97 : Int) (a98 : (List fY)) (a99 : Int) (a100 : Int) (a101 : (List dA)) (a102 : Int) (a103 : (List Int)) : Option (Int × Int × (List UInt8) × Int × (List bX) × (List aG) × Bool × Bool × Bool × Bool × Int × (List UInt8) × (List cE) × Int × (List UInt8) × Int × Int × Bool × Int × Int × (List Int) × (List Int) × Int × Int × Int × Int × (List bU) × (List bZ) × (List Int) × (List bP) × Bool × Bool × Int × Int × Bool × Bool × Int × Int × Bool × Bool × Int × Int × Bool × Bool × Int × Int × Int × (List cR) × (List bI) × (List UInt8) × Int × Int × (List UInt8) × Int × Int × (List UInt8) × Int × Int × (List UInt8) × Int × Int × Int × Int × Int × Int × Int × Int × Int × Int × Int × Int × Int × Int × Int × Int × Int × Int × (List aM) × (List bC) × (List Int) × (List aD) × (List aM) × (List bD) × Int × Int × Int × Int × Int × Bool × Bool × Int × Int × Int × Int × Int × Int) :=
  bno (gP ((⟨(⟨a1,a2,a3,a4,a5,a6,a7,a8,a9⟩ : cJ),(⟨(⟨a10,a11,a12⟩ : cM),a13⟩ : eO),(⟨a14,a15,a16⟩ : fG)⟩ : dM)) a0) fun x1 =>
  some (x1.2,x1.1.Send.Base,x1.1.Send.Data,x1.1.Send.Next,x1.1.Send.Pieces,x1.1.Send.Lost,x1.1.Send.Closed,x1.1.Send.Sent,x1.1.Send.Again,x1.1.Send.Done,x1.1.Recv.Recv.Base,x1.1.Recv.Recv.Ready,x1.1.Recv.Recv.Parts,x1.1.Recv.End,x1.1.In.Buf,x1.1.In.Bad,x1.1.In.Seen,a17,a18,a19,a20,a21,a22,a23,a24,a25,a26,a27,a28,a29,a30,a31,a32,a33,a34,a35,a36,a37,a38,a39,a40,a41,a42,a43,a44,a45,a46,a47,a48,a49,a50,a51,a52,a53,a54,a55,a56,a57,a58,a59,a60,a61,a62,a63,a64,a65,a66,a67,a68,a69,a70,a71,a72,a73,a74,a75,a76,a77,a78,a79,a80,a81,a82,a83,a84,a85,a86,a87,a88,a89,a90,a91,a92,a93,a94,a95)

def eH (a0 : aD) (a1 : Int) (a2 : (List UInt8)) (a3 : Int) (a4 : (List bX)) (a5 : (List aG)) (a6 : Bool) (a7 : Bool) (a8 : Bool) (a9 : Bool) (a10 : Int) (a11 : (List UInt8)) (a12 : (List cE)) (a13 : Int) (a14 : (List UInt8)) (a15 : Int) (a16 : Int) (a17 : Bool) (a18 : Int) (a19 : Int) (a20 : (List Int)) (a21 : (List Int)) (a22 : Int) (a23 : Int) (a24 : Int) (a25 : Int) (a26 : (List bU)) (a27 : (List bZ)) (a28 : (List Int)) (a29 : (List bP)) (a30 : Bool) (a31 : Bool) (a32 : Int) (a33 : Int) (a34 : Bool) (a35 : Bool) (a36 : Int) (a37 : Int) (a38 : Bool) (a39 : Bool) (a40 : Int) (a41 : Int) (a42 : Bool) (a43 : Bool) (a44 : Int) (a45 : Int) (a46 : Int) (a47 : (List cR)) (a48 : (List bI)) (a49 : (List UInt8)) (a50 : Int) (a51 : Int) (a52 : (List UInt8)) (a53 : Int) (a54 : Int) (a55 : (List UInt8)) (a56 : Int) (a57 : Int) (a58 : (List UInt8)) (a59 : Int) (a60 : Int) (a61 : Int) (a62 : Int) (a63 : Int) (a64 : Int) (a65 : Int) (a66 : Int) (a67 : Int) (a68 : Int) (a69 : Int) (a70 : Int) (a71 : Int) (a72 : Int) (a73 : Int) (a74 : Int) (a75 : Int) (a76 : Int) (a77 : (List aM)) (a78 : (List bC)) (a79 : (List Int)) (a80 : (List aD)) (a81 : (List aM)) (a82 : (List bD)) (a83 : Int) (a84 : Int) (a85 : Int) (a86 : Int) (a87 : Int) (a88 : Bool) (a89 : Bool) (a90 : Int) (a91 : Int) (a92 : Int) (a93 : Int) (a94 : Int) (a95 : Int) (a96 : Int) (a97 : Int) (a98 : (List fY)) (a99 : Int) (a100 : Int) (a101 : (List dA)) (a102 : Int) (a103 : (List Int)) : Option (Int × (List UInt8) × Int × (List bX) × (List aG) × Bool × Bool × Bool × Bool × Int × (List UInt8) × (List cE) × Int × (List UInt8) × Int × Int × Bool × Int × Int × (List Int) × (List Int) × Int × Int × Int × Int × (List bU) × (List bZ) × (List Int) × (List bP) × Bool × Bool × Int × Int × Bool × Bool × Int × Int × Bool × Bool × Int × Int × Bool × Bool × Int × Int × Int × (List cR) × (List bI) × (List UInt8) × Int × Int × (List UInt8) × Int × Int × (List UInt8) × Int × Int × (List UInt8) × Int × Int × Int × Int × Int × Int × Int × Int × Int × Int × Int × Int × Int × Int × Int × Int × Int × Int × (List aM) × (List bC) × (List Int) × (List aD) × (List aM) × (List bD) × Int × Int × Int × Int × Int × Bool × Bool × Int × Int × Int × Int × Int × Int) :=
  bno (fS a0 a1 a2 a3 a4 a5 a6 a7 a8 a9 a10 a11 a12 a13 a14 a15 a16 a17 a18 a19 a20 a21 a22 a23 a24 a25 a26 a27 a28 a29 a30 a31 a32 a33 a34 a35 a36 a37 a38 a39 a40 a41 a42 a43 a44 a45 a46 a47 a48 a49 a50 a51 a52 a53 a54 a55 a56 a57 a58 a59 a60 a61 a62 a63 a64 a65 a66 a67 a68 a69 a70 a71 a72 a73 a74 a75 a76 a77 a78 a79 a80 a81 a82 a83 a84 a85 a86 a87 a88 a89 a90 a91 a92 a93 a94 a95 a96 a97 a98 a99 a100 a101 a102 a103) fun x1 =>
  bnd (!decide (x1.1 = 0)) fun x2 =>
  bif x2 then (
    none
  ) else (
    some (x1.2.1,x1.2.2.1,x1.2.2.2.1,x1.2.2.2.2.1,x1.2.2.2.2.2.1,x1.2.2.2.2.2.2.1,x1.2.2.2.2.2.2.2.1,x1.2.2.2.2.2.2.2.2.1,x1.2.2.2.2.2.2.2.2.2.1,x1.2.2.2.2.2.2.2.2.2.2.1,x1.2.2.2.2.2.2.2.2.2.2.2.1,x1.2.2.2.2.2.2.2.2.2.2.2.2.1,x1.2.2.2.2.2.2.2.2.2.2.2.2.2.1,x1.2.2.2.2.2.2.2.2.2.2.2.2.2.2.1,x1.2.2.2.2.2.2.2.2.2.2.2.2.2.2.2.1,x1.2.2.2.2.2.2.2.2.2.2.2.2.2.2.2.2.1,x1.2.2.2.2.2.2.2.2.2.2.2.2.2.2.2.2.2.1,x1.2.2.2.2.2.2.2.2.2.2.2.2.2.2.2.2.2.2.1,x1.2.2.2.2.2.2.2.2.2.2.2.2.2.2.2.2.2.2.2.1,x1.2.2.2.2.2.2.2.2.2.2.2.2.2.2.2.2.2.2.2.2.1,x1.2.2.2.2.2.2.2.2.2.2.2.2.2.2.2.2.2.2.2.2.2.1,x1.2.2.2.2.2.2.2.2.2.2.2.2.2.2.2.2.2.2.2.2.2.2.1,x1.2.2.2.2.2.2.2.2.2.2.2.2.2.2.2.2.2.2.2.2.2.2.2.1,x1.2.2.2.2.2.2.2.2.2.2.2.2.2.2.2.2.2.2.2.2.2.2.2.2.1,x1.2.2.2.2.2.2.2.2.2.2.2.2.2.2.2.2.2.2.2.2.2.2.2.2.2.1,x1.2.2.2.2.2.2.2.2.2.2.2.2.2.2.2.2.2.2.2.2.2.2.2.2.2.2.1,x1.2.2.2.2.2.2.2.2.2.2.2.2.2.2.2.2.2.2.2.2.2.2.2.2.2.2.2.1,x1.2.2.2.2.2.2.2.2.2.2.2.2.2.2.2.2.2.2.2.2.2.2.2.2.2.2.2.2.1,x1.2.2.2.2.2.2.2.2.2.2.2.2.2.2.2.2.2.2.2.2.2.2.2.2.2.2.2.2.2.1,x1.2.2.2.2.2.2.2.2.2.2.2.2.2.2.2.2.2.2.2.2.2.2.2.2.2.2.2.2.2.2.1,x1.2.2.2.2.2.2.2.2.2.2.2.2.2.2.2.2.2.2.2.2.2.2.2.2.2.2.2.2.2.2.2.1,x1.2.2.2.2.2.2.2.2.2.2.2.2.2.2.2.2.2.2.2.2.2.2.2.2.2.2.2.2.2.2.2.2.1,x1.2.2.2.2.2.2.2.2.2.2.2.2.2.2.2.2.2.2.2.2.2.2.2.2.2.2.2.2.2.2.2.2.2.1,x1.2.2.2.2.2.2.2.2.2.2.2.2.2.2.2.2.2.2.2.2.2.2.2.2.2.2.2.2.2.2.2.2.2.2.1,x1.2.2.2.2.2.2.2.2.2.2.2.2.2.2.2.2.2.2.2.2.2.2.2.2.2.2.2.2.2.2.2.2.2.2.2.1,x1.2.2.2.2.2.2.2.2.2.2.2.2.2.2.2.2.2.2.2.2.2.2.2.2.2.2.2.2.2.2.2.2.2.2.2.2.1,x1.2.2.2.2.2.2.2.2.2.2.2.2.2.2.2.2.2.2.2.2.2.2.2.2.2.2.2.2.2.2.2.2.2.2.2.2.2.1,x1.2.2.2.2.2.2.2.2.2.2.2.2.2.2.2.2.2.2.2.2.2.2.2.2.2.2.2.2.2.2.2.2.2.2.2.2.2.2.1,x1.2.2.2.2.2.2.2.2.2.2.2.2.2.2.2.2.2.2.2.2.2.2.2.2.2.2.2.2.2.2.2.2.2.2.2.2.2.2.2.1,x1.2.2.2.2.2.2.2.2.2.2.2.2.2.2.2.2.2.2.2.2.2.2.2.2.2.2.2.2.2.2.2.2.2.2.2.2.2.2.2.2.1,x1.2.2.2.2.2.2.2.2.2.2.2.2.2.2.2.2.2.2.2.2.2.2.2.2.2.2.2.2.2.2.2.2.2.2.2.2.2.2.2.2.2.1,x1.2.2.2.2.2.2.2.2.2.2.2.2.2.2.2.2.2.2.2.2.2.2.2.2.2.2.2.2.2.2.2.2.2.2.2.2.2.2.2.2.2.2.1,x1.2.2.2.2.2.2.2.2.2.2.2.2.2.2.2.2.2.2.2.2.2.2.2.2.2.2.2.2.2.2.2.2.2.2.2.2.2.2.2.2.2.2.2.1,x1.2.2.2.2.2.2.2.2.2.2.2.2.2.2.2.2.2.2.2.2.2.2.2.2.2.2.2.2.2.2.2.2.2.2.2.2.2.2.2.2.2.2.2.2.1,x1.2.2.2.2.2.2.2.2.2.2.2.2.2.2.2.2.2.2.2.2.2.2.2.2.2.2.2.2.2.2.2.2.2.2.2.2.2.2.2.2.2.2.2.2.2.1,x1.2.2.2.2.2.2.2.2.2.2.2.2.2.2.2.2.2.2.2.2.2.2.2.2.2.2.2.2.2.2.2.2.2.2.2.2.2.2.2.2.2.2.2.2.2.2.1,x1.2.2.2.2.2.2.2.2.2.2.2.2.2.2.2.2.2.2.2.2.2.2.2.2.2.2.2.2.2.2.2.2.2.2.2.2.2.2.2.2.2.2.2.2.2.2.2.1,x1.2.2.2.2.2.2.2.2.2.2.2.2.2.2.2.2.2.2.2.2.2.2.2.2.2.2.2.2.2.2.2.2.2.2.2.2.2.2.2.2.2.2.2.2.2.2.2.2.1,x1.2.2.2.2.2.2.2.2.2.2.2.2.2.2.2.2.2.2.2.2.2.2.2.2.2.2.2.2.2.2.2.2.2.2.2.2.2.2.2.2.2.2.2.2.2.2.2.2.2.1,x1.2.2.2.2.2.2.2.2.2.2.2.2.2.2.2.2.2.2.2.2.2.2.2.2.2.2.2.2.2.2.2.2.2.2.2.2.2.2.2.2.2.2.2.2.2.2.2.2.2.2.1,x1.2.2.2.2.2.2.2.2.2.2.2.2.2.2.2.2.2.2.2.2.2.2.2.2.2.2.2.2.2.2.2.2.2.2.2.2.2.2.2.2.2.2.2.2.2.2.2.2.2.2.2.1,x1.2.2.2.2.2.2.2.2.2.2.2.2.2.2.2.2.2.2.2.2.2.2.2.2.2.2.2.2.2.2.2.2.2.2.2.2.2.2.2.2.2.2.2.2.2.2.2.2.2.2.2.2.1,x1.2.2.2.2.2.2.2.2.2.2.2.2.2.2.2.2.2.2.2.2.2.2.2.2.2.2.2.2.2.2.2.2.2.2.2.2.2.2.2.2.2.2.2.2.2.2.2.2.2.2.2.2.2.1,x1.2.2.2.2.2.2.2.2.2.2.2.2.2.2.2.2.2.2.2.2.2.2.2.2.2.2.2.2.2.2.2.2.2.2.2.2.2.2.2.2.2.2.2.2.2.2.2.2.2.2.2.2.2.2.1,x1.2.2.2.2.2.2.2.2.2.2.2.2.2.2.2.2.2.2.2.2.2.2.2.2.2.2.2.2.2.2.2.2.2.2.2.2.2.2.2.2.2.2.2.2.2.2.2.2.2.2.2.2.2.2.2.1,x1.2.2.2.2.2.2.2.2.2.2.2.2.2.2.2.2.2.2.2.2.2.2.2.2.2.2.2.2.2.2.2.2.2.2.2.2.2.2.2.2.2.2.2.2.2.2.2.2.2.2.2.2.2.2.2.2.1,x1.2.2.2.2.2.2.2.2.2.2.2.2.2.2.2.2.2.2.2.2.2.2.2.2.2.2.2.2.2.2.2.2.2.2.2.2.2.2.2.2.2.2.2.2.2.2.2.2.2.2.2.2.2.2.2.2.2.1,x1.2.2.2.2.2.2.2.2.2.2.2.2.2.2.2.2.2.2.2.2.2.2.2.2.2.2.2.2.2.2.2.2.2.2.2.2.2.2.2.2.2.2.2.2.2.2.2.2.2.2.2.2.2.2.2.2.2.2.1,x1.2.2.2.2.2.2.2.2.2.2.2.2.2.2.2.2.2.2.2.2.2.2.2.2.2.2.2.2.2.2.2.2.2.2.2.2.2.2.2.2.2.2.2.2.2.2.2.2.2.2.2.2.2.2.2.2.2.2.2.1,x1.2.2.2.2.2.2.2.2.2.2.2.2.2.2.2.2.2.2.2.2.2.2.2.2.2.2.2.2.2.2.2.2.2.2.2.2.2.2.2.2.2.2.2.2.2.2.2.2.2.2.2.2.2.2.2.2.2.2.2.2.1,x1.2.2.2.2.2.2.2.2.2.2.2.2.2.2.2.2.2.2.2.2.2.2.2.2.2.2.2.2.2.2.2.2.2.2.2.2.2.2.2.2.2.2.2.2.2.2.2.2.2.2.2.2.2.2.2.2.2.2.2.2.2.1,x1.2.2.2.2.2.2.2.2.2.2.2.2.2.2.2.2.2.2.2.2.2.2.2.2.2.2.2.2.2.2.2.2.2.2.2.2.2.2.2.2.2.2.2.2.2.2.2.2.2.2.2.2.2.2.2.2.2.2.2.2.2.2.1,x1.2.2.2.2.2.2.2.2.2.2.2.2.2.2.2.2.2.2.2.2.2.2.2.2.2.2.2.2.2.2.2.2.2.2.2.2.2.2.2.2.2.2.2.2.2.2.2.2.2.2.2.2.2.2.2.2.2.2.2.2.2.2.2.1,x1.2.2.2.2.2.2.2.2.2.2.2.2.2.2.2.2.2.2.2.2.2.2.2.2.2.2.2.2.2.2.2.2.2.2.2.2.2.2.2.2.2.2.2.2.2.2.2.2.2.2.2.2.2.2.2.2.2.2.2.2.2.2.2.2.1,x1.2.2.2.2.2.2.2.2.2.2.2.2.2.2.2.2.2.2.2.2.2.2.2.2.2.2.2.2.2.2.2.2.2.2.2.2.2.2.2.2.2.2.2.2.2.2.2.2.2.2.2.2.2.2.2.2.2.2.2.2.2.2.2.2.2.1,x1.2.2.2.2.2.2.2.2.2.2.2.2.2.2.2.2.2.2.2.2.2.2.2.2.2.2.2.2.2.2.2.2.2.2.2.2.2.2.2.2.2.2.2.2.2.2.2.2.2.2.2.2.2.2.2.2.2.2.2.2.2.2.2.2.2.2.1,x1.2.2.2.2.2.2.2.2.2.2.2.2.2.2.2.2.2.2.2.2.2.2.2.2.2.2.2.2.2.2.2.2.2.2.2.2.2.2.2.2.2.2.2.2.2.2.2.2.2.2.2.2.2.2.2.2.2.2.2.2.2.2.2.2.2.2.2.1,x1.2.2.2.2.2.2.2.2.2.2.2.2.2.2.2.2.2.2.2.2.2.2.2.2.2.2.2.2.2.2.2.2.2.2.2.2.2.2.2.2.2.2.2.2.2.2.2.2.2.2.2.2.2.2.2.2.2.2.2.2.2.2.2.2.2.2.2.2.1,x1.2.2.2.2.2.2.2.2.2.2.2.2.2.2.2.2.2.2.2.2.2.2.2.2.2.2.2.2.2.2.2.2.2.2.2.2.2.2.2.2.2.2.2.2.2.2.2.2.2.2.2.2.2.2.2.2.2.2.2.2.2.2.2.2.2.2.2.2.2.1,x1.2.2.2.2.2.2.2.2.2.2.2.2.2.2.2.2.2.2.2.2.2.2.2.2.2.2.2.2.2.2.2.2.2.2.2.2.2.2.2.2.2.2.2.2.2.2.2.2.2.2.2.2.2.2.2.2.2.2.2.2.2.2.2.2.2.2.2.2.2.2.1,x1.2.2.2.2.2.2.2.2.2.2.2.2.2.2.2.2.2.2.2.2.2.2.2.2.2.2.2.2.2.2.2.2.2.2.2.2.2.2.2.2.2.2.2.2.2.2.2.2.2.2.2.2.2.2.2.2.2.2.2.2.2.2.2.2.2.2.2.2.2.2.2.1,x1.2.2.2.2.2.2.2.2.2.2.2.2.2.2.2.2.2.2.2.2.2.2.2.2.2.2.2.2.2.2.2.2.2.2.2.2.2.2.2.2.2.2.2.2.2.2.2.2.2.2.2.2.2.2.2.2.2.2.2.2.2.2.2.2.2.2.2.2.2.2.2.2.1,x1.2.2.2.2.2.2.2.2.2.2.2.2.2.2.2.2.2.2.2.2.2.2.2.2.2.2.2.2.2.2.2.2.2.2.2.2.2.2.2.2.2.2.2.2.2.2.2.2.2.2.2.2.2.2.2.2.2.2.2.2.2.2.2.2.2.2.2.2.2.2.2.2.2.1,x1.2.2.2.2.2.2.2.2.2.2.2.2.2.2.2.2.2.2.2.2.2.2.2.2.2.2.2.2.2.2.2.2.2.2.2.2.2.2.2.2.2.2.2.2.2.2.2.2.2.2.2.2.2.2.2.2.2.2.2.2.2.2.2.2.2.2.2.2.2.2.2.2.2.2.1,x1.2.2.2.2.2.2.2.2.2.2.2.2.2.2.2.2.2.2.2.2.2.2.2.2.2.2.2.2.2.2.2.2.2.2.2.2.2.2.2.2.2.2.2.2.2.2.2.2.2.2.2.2.2.2.2.2.2.2.2.2.2.2.2.2.2.2.2.2.2.2.2.2.2.2.2.1,x1.2.2.2.2.2.2.2.2.2.2.2.2.2.2.2.2.2.2.2.2.2.2.2.2.2.2.2.2.2.2.2.2.2.2.2.2.2.2.2.2.2.2.2.2.2.2.2.2.2.2.2.2.2.2.2.2.2.2.2.2.2.2.2.2.2.2.2.2.2.2.2.2.2.2.2.2.1,x1.2.2.2.2.2.2.2.2.2.2.2.2.2.2.2.2.2.2.2.2.2.2.2.2.2.2.2.2.2.2.2.2.2.2.2.2.2.2.2.2.2.2.2.2.2.2.2.2.2.2.2.2.2.2.2.2.2.2.2.2.2.2.2.2.2.2.2.2.2.2.2.2.2.2.2.2.2.1,x1.2.2.2.2.2.2.2.2.2.2.2.2.2.2.2.2.2.2.2.2.2.2.2.2.2.2.2.2.2.2.2.2.2.2.2.2.2.2.2.2.2.2.2.2.2.2.2.2.2.2.2.2.2.2.2.2.2.2.2.2.2.2.2.2.2.2.2.2.2.2.2.2.2.2.2.2.2.2.1,x1.2.2.2.2.2.2.2.2.2.2.2.2.2.2.2.2.2.2.2.2.2.2.2.2.2.2.2.2.2.2.2.2.2.2.2.2.2.2.2.2.2.2.2.2.2.2.2.2.2.2.2.2.2.2.2.2.2.2.2.2.2.2.2.2.2.2.2.2.2.2.2.2.2.2.2.2.2.2.2.1,x1.2.2.2.2.2.2.2.2.2.2.2.2.2.2.2.2.2.2.2.2.2.2.2.2.2.2.2.2.2.2.2.2.2.2.2.2.2.2.2.2.2.2.2.2.2.2.2.2.2.2.2.2.2.2.2.2.2.2.2.2.2.2.2.2.2.2.2.2.2.2.2.2.2.2.2.2.2.2.2.2.1,x1.2.2.2.2.2.2.2.2.2.2.2.2.2.2.2.2.2.2.2.2.2.2.2.2.2.2.2.2.2.2.2.2.2.2.2.2.2.2.2.2.2.2.2.2.2.2.2.2.2.2.2.2.2.2.2.2.2.2.2.2.2.2.2.2.2.2.2.2.2.2.2.2.2.2.2.2.2.2.2.2.2.1,x1.2.2.2.2.2.2.2.2.2.2.2.2.2.2.2.2.2.2.2.2.2.2.2.2.2.2.2.2.2.2.2.2.2.2.2.2.2.2.2.2.2.2.2.2.2.2.2.2.2.2.2.2.2.2.2.2.2.2.2.2.2.2.2.2.2.2.2.2.2.2.2.2.2.2.2.2.2.2.2.2.2.2.1,x1.2.2.2.2.2.2.2.2.2.2.2.2.2.2.2.2.2.2.2.2.2.2.2.2.2.2.2.2.2.2.2.2.2.2.2.2.2.2.2.2.2.2.2.2.2.2.2.2.2.2.2.2.2.2.2.2.2.2.2.2.2.2.2.2.2.2.2.2.2.2.2.2.2.2.2.2.2.2.2.2.2.2.2.1,x1.2.2.2.2.2.2.2.2.2.2.2.2.2.2.2.2.2.2.2.2.2.2.2.2.2.2.2.2.2.2.2.2.2.2.2.2.2.2.2.2.2.2.2.2.2.2.2.2.2.2.2.2.2.2.2.2.2.2.2.2.2.2.2.2.2.2.2.2.2.2.2.2.2.2.2.2.2.2.2.2.2.2.2.2.1,x1.2.2.2.2.2.2.2.2.2.2.2.2.2.2.2.2.2.2.2.2.2.2.2.2.2.2.2.2.2.2.2.2.2.2.2.2.2.2.2.2.2.2.2.2.2.2.2.2.2.2.2.2.2.2.2.2.2.2.2.2.2.2.2.2.2.2.2.2.2.2.2.2.2.2.2.2.2.2.2.2.2.2.2.2.2.1,x1.2.2.2.2.2.2.2.2.2.2.2.2.2.2.2.2.2.2.2.2.2.2.2.2.2.2.2.2.2.2.2.2.2.2.2.2.2.2.2.2.2.2.2.2.2.2.2.2.2.2.2.2.2.2.2.2.2.2.2.2.2.2.2.2.2.2.2.2.2.2.2.2.2.2.2.2.2.2.2.2.2.2.2.2.2.2.1,x1.2.2.2.2.2.2.2.2.2.2.2.2.2.2.2.2.2.2.2.2.2.2.2.2.2.2.2.2.2.2.2.2.2.2.2.2.2.2.2.2.2.2.2.2.2.2.2.2.2.2.2.2.2.2.2.2.2.2.2.2.2.2.2.2.2.2.2.2.2.2.2.2.2.2.2.2.2.2.2.2.2.2.2.2.2.2.2.1,x1.2.2.2.2.2.2.2.2.2.2.2.2.2.2.2.2.2.2.2.2.2.2.2.2.2.2.2.2.2.2.2.2.2.2.2.2.2.2.2.2.2.2.2.2.2.2.2.2.2.2.2.2.2.2.2.2.2.2.2.2.2.2.2.2.2.2.2.2.2.2.2.2.2.2.2.2.2.2.2.2.2.2.2.2.2.2.2.2.1,x1.2.2.2.2.2.2.2.2.2.2.2.2.2.2.2.2.2.2.2.2.2.2.2.2.2.2.2.2.2.2.2.2.2.2.2.2.2.2.2.2.2.2.2.2.2.2.2.2.2.2.2.2.2.2.2.2.2.2.2.2.2.2.2.2.2.2.2.2.2.2.2.2.2.2.2.2.2.2.2.2.2.2.2.2.2.2.2.2.2.1,x1.2.2.2.2.2.2.2.2.2.2.2.2.2.2.2.2.2.2.2.2.2.2.2.2.2.2.2.2.2.2.2.2.2.2.2.2.2.2.2.2.2.2.2.2.2.2.2.2.2.2.2.2.2.2.2.2.2.2.2.2.2.2.2.2.2.2.2.2.2.2.2.2.2.2.2.2.2.2.2.2.2.2.2.2.2.2.2.2.2.2.1,x1.2.2.2.2.2.2.2.2.2.2.2.2.2.2.2.2.2.2.2.2.2.2.2.2.2.2.2.2.2.2.2.2.2.2.2.2.2.2.2.2.2.2.2.2.2.2.2.2.2.2.2.2.2.2.2.2.2.2.2.2.2.2.2.2.2.2.2.2.2.2.2.2.2.2.2.2.2.2.2.2.2.2.2.2.2.2.2.2.2.2.2.1,x1.2.2.2.2.2.2.2.2.2.2.2.2.2.2.2.2.2.2.2.2.2.2.2.2.2.2.2.2.2.2.2.2.2.2.2.2.2.2.2.2.2.2.2.2.2.2.2.2.2.2.2.2.2.2.2.2.2.2.2.2.2.2.2.2.2.2.2.2.2.2.2.2.2.2.2.2.2.2.2.2.2.2.2.2.2.2.2.2.2.2.2.2.1,x1.2.2.2.2.2.2.2.2.2.2.2.2.2.2.2.2.2.2.2.2.2.2.2.2.2.2.2.2.2.2.2.2.2.2.2.2.2.2.2.2.2.2.2.2.2.2.2.2.2.2.2.2.2.2.2.2.2.2.2.2.2.2.2.2.2.2.2.2.2.2.2.2.2.2.2.2.2.2.2.2.2.2.2.2.2.2.2.2.2.2.2.2.2.1,x1.2.2.2.2.2.2.2.2.2.2.2.2.2.2.2.2.2.2.2.2.2.2.2.2.2.2.2.2.2.2.2.2.2.2.2.2.2.2.2.2.2.2.2.2.2.2.2.2.2.2.2.2.2.2.2.2.2.2.2.2.2.2.2.2.2.2.2.2.2.2.2.2.2.2.2.2.2.2.2.2.2.2.2.2.2.2.2.2.2.2.2.2.2.2.1,x1.2.2.2.2.2.2.2.2.2.2.2.2.2.2.2.2.2.2.2.2.2.2.2.2.2.2.2.2.2.2.2.2.2.2.2.2.2.2.2.2.2.2.2.2.2.2.2.2.2.2.2.2.2.2.2.2.2.2.2.2.2.2.2.2.2.2.2.2.2.2.2.2.2.2.2.2.2.2.2.2.2.2.2.2.2.2.2.2.2.2.2.2.2.2.2)
  )

def fC (a0 : fK) (x8 : bL) (x9 : dM) (x10 : jO) : Nat → Int → (List bI) → Option (Bool × Int)
  | 0,_,_=>none
  | n0 + 1, v28, v29 =>
    bnd (decide (v28 < a0.Paths)) fun x48 =>
    bif x48 then (
      bnd (IntKind.wrap .u32 v28) fun x50 =>
      bnd (IntKind.wrap .u32 (a0.First + x50)) fun x51 =>
      bno (uM v28 0 x51) fun x52 =>
      bno (gix v29 v28) fun x53 =>
      chk (v29.length = 4) <|bno (v29[(v28 : Int).toNat]?) fun x55 =>
      bnd (v29.set ((v28 : Int).toNat) x52.1) fun x56 =>
      bif a0.Odd then (
        bno (gix x56 v28) fun x58 =>
        bno (x56[(v28 : Int).toNat]?) fun x59 =>
        bno (rU x59) fun x60 =>
        bno (gix x56 v28) fun x61 =>
        bno (x56[(v28 : Int).toNat]?) fun x62 =>
        bnd (x56.set ((v28 : Int).toNat) x60) fun x63 =>
        bnd (IntKind.wrap .i64 (v28 + 1)) fun x64 =>
        (fC a0 x8 x9 x10 n0) x64 x63
      ) else (
        bnd (IntKind.wrap .i64 (v28 + 1)) fun x65 =>
        (fC a0 x8 x9 x10 n0) x65 x56
      )
    ) else (
      bno (uF a0.Odd 8 8) fun x66 =>
      bno (sP 24 1 24) fun x67 =>
      bno (gd ((!x67) == false) (sP 8 0 24) default) fun x68 =>
      bnd ((!x67) || (!x68)) fun x69 =>
      bif x69 then (
        chk (v29.length = 4) <|bnd (max a0.Values.Whole x8.Whole) fun x72 =>
        bno (kX x72) fun x73 =>
        bno (kX x8.Whole) fun x74 =>
        bno (pU x8 a0.Values) fun x75 =>
        bno (hM (⟨4,false,0,0,0,0,0,0,x75,[]⟩ : aD) x9.Send.Base x9.Send.Data x9.Send.Next x9.Send.Pieces x9.Send.Lost x9.Send.Closed x9.Send.Sent x9.Send.Again x9.Send.Done x9.Recv.Recv.Base x9.Recv.Recv.Ready x9.Recv.Recv.Parts x9.Recv.End x9.In.Buf x9.In.Bad x9.In.Seen x66.1.Odd x66.1.Next x66.1.Last x66.1.Live x66.1.Cut x66.1.Mine x66.1.Hers x66.1.Heard x66.1.Told ([] : (List bU)) ([] : (List bZ)) ([] : (List Int)) ([] : (List bP)) x10.Lines.c0.Up x10.Lines.c0.Dead x10.Lines.c0.Bytes x10.Lines.c0.Ticks x10.Lines.c1.Up x10.Lines.c1.Dead x10.Lines.c1.Bytes x10.Lines.c1.Ticks x10.Lines.c2.Up x10.Lines.c2.Dead x10.Lines.c2.Bytes x10.Lines.c2.Ticks x10.Lines.c3.Up x10.Lines.c3.Dead x10.Lines.c3.Bytes x10.Lines.c3.Ticks x10.Pinned x10.Binds v29 [] 0 0 [] 0 0 [] 0 0 [] 0 0 x73.1.Window x73.1.Limit x73.1.Used x73.1.Read x74.1.Window x74.1.Limit x74.1.Used x74.1.Read x8.Streams x8.Window x8.Whole x8.Chunk x8.Streams x8.Window x8.Whole x8.Chunk ([] : (List aM)) ([] : (List bC)) ([] : (List Int)) ([] : (List aD)) ([] : (List aM)) ([] : (List bD)) 0 0 0 0 0 false a0.Odd a0.Paths a0.Values.Streams a0.Values.Window a0.Values.Whole a0.Values.Chunk a0.First) fun x76 =>
        chk (x76.2.2.2.2.2.2.2.2.2.2.2.2.2.2.2.2.2.2.2.2.2.2.2.2.2.2.2.2.2.2.2.2.2.2.2.2.2.2.2.2.2.2.2.2.2.2.2.1.length = 4) <|bnd (IntKind.wrap .i64 (x76.2.2.2.2.2.2.2.2.2.2.2.2.2.2.2.2.2.2.2.2.2.2.2.2.2.2.2.2.2.2.2.2.2.2.2.2.2.2.2.2.2.2.2.2.2.2.2.2.2.2.2.2.2.2.2.2.2.2.2.2.2.1 - x8.Whole)) fun x78 =>
        bnd (decide (0 < x78)) fun x79 =>
        bif x79 then (
          bno (hM (⟨8,false,0,0,0,0,x78,0,[],[]⟩ : aD) x76.1 x76.2.1 x76.2.2.1 x76.2.2.2.1 x76.2.2.2.2.1 x76.2.2.2.2.2.1 x76.2.2.2.2.2.2.1 x76.2.2.2.2.2.2.2.1 x76.2.2.2.2.2.2.2.2.1 x76.2.2.2.2.2.2.2.2.2.1 x76.2.2.2.2.2.2.2.2.2.2.1 x76.2.2.2.2.2.2.2.2.2.2.2.1 x76.2.2.2.2.2.2.2.2.2.2.2.2.1 x76.2.2.2.2.2.2.2.2.2.2.2.2.2.1 x76.2.2.2.2.2.2.2.2.2.2.2.2.2.2.1 x76.2.2.2.2.2.2.2.2.2.2.2.2.2.2.2.1 x76.2.2.2.2.2.2.2.2.2.2.2.2.2.2.2.2.1 x76.2.2.2.2.2.2.2.2.2.2.2.2.2.2.2.2.2.1 x76.2.2.2.2.2.2.2.2.2.2.2.2.2.2.2.2.2.2.1 x76.2.2.2.2.2.2.2.2.2.2.2.2.2.2.2.2.2.2.2.1 x76.2.2.2.2.2.2.2.2.2.2.2.2.2.2.2.2.2.2.2.2.1 x76.2.2.2.2.2.2.2.2.2.2.2.2.2.2.2.2.2.2.2.2.2.1 x76.2.2.2.2.2.2.2.2.2.2.2.2.2.2.2.2.2.2.2.2.2.2.1 x76.2.2.2.2.2.2.2.2.2.2.2.2.2.2.2.2.2.2.2.2.2.2.2.1 x76.2.2.2.2.2.2.2.2.2.2.2.2.2.2.2.2.2.2.2.2.2.2.2.2.1 x76.2.2.2.2.2.2.2.2.2.2.2.2.2.2.2.2.2.2.2.2.2.2.2.2.2.1 x76.2.2.2.2.2.2.2.2.2.2.2.2.2.2.2.2.2.2.2.2.2.2.2.2.2.2.1 x76.2.2.2.2.2.2.2.2.2.2.2.2.2.2.2.2.2.2.2.2.2.2.2.2.2.2.2.1 x76.2.2.2.2.2.2.2.2.2.2.2.2.2.2.2.2.2.2.2.2.2.2.2.2.2.2.2.2.1 x76.2.2.2.2.2.2.2.2.2.2.2.2.2.2.2.2.2.2.2.2.2.2.2.2.2.2.2.2.2.1 x76.2.2.2.2.2.2.2.2.2.2.2.2.2.2.2.2.2.2.2.2.2.2.2.2.2.2.2.2.2.2.1 x76.2.2.2.2.2.2.2.2.2.2.2.2.2.2.2.2.2.2.2.2.2.2.2.2.2.2.2.2.2.2.2.1 x76.2.2.2.2.2.2.2.2.2.2.2.2.2.2.2.2.2.2.2.2.2.2.2.2.2.2.2.2.2.2.2.2.1 x76.2.2.2.2.2.2.2.2.2.2.2.2.2.2.2.2.2.2.2.2.2.2.2.2.2.2.2.2.2.2.2.2.2.1 x76.2.2.2.2.2.2.2.2.2.2.2.2.2.2.2.2.2.2.2.2.2.2.2.2.2.2.2.2.2.2.2.2.2.2.1 x76.2.2.2.2.2.2.2.2.2.2.2.2.2.2.2.2.2.2.2.2.2.2.2.2.2.2.2.2.2.2.2.2.2.2.2.1 x76.2.2.2.2.2.2.2.2.2.2.2.2.2.2.2.2.2.2.2.2.2.2.2.2.2.2.2.2.2.2.2.2.2.2.2.2.1 x76.2.2.2.2.2.2.2.2.2.2.2.2.2.2.2.2.2.2.2.2.2.2.2.2.2.2.2.2.2.2.2.2.2.2.2.2.2.1 x76.2.2.2.2.2.2.2.2.2.2.2.2.2.2.2.2.2.2.2.2.2.2.2.2.2.2.2.2.2.2.2.2.2.2.2.2.2.2.1 x76.2.2.2.2.2.2.2.2.2.2.2.2.2.2.2.2.2.2.2.2.2.2.2.2.2.2.2.2.2.2.2.2.2.2.2.2.2.2.2.1 x76.2.2.2.2.2.2.2.2.2.2.2.2.2.2.2.2.2.2.2.2.2.2.2.2.2.2.2.2.2.2.2.2.2.2.2.2.2.2.2.2.1 x76.2.2.2.2.2.2.2.2.2.2.2.2.2.2.2.2.2.2.2.2.2.2.2.2.2.2.2.2.2.2.2.2.2.2.2.2.2.2.2.2.2.1 x76.2.2.2.2.2.2.2.2.2.2.2.2.2.2.2.2.2.2.2.2.2.2.2.2.2.2.2.2.2.2.2.2.2.2.2.2.2.2.2.2.2.2.1 x76.2.2.2.2.2.2.2.2.2.2.2.2.2.2.2.2.2.2.2.2.2.2.2.2.2.2.2.2.2.2.2.2.2.2.2.2.2.2.2.2.2.2.2.1 x76.2.2.2.2.2.2.2.2.2.2.2.2.2.2.2.2.2.2.2.2.2.2.2.2.2.2.2.2.2.2.2.2.2.2.2.2.2.2.2.2.2.2.2.2.1 x76.2.2.2.2.2.2.2.2.2.2.2.2.2.2.2.2.2.2.2.2.2.2.2.2.2.2.2.2.2.2.2.2.2.2.2.2.2.2.2.2.2.2.2.2.2.1 x76.2.2.2.2.2.2.2.2.2.2.2.2.2.2.2.2.2.2.2.2.2.2.2.2.2.2.2.2.2.2.2.2.2.2.2.2.2.2.2.2.2.2.2.2.2.2.1 x76.2.2.2.2.2.2.2.2.2.2.2.2.2.2.2.2.2.2.2.2.2.2.2.2.2.2.2.2.2.2.2.2.2.2.2.2.2.2.2.2.2.2.2.2.2.2.2.1 x76.2.2.2.2.2.2.2.2.2.2.2.2.2.2.2.2.2.2.2.2.2.2.2.2.2.2.2.2.2.2.2.2.2.2.2.2.2.2.2.2.2.2.2.2.2.2.2.2.1 x76.2.2.2.2.2.2.2.2.2.2.2.2.2.2.2.2.2.2.2.2.2.2.2.2.2.2.2.2.2.2.2.2.2.2.2.2.2.2.2.2.2.2.2.2.2.2.2.2.2.1 x76.2.2.2.2.2.2.2.2.2.2.2.2.2.2.2.2.2.2.2.2.2.2.2.2.2.2.2.2.2.2.2.2.2.2.2.2.2.2.2.2.2.2.2.2.2.2.2.2.2.2.1 x76.2.2.2.2.2.2.2.2.2.2.2.2.2.2.2.2.2.2.2.2.2.2.2.2.2.2.2.2.2.2.2.2.2.2.2.2.2.2.2.2.2.2.2.2.2.2.2.2.2.2.2.1 x76.2.2.2.2.2.2.2.2.2.2.2.2.2.2.2.2.2.2.2.2.2.2.2.2.2.2.2.2.2.2.2.2.2.2.2.2.2.2.2.2.2.2.2.2.2.2.2.2.2.2.2.2.1 x76.2.2.2.2.2.2.2.2.2.2.2.2.2.2.2.2.2.2.2.2.2.2.2.2.2.2.2.2.2.2.2.2.2.2.2.2.2.2.2.2.2.2.2.2.2.2.2.2.2.2.2.2.2.1 x76.2.2.2.2.2.2.2.2.2.2.2.2.2.2.2.2.2.2.2.2.2.2.2.2.2.2.2.2.2.2.2.2.2.2.2.2.2.2.2.2.2.2.2.2.2.2.2.2.2.2.2.2.2.2.1 x76.2.2.2.2.2.2.2.2.2.2.2.2.2.2.2.2.2.2.2.2.2.2.2.2.2.2.2.2.2.2.2.2.2.2.2.2.2.2.2.2.2.2.2.2.2.2.2.2.2.2.2.2.2.2.2.1 x76.2.2.2.2.2.2.2.2.2.2.2.2.2.2.2.2.2.2.2.2.2.2.2.2.2.2.2.2.2.2.2.2.2.2.2.2.2.2.2.2.2.2.2.2.2.2.2.2.2.2.2.2.2.2.2.2.1 x76.2.2.2.2.2.2.2.2.2.2.2.2.2.2.2.2.2.2.2.2.2.2.2.2.2.2.2.2.2.2.2.2.2.2.2.2.2.2.2.2.2.2.2.2.2.2.2.2.2.2.2.2.2.2.2.2.2.1 x76.2.2.2.2.2.2.2.2.2.2.2.2.2.2.2.2.2.2.2.2.2.2.2.2.2.2.2.2.2.2.2.2.2.2.2.2.2.2.2.2.2.2.2.2.2.2.2.2.2.2.2.2.2.2.2.2.2.2.1 x76.2.2.2.2.2.2.2.2.2.2.2.2.2.2.2.2.2.2.2.2.2.2.2.2.2.2.2.2.2.2.2.2.2.2.2.2.2.2.2.2.2.2.2.2.2.2.2.2.2.2.2.2.2.2.2.2.2.2.2.1 x76.2.2.2.2.2.2.2.2.2.2.2.2.2.2.2.2.2.2.2.2.2.2.2.2.2.2.2.2.2.2.2.2.2.2.2.2.2.2.2.2.2.2.2.2.2.2.2.2.2.2.2.2.2.2.2.2.2.2.2.2.1 x76.2.2.2.2.2.2.2.2.2.2.2.2.2.2.2.2.2.2.2.2.2.2.2.2.2.2.2.2.2.2.2.2.2.2.2.2.2.2.2.2.2.2.2.2.2.2.2.2.2.2.2.2.2.2.2.2.2.2.2.2.2.1 x76.2.2.2.2.2.2.2.2.2.2.2.2.2.2.2.2.2.2.2.2.2.2.2.2.2.2.2.2.2.2.2.2.2.2.2.2.2.2.2.2.2.2.2.2.2.2.2.2.2.2.2.2.2.2.2.2.2.2.2.2.2.2.1 x76.2.2.2.2.2.2.2.2.2.2.2.2.2.2.2.2.2.2.2.2.2.2.2.2.2.2.2.2.2.2.2.2.2.2.2.2.2.2.2.2.2.2.2.2.2.2.2.2.2.2.2.2.2.2.2.2.2.2.2.2.2.2.2.1 x76.2.2.2.2.2.2.2.2.2.2.2.2.2.2.2.2.2.2.2.2.2.2.2.2.2.2.2.2.2.2.2.2.2.2.2.2.2.2.2.2.2.2.2.2.2.2.2.2.2.2.2.2.2.2.2.2.2.2.2.2.2.2.2.2.1 x76.2.2.2.2.2.2.2.2.2.2.2.2.2.2.2.2.2.2.2.2.2.2.2.2.2.2.2.2.2.2.2.2.2.2.2.2.2.2.2.2.2.2.2.2.2.2.2.2.2.2.2.2.2.2.2.2.2.2.2.2.2.2.2.2.2.1 x76.2.2.2.2.2.2.2.2.2.2.2.2.2.2.2.2.2.2.2.2.2.2.2.2.2.2.2.2.2.2.2.2.2.2.2.2.2.2.2.2.2.2.2.2.2.2.2.2.2.2.2.2.2.2.2.2.2.2.2.2.2.2.2.2.2.2.1 x76.2.2.2.2.2.2.2.2.2.2.2.2.2.2.2.2.2.2.2.2.2.2.2.2.2.2.2.2.2.2.2.2.2.2.2.2.2.2.2.2.2.2.2.2.2.2.2.2.2.2.2.2.2.2.2.2.2.2.2.2.2.2.2.2.2.2.2.1 x76.2.2.2.2.2.2.2.2.2.2.2.2.2.2.2.2.2.2.2.2.2.2.2.2.2.2.2.2.2.2.2.2.2.2.2.2.2.2.2.2.2.2.2.2.2.2.2.2.2.2.2.2.2.2.2.2.2.2.2.2.2.2.2.2.2.2.2.2.1 x76.2.2.2.2.2.2.2.2.2.2.2.2.2.2.2.2.2.2.2.2.2.2.2.2.2.2.2.2.2.2.2.2.2.2.2.2.2.2.2.2.2.2.2.2.2.2.2.2.2.2.2.2.2.2.2.2.2.2.2.2.2.2.2.2.2.2.2.2.2.1 x76.2.2.2.2.2.2.2.2.2.2.2.2.2.2.2.2.2.2.2.2.2.2.2.2.2.2.2.2.2.2.2.2.2.2.2.2.2.2.2.2.2.2.2.2.2.2.2.2.2.2.2.2.2.2.2.2.2.2.2.2.2.2.2.2.2.2.2.2.2.2.1 x76.2.2.2.2.2.2.2.2.2.2.2.2.2.2.2.2.2.2.2.2.2.2.2.2.2.2.2.2.2.2.2.2.2.2.2.2.2.2.2.2.2.2.2.2.2.2.2.2.2.2.2.2.2.2.2.2.2.2.2.2.2.2.2.2.2.2.2.2.2.2.2.1 x76.2.2.2.2.2.2.2.2.2.2.2.2.2.2.2.2.2.2.2.2.2.2.2.2.2.2.2.2.2.2.2.2.2.2.2.2.2.2.2.2.2.2.2.2.2.2.2.2.2.2.2.2.2.2.2.2.2.2.2.2.2.2.2.2.2.2.2.2.2.2.2.2.1 x76.2.2.2.2.2.2.2.2.2.2.2.2.2.2.2.2.2.2.2.2.2.2.2.2.2.2.2.2.2.2.2.2.2.2.2.2.2.2.2.2.2.2.2.2.2.2.2.2.2.2.2.2.2.2.2.2.2.2.2.2.2.2.2.2.2.2.2.2.2.2.2.2.2.1 x76.2.2.2.2.2.2.2.2.2.2.2.2.2.2.2.2.2.2.2.2.2.2.2.2.2.2.2.2.2.2.2.2.2.2.2.2.2.2.2.2.2.2.2.2.2.2.2.2.2.2.2.2.2.2.2.2.2.2.2.2.2.2.2.2.2.2.2.2.2.2.2.2.2.2.1 x76.2.2.2.2.2.2.2.2.2.2.2.2.2.2.2.2.2.2.2.2.2.2.2.2.2.2.2.2.2.2.2.2.2.2.2.2.2.2.2.2.2.2.2.2.2.2.2.2.2.2.2.2.2.2.2.2.2.2.2.2.2.2.2.2.2.2.2.2.2.2.2.2.2.2.2.1 x76.2.2.2.2.2.2.2.2.2.2.2.2.2.2.2.2.2.2.2.2.2.2.2.2.2.2.2.2.2.2.2.2.2.2.2.2.2.2.2.2.2.2.2.2.2.2.2.2.2.2.2.2.2.2.2.2.2.2.2.2.2.2.2.2.2.2.2.2.2.2.2.2.2.2.2.2.1 x76.2.2.2.2.2.2.2.2.2.2.2.2.2.2.2.2.2.2.2.2.2.2.2.2.2.2.2.2.2.2.2.2.2.2.2.2.2.2.2.2.2.2.2.2.2.2.2.2.2.2.2.2.2.2.2.2.2.2.2.2.2.2.2.2.2.2.2.2.2.2.2.2.2.2.2.2.2.1 x76.2.2.2.2.2.2.2.2.2.2.2.2.2.2.2.2.2.2.2.2.2.2.2.2.2.2.2.2.2.2.2.2.2.2.2.2.2.2.2.2.2.2.2.2.2.2.2.2.2.2.2.2.2.2.2.2.2.2.2.2.2.2.2.2.2.2.2.2.2.2.2.2.2.2.2.2.2.2.1 x76.2.2.2.2.2.2.2.2.2.2.2.2.2.2.2.2.2.2.2.2.2.2.2.2.2.2.2.2.2.2.2.2.2.2.2.2.2.2.2.2.2.2.2.2.2.2.2.2.2.2.2.2.2.2.2.2.2.2.2.2.2.2.2.2.2.2.2.2.2.2.2.2.2.2.2.2.2.2.2.1 x76.2.2.2.2.2.2.2.2.2.2.2.2.2.2.2.2.2.2.2.2.2.2.2.2.2.2.2.2.2.2.2.2.2.2.2.2.2.2.2.2.2.2.2.2.2.2.2.2.2.2.2.2.2.2.2.2.2.2.2.2.2.2.2.2.2.2.2.2.2.2.2.2.2.2.2.2.2.2.2.2.1 x76.2.2.2.2.2.2.2.2.2.2.2.2.2.2.2.2.2.2.2.2.2.2.2.2.2.2.2.2.2.2.2.2.2.2.2.2.2.2.2.2.2.2.2.2.2.2.2.2.2.2.2.2.2.2.2.2.2.2.2.2.2.2.2.2.2.2.2.2.2.2.2.2.2.2.2.2.2.2.2.2.2.1 x76.2.2.2.2.2.2.2.2.2.2.2.2.2.2.2.2.2.2.2.2.2.2.2.2.2.2.2.2.2.2.2.2.2.2.2.2.2.2.2.2.2.2.2.2.2.2.2.2.2.2.2.2.2.2.2.2.2.2.2.2.2.2.2.2.2.2.2.2.2.2.2.2.2.2.2.2.2.2.2.2.2.2.1 x76.2.2.2.2.2.2.2.2.2.2.2.2.2.2.2.2.2.2.2.2.2.2.2.2.2.2.2.2.2.2.2.2.2.2.2.2.2.2.2.2.2.2.2.2.2.2.2.2.2.2.2.2.2.2.2.2.2.2.2.2.2.2.2.2.2.2.2.2.2.2.2.2.2.2.2.2.2.2.2.2.2.2.2.1 x76.2.2.2.2.2.2.2.2.2.2.2.2.2.2.2.2.2.2.2.2.2.2.2.2.2.2.2.2.2.2.2.2.2.2.2.2.2.2.2.2.2.2.2.2.2.2.2.2.2.2.2.2.2.2.2.2.2.2.2.2.2.2.2.2.2.2.2.2.2.2.2.2.2.2.2.2.2.2.2.2.2.2.2.2.1 x76.2.2.2.2.2.2.2.2.2.2.2.2.2.2.2.2.2.2.2.2.2.2.2.2.2.2.2.2.2.2.2.2.2.2.2.2.2.2.2.2.2.2.2.2.2.2.2.2.2.2.2.2.2.2.2.2.2.2.2.2.2.2.2.2.2.2.2.2.2.2.2.2.2.2.2.2.2.2.2.2.2.2.2.2.2.1 x76.2.2.2.2.2.2.2.2.2.2.2.2.2.2.2.2.2.2.2.2.2.2.2.2.2.2.2.2.2.2.2.2.2.2.2.2.2.2.2.2.2.2.2.2.2.2.2.2.2.2.2.2.2.2.2.2.2.2.2.2.2.2.2.2.2.2.2.2.2.2.2.2.2.2.2.2.2.2.2.2.2.2.2.2.2.2.1 x76.2.2.2.2.2.2.2.2.2.2.2.2.2.2.2.2.2.2.2.2.2.2.2.2.2.2.2.2.2.2.2.2.2.2.2.2.2.2.2.2.2.2.2.2.2.2.2.2.2.2.2.2.2.2.2.2.2.2.2.2.2.2.2.2.2.2.2.2.2.2.2.2.2.2.2.2.2.2.2.2.2.2.2.2.2.2.2.1 x76.2.2.2.2.2.2.2.2.2.2.2.2.2.2.2.2.2.2.2.2.2.2.2.2.2.2.2.2.2.2.2.2.2.2.2.2.2.2.2.2.2.2.2.2.2.2.2.2.2.2.2.2.2.2.2.2.2.2.2.2.2.2.2.2.2.2.2.2.2.2.2.2.2.2.2.2.2.2.2.2.2.2.2.2.2.2.2.2.1 x76.2.2.2.2.2.2.2.2.2.2.2.2.2.2.2.2.2.2.2.2.2.2.2.2.2.2.2.2.2.2.2.2.2.2.2.2.2.2.2.2.2.2.2.2.2.2.2.2.2.2.2.2.2.2.2.2.2.2.2.2.2.2.2.2.2.2.2.2.2.2.2.2.2.2.2.2.2.2.2.2.2.2.2.2.2.2.2.2.2.1 x76.2.2.2.2.2.2.2.2.2.2.2.2.2.2.2.2.2.2.2.2.2.2.2.2.2.2.2.2.2.2.2.2.2.2.2.2.2.2.2.2.2.2.2.2.2.2.2.2.2.2.2.2.2.2.2.2.2.2.2.2.2.2.2.2.2.2.2.2.2.2.2.2.2.2.2.2.2.2.2.2.2.2.2.2.2.2.2.2.2.2.1 x76.2.2.2.2.2.2.2.2.2.2.2.2.2.2.2.2.2.2.2.2.2.2.2.2.2.2.2.2.2.2.2.2.2.2.2.2.2.2.2.2.2.2.2.2.2.2.2.2.2.2.2.2.2.2.2.2.2.2.2.2.2.2.2.2.2.2.2.2.2.2.2.2.2.2.2.2.2.2.2.2.2.2.2.2.2.2.2.2.2.2.2.1 x76.2.2.2.2.2.2.2.2.2.2.2.2.2.2.2.2.2.2.2.2.2.2.2.2.2.2.2.2.2.2.2.2.2.2.2.2.2.2.2.2.2.2.2.2.2.2.2.2.2.2.2.2.2.2.2.2.2.2.2.2.2.2.2.2.2.2.2.2.2.2.2.2.2.2.2.2.2.2.2.2.2.2.2.2.2.2.2.2.2.2.2.2.1 x76.2.2.2.2.2.2.2.2.2.2.2.2.2.2.2.2.2.2.2.2.2.2.2.2.2.2.2.2.2.2.2.2.2.2.2.2.2.2.2.2.2.2.2.2.2.2.2.2.2.2.2.2.2.2.2.2.2.2.2.2.2.2.2.2.2.2.2.2.2.2.2.2.2.2.2.2.2.2.2.2.2.2.2.2.2.2.2.2.2.2.2.2.2.1 x76.2.2.2.2.2.2.2.2.2.2.2.2.2.2.2.2.2.2.2.2.2.2.2.2.2.2.2.2.2.2.2.2.2.2.2.2.2.2.2.2.2.2.2.2.2.2.2.2.2.2.2.2.2.2.2.2.2.2.2.2.2.2.2.2.2.2.2.2.2.2.2.2.2.2.2.2.2.2.2.2.2.2.2.2.2.2.2.2.2.2.2.2.2.2) fun x81 =>
          some (true,0)
        ) else (
          some (true,0)
        )
      ) else (
        bno (vQ) fun x82 =>
        chk (v29.length = 4) <|bnd (max a0.Values.Whole x8.Whole) fun x84 =>
        bno (kX x84) fun x85 =>
        bno (kX x8.Whole) fun x86 =>
        bno (pU x8 a0.Values) fun x87 =>
        bno (eH (⟨4,false,0,0,0,0,0,0,x87,[]⟩ : aD) x9.Send.Base x9.Send.Data x9.Send.Next x9.Send.Pieces x9.Send.Lost x9.Send.Closed x9.Send.Sent x9.Send.Again x9.Send.Done x9.Recv.Recv.Base x9.Recv.Recv.Ready x9.Recv.Recv.Parts x9.Recv.End x9.In.Buf x9.In.Bad x9.In.Seen x66.1.Odd x66.1.Next x66.1.Last x66.1.Live x66.1.Cut x66.1.Mine x66.1.Hers x66.1.Heard x66.1.Told ([] : (List bU)) ([] : (List bZ)) ([] : (List Int)) ([] : (List bP)) x10.Lines.c0.Up x10.Lines.c0.Dead x10.Lines.c0.Bytes x10.Lines.c0.Ticks x10.Lines.c1.Up x10.Lines.c1.Dead x10.Lines.c1.Bytes x10.Lines.c1.Ticks x10.Lines.c2.Up x10.Lines.c2.Dead x10.Lines.c2.Bytes x10.Lines.c2.Ticks x10.Lines.c3.Up x10.Lines.c3.Dead x10.Lines.c3.Bytes x10.Lines.c3.Ticks x10.Pinned x10.Binds v29 [] 0 0 [] 0 0 [] 0 0 [] 0 0 x85.1.Window x85.1.Limit x85.1.Used x85.1.Read x86.1.Window x86.1.Limit x86.1.Used x86.1.Read x8.Streams x8.Window x8.Whole x8.Chunk x8.Streams x8.Window x8.Whole x8.Chunk ([] : (List aM)) ([] : (List bC)) ([] : (List Int)) ([] : (List aD)) ([] : (List aM)) ([] : (List bD)) 0 0 0 0 0 false a0.Odd a0.Paths a0.Values.Streams a0.Values.Window a0.Values.Whole a0.Values.Chunk a0.First 24 8 x82.Cells x82.Free x82.Used ((List.replicate 64 (⟨0,0,0,0,0,false⟩ : dA) : (List dA))) (-1) ([] : (List Int))) fun x88 =>
        chk (x88.2.2.2.2.2.2.2.2.2.2.2.2.2.2.2.2.2.2.2.2.2.2.2.2.2.2.2.2.2.2.2.2.2.2.2.2.2.2.2.2.2.2.2.2.2.2.2.1.length = 4) <|bnd (IntKind.wrap .i64 (x88.2.2.2.2.2.2.2.2.2.2.2.2.2.2.2.2.2.2.2.2.2.2.2.2.2.2.2.2.2.2.2.2.2.2.2.2.2.2.2.2.2.2.2.2.2.2.2.2.2.2.2.2.2.2.2.2.2.2.2.2.2.1 - x8.Whole)) fun x90 =>
        bnd (decide (0 < x90)) fun x91 =>
        bif x91 then (
          bno (eH (⟨8,false,0,0,0,0,x90,0,[],[]⟩ : aD) x88.1 x88.2.1 x88.2.2.1 x88.2.2.2.1 x88.2.2.2.2.1 x88.2.2.2.2.2.1 x88.2.2.2.2.2.2.1 x88.2.2.2.2.2.2.2.1 x88.2.2.2.2.2.2.2.2.1 x88.2.2.2.2.2.2.2.2.2.1 x88.2.2.2.2.2.2.2.2.2.2.1 x88.2.2.2.2.2.2.2.2.2.2.2.1 x88.2.2.2.2.2.2.2.2.2.2.2.2.1 x88.2.2.2.2.2.2.2.2.2.2.2.2.2.1 x88.2.2.2.2.2.2.2.2.2.2.2.2.2.2.1 x88.2.2.2.2.2.2.2.2.2.2.2.2.2.2.2.1 x88.2.2.2.2.2.2.2.2.2.2.2.2.2.2.2.2.1 x88.2.2.2.2.2.2.2.2.2.2.2.2.2.2.2.2.2.1 x88.2.2.2.2.2.2.2.2.2.2.2.2.2.2.2.2.2.2.1 x88.2.2.2.2.2.2.2.2.2.2.2.2.2.2.2.2.2.2.2.1 x88.2.2.2.2.2.2.2.2.2.2.2.2.2.2.2.2.2.2.2.2.1 x88.2.2.2.2.2.2.2.2.2.2.2.2.2.2.2.2.2.2.2.2.2.1 x88.2.2.2.2.2.2.2.2.2.2.2.2.2.2.2.2.2.2.2.2.2.2.1 x88.2.2.2.2.2.2.2.2.2.2.2.2.2.2.2.2.2.2.2.2.2.2.2.1 x88.2.2.2.2.2.2.2.2.2.2.2.2.2.2.2.2.2.2.2.2.2.2.2.2.1 x88.2.2.2.2.2.2.2.2.2.2.2.2.2.2.2.2.2.2.2.2.2.2.2.2.2.1 x88.2.2.2.2.2.2.2.2.2.2.2.2.2.2.2.2.2.2.2.2.2.2.2.2.2.2.1 x88.2.2.2.2.2.2.2.2.2.2.2.2.2.2.2.2.2.2.2.2.2.2.2.2.2.2.2.1 x88.2.2.2.2.2.2.2.2.2.2.2.2.2.2.2.2.2.2.2.2.2.2.2.2.2.2.2.2.1 x88.2.2.2.2.2.2.2.2.2.2.2.2.2.2.2.2.2.2.2.2.2.2.2.2.2.2.2.2.2.1 x88.2.2.2.2.2.2.2.2.2.2.2.2.2.2.2.2.2.2.2.2.2.2.2.2.2.2.2.2.2.2.1 x88.2.2.2.2.2.2.2.2.2.2.2.2.2.2.2.2.2.2.2.2.2.2.2.2.2.2.2.2.2.2.2.1 x88.2.2.2.2.2.2.2.2.2.2.2.2.2.2.2.2.2.2.2.2.2.2.2.2.2.2.2.2.2.2.2.2.1 x88.2.2.2.2.2.2.2.2.2.2.2.2.2.2.2.2.2.2.2.2.2.2.2.2.2.2.2.2.2.2.2.2.2.1 x88.2.2.2.2.2.2.2.2.2.2.2.2.2.2.2.2.2.2.2.2.2.2.2.2.2.2.2.2.2.2.2.2.2.2.1 x88.2.2.2.2.2.2.2.2.2.2.2.2.2.2.2.2.2.2.2.2.2.2.2.2.2.2.2.2.2.2.2.2.2.2.2.1 x88.2.2.2.2.2.2.2.2.2.2.2.2.2.2.2.2.2.2.2.2.2.2.2.2.2.2.2.2.2.2.2.2.2.2.2.2.1 x88.2.2.2.2.2.2.2.2.2.2.2.2.2.2.2.2.2.2.2.2.2.2.2.2.2.2.2.2.2.2.2.2.2.2.2.2.2.1 x88.2.2.2.2.2.2.2.2.2.2.2.2.2.2.2.2.2.2.2.2.2.2.2.2.2.2.2.2.2.2.2.2.2.2.2.2.2.2.1 x88.2.2.2.2.2.2.2.2.2.2.2.2.2.2.2.2.2.2.2.2.2.2.2.2.2.2.2.2.2.2.2.2.2.2.2.2.2.2.2.1 x88.2.2.2.2.2.2.2.2.2.2.2.2.2.2.2.2.2.2.2.2.2.2.2.2.2.2.2.2.2.2.2.2.2.2.2.2.2.2.2.2.1 x88.2.2.2.2.2.2.2.2.2.2.2.2.2.2.2.2.2.2.2.2.2.2.2.2.2.2.2.2.2.2.2.2.2.2.2.2.2.2.2.2.2.1 x88.2.2.2.2.2.2.2.2.2.2.2.2.2.2.2.2.2.2.2.2.2.2.2.2.2.2.2.2.2.2.2.2.2.2.2.2.2.2.2.2.2.2.1 x88.2.2.2.2.2.2.2.2.2.2.2.2.2.2.2.2.2.2.2.2.2.2.2.2.2.2.2.2.2.2.2.2.2.2.2.2.2.2.2.2.2.2.2.1 x88.2.2.2.2.2.2.2.2.2.2.2.2.2.2.2.2.2.2.2.2.2.2.2.2.2.2.2.2.2.2.2.2.2.2.2.2.2.2.2.2.2.2.2.2.1 x88.2.2.2.2.2.2.2.2.2.2.2.2.2.2.2.2.2.2.2.2.2.2.2.2.2.2.2.2.2.2.2.2.2.2.2.2.2.2.2.2.2.2.2.2.2.1 x88.2.2.2.2.2.2.2.2.2.2.2.2.2.2.2.2.2.2.2.2.2.2.2.2.2.2.2.2.2.2.2.2.2.2.2.2.2.2.2.2.2.2.2.2.2.2.1 x88.2.2.2.2.2.2.2.2.2.2.2.2.2.2.2.2.2.2.2.2.2.2.2.2.2.2.2.2.2.2.2.2.2.2.2.2.2.2.2.2.2.2.2.2.2.2.2.1 x88.2.2.2.2.2.2.2.2.2.2.2.2.2.2.2.2.2.2.2.2.2.2.2.2.2.2.2.2.2.2.2.2.2.2.2.2.2.2.2.2.2.2.2.2.2.2.2.2.1 x88.2.2.2.2.2.2.2.2.2.2.2.2.2.2.2.2.2.2.2.2.2.2.2.2.2.2.2.2.2.2.2.2.2.2.2.2.2.2.2.2.2.2.2.2.2.2.2.2.2.1 x88.2.2.2.2.2.2.2.2.2.2.2.2.2.2.2.2.2.2.2.2.2.2.2.2.2.2.2.2.2.2.2.2.2.2.2.2.2.2.2.2.2.2.2.2.2.2.2.2.2.2.1 x88.2.2.2.2.2.2.2.2.2.2.2.2.2.2.2.2.2.2.2.2.2.2.2.2.2.2.2.2.2.2.2.2.2.2.2.2.2.2.2.2.2.2.2.2.2.2.2.2.2.2.2.1 x88.2.2.2.2.2.2.2.2.2.2.2.2.2.2.2.2.2.2.2.2.2.2.2.2.2.2.2.2.2.2.2.2.2.2.2.2.2.2.2.2.2.2.2.2.2.2.2.2.2.2.2.2.1 x88.2.2.2.2.2.2.2.2.2.2.2.2.2.2.2.2.2.2.2.2.2.2.2.2.2.2.2.2.2.2.2.2.2.2.2.2.2.2.2.2.2.2.2.2.2.2.2.2.2.2.2.2.2.1 x88.2.2.2.2.2.2.2.2.2.2.2.2.2.2.2.2.2.2.2.2.2.2.2.2.2.2.2.2.2.2.2.2.2.2.2.2.2.2.2.2.2.2.2.2.2.2.2.2.2.2.2.2.2.2.1 x88.2.2.2.2.2.2.2.2.2.2.2.2.2.2.2.2.2.2.2.2.2.2.2.2.2.2.2.2.2.2.2.2.2.2.2.2.2.2.2.2.2.2.2.2.2.2.2.2.2.2.2.2.2.2.2.1 x88.2.2.2.2.2.2.2.2.2.2.2.2.2.2.2.2.2.2.2.2.2.2.2.2.2.2.2.2.2.2.2.2.2.2.2.2.2.2.2.2.2.2.2.2.2.2.2.2.2.2.2.2.2.2.2.2.1 x88.2.2.2.2.2.2.2.2.2.2.2.2.2.2.2.2.2.2.2.2.2.2.2.2.2.2.2.2.2.2.2.2.2.2.2.2.2.2.2.2.2.2.2.2.2.2.2.2.2.2.2.2.2.2.2.2.2.1 x88.2.2.2.2.2.2.2.2.2.2.2.2.2.2.2.2.2.2.2.2.2.2.2.2.2.2.2.2.2.2.2.2.2.2.2.2.2.2.2.2.2.2.2.2.2.2.2.2.2.2.2.2.2.2.2.2.2.2.1 x88.2.2.2.2.2.2.2.2.2.2.2.2.2.2.2.2.2.2.2.2.2.2.2.2.2.2.2.2.2.2.2.2.2.2.2.2.2.2.2.2.2.2.2.2.2.2.2.2.2.2.2.2.2.2.2.2.2.2.2.1 x88.2.2.2.2.2.2.2.2.2.2.2.2.2.2.2.2.2.2.2.2.2.2.2.2.2.2.2.2.2.2.2.2.2.2.2.2.2.2.2.2.2.2.2.2.2.2.2.2.2.2.2.2.2.2.2.2.2.2.2.2.1 x88.2.2.2.2.2.2.2.2.2.2.2.2.2.2.2.2.2.2.2.2.2.2.2.2.2.2.2.2.2.2.2.2.2.2.2.2.2.2.2.2.2.2.2.2.2.2.2.2.2.2.2.2.2.2.2.2.2.2.2.2.2.1 x88.2.2.2.2.2.2.2.2.2.2.2.2.2.2.2.2.2.2.2.2.2.2.2.2.2.2.2.2.2.2.2.2.2.2.2.2.2.2.2.2.2.2.2.2.2.2.2.2.2.2.2.2.2.2.2.2.2.2.2.2.2.2.1 x88.2.2.2.2.2.2.2.2.2.2.2.2.2.2.2.2.2.2.2.2.2.2.2.2.2.2.2.2.2.2.2.2.2.2.2.2.2.2.2.2.2.2.2.2.2.2.2.2.2.2.2.2.2.2.2.2.2.2.2.2.2.2.2.1 x88.2.2.2.2.2.2.2.2.2.2.2.2.2.2.2.2.2.2.2.2.2.2.2.2.2.2.2.2.2.2.2.2.2.2.2.2.2.2.2.2.2.2.2.2.2.2.2.2.2.2.2.2.2.2.2.2.2.2.2.2.2.2.2.2.1 x88.2.2.2.2.2.2.2.2.2.2.2.2.2.2.2.2.2.2.2.2.2.2.2.2.2.2.2.2.2.2.2.2.2.2.2.2.2.2.2.2.2.2.2.2.2.2.2.2.2.2.2.2.2.2.2.2.2.2.2.2.2.2.2.2.2.1 x88.2.2.2.2.2.2.2.2.2.2.2.2.2.2.2.2.2.2.2.2.2.2.2.2.2.2.2.2.2.2.2.2.2.2.2.2.2.2.2.2.2.2.2.2.2.2.2.2.2.2.2.2.2.2.2.2.2.2.2.2.2.2.2.2.2.2.1 x88.2.2.2.2.2.2.2.2.2.2.2.2.2.2.2.2.2.2.2.2.2.2.2.2.2.2.2.2.2.2.2.2.2.2.2.2.2.2.2.2.2.2.2.2.2.2.2.2.2.2.2.2.2.2.2.2.2.2.2.2.2.2.2.2.2.2.2.1 x88.2.2.2.2.2.2.2.2.2.2.2.2.2.2.2.2.2.2.2.2.2.2.2.2.2.2.2.2.2.2.2.2.2.2.2.2.2.2.2.2.2.2.2.2.2.2.2.2.2.2.2.2.2.2.2.2.2.2.2.2.2.2.2.2.2.2.2.2.1 x88.2.2.2.2.2.2.2.2.2.2.2.2.2.2.2.2.2.2.2.2.2.2.2.2.2.2.2.2.2.2.2.2.2.2.2.2.2.2.2.2.2.2.2.2.2.2.2.2.2.2.2.2.2.2.2.2.2.2.2.2.2.2.2.2.2.2.2.2.2.1 x88.2.2.2.2.2.2.2.2.2.2.2.2.2.2.2.2.2.2.2.2.2.2.2.2.2.2.2.2.2.2.2.2.2.2.2.2.2.2.2.2.2.2.2.2.2.2.2.2.2.2.2.2.2.2.2.2.2.2.2.2.2.2.2.2.2.2.2.2.2.2.1 x88.2.2.2.2.2.2.2.2.2.2.2.2.2.2.2.2.2.2.2.2.2.2.2.2.2.2.2.2.2.2.2.2.2.2.2.2.2.2.2.2.2.2.2.2.2.2.2.2.2.2.2.2.2.2.2.2.2.2.2.2.2.2.2.2.2.2.2.2.2.2.2.1 x88.2.2.2.2.2.2.2.2.2.2.2.2.2.2.2.2.2.2.2.2.2.2.2.2.2.2.2.2.2.2.2.2.2.2.2.2.2.2.2.2.2.2.2.2.2.2.2.2.2.2.2.2.2.2.2.2.2.2.2.2.2.2.2.2.2.2.2.2.2.2.2.2.1 x88.2.2.2.2.2.2.2.2.2.2.2.2.2.2.2.2.2.2.2.2.2.2.2.2.2.2.2.2.2.2.2.2.2.2.2.2.2.2.2.2.2.2.2.2.2.2.2.2.2.2.2.2.2.2.2.2.2.2.2.2.2.2.2.2.2.2.2.2.2.2.2.2.2.1 x88.2.2.2.2.2.2.2.2.2.2.2.2.2.2.2.2.2.2.2.2.2.2.2.2.2.2.2.2.2.2.2.2.2.2.2.2.2.2.2.2.2.2.2.2.2.2.2.2.2.2.2.2.2.2.2.2.2.2.2.2.2.2.2.2.2.2.2.2.2.2.2.2.2.2.1 x88.2.2.2.2.2.2.2.2.2.2.2.2.2.2.2.2.2.2.2.2.2.2.2.2.2.2.2.2.2.2.2.2.2.2.2.2.2.2.2.2.2.2.2.2.2.2.2.2.2.2.2.2.2.2.2.2.2.2.2.2.2.2.2.2.2.2.2.2.2.2.2.2.2.2.2.1 x88.2.2.2.2.2.2.2.2.2.2.2.2.2.2.2.2.2.2.2.2.2.2.2.2.2.2.2.2.2.2.2.2.2.2.2.2.2.2.2.2.2.2.2.2.2.2.2.2.2.2.2.2.2.2.2.2.2.2.2.2.2.2.2.2.2.2.2.2.2.2.2.2.2.2.2.2.1 x88.2.2.2.2.2.2.2.2.2.2.2.2.2.2.2.2.2.2.2.2.2.2.2.2.2.2.2.2.2.2.2.2.2.2.2.2.2.2.2.2.2.2.2.2.2.2.2.2.2.2.2.2.2.2.2.2.2.2.2.2.2.2.2.2.2.2.2.2.2.2.2.2.2.2.2.2.2.1 x88.2.2.2.2.2.2.2.2.2.2.2.2.2.2.2.2.2.2.2.2.2.2.2.2.2.2.2.2.2.2.2.2.2.2.2.2.2.2.2.2.2.2.2.2.2.2.2.2.2.2.2.2.2.2.2.2.2.2.2.2.2.2.2.2.2.2.2.2.2.2.2.2.2.2.2.2.2.2.1 x88.2.2.2.2.2.2.2.2.2.2.2.2.2.2.2.2.2.2.2.2.2.2.2.2.2.2.2.2.2.2.2.2.2.2.2.2.2.2.2.2.2.2.2.2.2.2.2.2.2.2.2.2.2.2.2.2.2.2.2.2.2.2.2.2.2.2.2.2.2.2.2.2.2.2.2.2.2.2.2.1 x88.2.2.2.2.2.2.2.2.2.2.2.2.2.2.2.2.2.2.2.2.2.2.2.2.2.2.2.2.2.2.2.2.2.2.2.2.2.2.2.2.2.2.2.2.2.2.2.2.2.2.2.2.2.2.2.2.2.2.2.2.2.2.2.2.2.2.2.2.2.2.2.2.2.2.2.2.2.2.2.2.1 x88.2.2.2.2.2.2.2.2.2.2.2.2.2.2.2.2.2.2.2.2.2.2.2.2.2.2.2.2.2.2.2.2.2.2.2.2.2.2.2.2.2.2.2.2.2.2.2.2.2.2.2.2.2.2.2.2.2.2.2.2.2.2.2.2.2.2.2.2.2.2.2.2.2.2.2.2.2.2.2.2.2.1 x88.2.2.2.2.2.2.2.2.2.2.2.2.2.2.2.2.2.2.2.2.2.2.2.2.2.2.2.2.2.2.2.2.2.2.2.2.2.2.2.2.2.2.2.2.2.2.2.2.2.2.2.2.2.2.2.2.2.2.2.2.2.2.2.2.2.2.2.2.2.2.2.2.2.2.2.2.2.2.2.2.2.2.1 x88.2.2.2.2.2.2.2.2.2.2.2.2.2.2.2.2.2.2.2.2.2.2.2.2.2.2.2.2.2.2.2.2.2.2.2.2.2.2.2.2.2.2.2.2.2.2.2.2.2.2.2.2.2.2.2.2.2.2.2.2.2.2.2.2.2.2.2.2.2.2.2.2.2.2.2.2.2.2.2.2.2.2.2.1 x88.2.2.2.2.2.2.2.2.2.2.2.2.2.2.2.2.2.2.2.2.2.2.2.2.2.2.2.2.2.2.2.2.2.2.2.2.2.2.2.2.2.2.2.2.2.2.2.2.2.2.2.2.2.2.2.2.2.2.2.2.2.2.2.2.2.2.2.2.2.2.2.2.2.2.2.2.2.2.2.2.2.2.2.2.1 x88.2.2.2.2.2.2.2.2.2.2.2.2.2.2.2.2.2.2.2.2.2.2.2.2.2.2.2.2.2.2.2.2.2.2.2.2.2.2.2.2.2.2.2.2.2.2.2.2.2.2.2.2.2.2.2.2.2.2.2.2.2.2.2.2.2.2.2.2.2.2.2.2.2.2.2.2.2.2.2.2.2.2.2.2.2.1 x88.2.2.2.2.2.2.2.2.2.2.2.2.2.2.2.2.2.2.2.2.2.2.2.2.2.2.2.2.2.2.2.2.2.2.2.2.2.2.2.2.2.2.2.2.2.2.2.2.2.2.2.2.2.2.2.2.2.2.2.2.2.2.2.2.2.2.2.2.2.2.2.2.2.2.2.2.2.2.2.2.2.2.2.2.2.2.1 x88.2.2.2.2.2.2.2.2.2.2.2.2.2.2.2.2.2.2.2.2.2.2.2.2.2.2.2.2.2.2.2.2.2.2.2.2.2.2.2.2.2.2.2.2.2.2.2.2.2.2.2.2.2.2.2.2.2.2.2.2.2.2.2.2.2.2.2.2.2.2.2.2.2.2.2.2.2.2.2.2.2.2.2.2.2.2.2.1 x88.2.2.2.2.2.2.2.2.2.2.2.2.2.2.2.2.2.2.2.2.2.2.2.2.2.2.2.2.2.2.2.2.2.2.2.2.2.2.2.2.2.2.2.2.2.2.2.2.2.2.2.2.2.2.2.2.2.2.2.2.2.2.2.2.2.2.2.2.2.2.2.2.2.2.2.2.2.2.2.2.2.2.2.2.2.2.2.2.1 x88.2.2.2.2.2.2.2.2.2.2.2.2.2.2.2.2.2.2.2.2.2.2.2.2.2.2.2.2.2.2.2.2.2.2.2.2.2.2.2.2.2.2.2.2.2.2.2.2.2.2.2.2.2.2.2.2.2.2.2.2.2.2.2.2.2.2.2.2.2.2.2.2.2.2.2.2.2.2.2.2.2.2.2.2.2.2.2.2.2.1 x88.2.2.2.2.2.2.2.2.2.2.2.2.2.2.2.2.2.2.2.2.2.2.2.2.2.2.2.2.2.2.2.2.2.2.2.2.2.2.2.2.2.2.2.2.2.2.2.2.2.2.2.2.2.2.2.2.2.2.2.2.2.2.2.2.2.2.2.2.2.2.2.2.2.2.2.2.2.2.2.2.2.2.2.2.2.2.2.2.2.2.1 x88.2.2.2.2.2.2.2.2.2.2.2.2.2.2.2.2.2.2.2.2.2.2.2.2.2.2.2.2.2.2.2.2.2.2.2.2.2.2.2.2.2.2.2.2.2.2.2.2.2.2.2.2.2.2.2.2.2.2.2.2.2.2.2.2.2.2.2.2.2.2.2.2.2.2.2.2.2.2.2.2.2.2.2.2.2.2.2.2.2.2.2.1 x88.2.2.2.2.2.2.2.2.2.2.2.2.2.2.2.2.2.2.2.2.2.2.2.2.2.2.2.2.2.2.2.2.2.2.2.2.2.2.2.2.2.2.2.2.2.2.2.2.2.2.2.2.2.2.2.2.2.2.2.2.2.2.2.2.2.2.2.2.2.2.2.2.2.2.2.2.2.2.2.2.2.2.2.2.2.2.2.2.2.2.2.2.1 x88.2.2.2.2.2.2.2.2.2.2.2.2.2.2.2.2.2.2.2.2.2.2.2.2.2.2.2.2.2.2.2.2.2.2.2.2.2.2.2.2.2.2.2.2.2.2.2.2.2.2.2.2.2.2.2.2.2.2.2.2.2.2.2.2.2.2.2.2.2.2.2.2.2.2.2.2.2.2.2.2.2.2.2.2.2.2.2.2.2.2.2.2.2.1 x88.2.2.2.2.2.2.2.2.2.2.2.2.2.2.2.2.2.2.2.2.2.2.2.2.2.2.2.2.2.2.2.2.2.2.2.2.2.2.2.2.2.2.2.2.2.2.2.2.2.2.2.2.2.2.2.2.2.2.2.2.2.2.2.2.2.2.2.2.2.2.2.2.2.2.2.2.2.2.2.2.2.2.2.2.2.2.2.2.2.2.2.2.2.2 24 8 x82.Cells x82.Free x82.Used (((List.replicate 64 (⟨0,0,0,0,0,false⟩ : dA) : (List dA)))) (-1) ([] : (List Int))) fun x93 =>
          some (true,0)
        ) else (
          some (true,0)
        )
      )
    )
def oT (a0 : fK) : Option (Bool × Int) :=
  bno (kN a0.Values) fun x1 =>
  bnd (!decide (x1 = 0)) fun x2 =>
  bif x2 then (
    some (false,x1)
  ) else (
    bnd (decide (a0.Paths < 1)) fun x4 =>
    bnd (decide (4 < a0.Paths)) fun x5 =>
    bnd (x4 || x5) fun x6 =>
    bif x6 then (
      some (false,8)
    ) else (
      bno (pT) fun x8 =>
      bno (rB) fun x9 =>
      bno (uN) fun x10 =>
      fC a0 x8 x9 x10 fuel 0 ((List.replicate 4 ((⟨(⟨0,0,0,0,0⟩ : cF),(⟨0,[],0,[],[]⟩ : dZ),(⟨0,[],[]⟩ : cM),(⟨0,0,false,0⟩ : eU),(⟨0,0,0⟩ : eQ),0,0,0,0,0,false⟩ : bI)) : (List bI)))
    )
  )

def jE (a0 : bF) : Nat → Int → Bool → Bool → Option (Bool × Int)
  | 0,_,_,_=>none
  | n0 + 1, v8, v9, v24 =>
    bnd (decide (v8 < 2)) fun x39 =>
    bif x39 then (
      bnd (decide (v8 = 0)) fun x41 =>
      chk (0 ≤ v8 ∧ v8 < 2) <|bno (gix ([a0.Values.c0,a0.Values.c1] : List bL) v8) fun x43 =>
      chk (0 ≤ v8 ∧ v8 < 2) <|bno (gix ([a0.First.c0,a0.First.c1] : List Int) v8) fun x45 =>
      bno (oT (⟨x41,a0.Paths,x43,x45⟩ : fK)) fun x46 =>
      bnd (!decide (x46.2 = 0)) fun x47 =>
      bif x47 then (
        some (false,x46.2)
      ) else (
        chk (0 ≤ v8 ∧ v8 < 2) <|bnd (bif decide (v8 = 0) then x46.1 else v9) fun x50 =>
        bnd (bif decide (v8 = 1) then x46.1 else v24) fun x51 =>
        bnd (IntKind.wrap .i64 (v8 + 1)) fun x52 =>
        (jE a0 n0) x52 x50 x51
      )
    ) else (
      some (true,0)
    )
def rN (a0 : bF) : Option (Bool × Int) :=
  jE a0 fuel 0 false false

def fM (a0 : bF) : Option Bool :=
  bno (lL a0) fun x1 =>
  bno (iH x1) fun x2 =>
  bno (gR x1) fun x3 =>
  bnd (!decide (x3 = 0)) fun x4 =>
  bif x4 then (
    bno (gR x1) fun x6 =>
    bnd (decide (x2.2 = x6)) fun x7 =>
    bnd (decide (x2.1 = ([] : List UInt8))) fun x8 =>
    bnd (x7 && x8) fun x9 =>
    bno (gd (x9 == true) (iU) default) fun x10 =>
    bnd (x9 && x10) fun x11 =>
    some x11
  ) else (
    bnd (!decide (x2.2 = 0)) fun x12 =>
    bnd (decide (x2.1 = ([] : List UInt8))) fun x13 =>
    bnd (x12 || x13) fun x14 =>
    bif x14 then (
      some false
    ) else (
      bno (eN x2.1) fun x16 =>
      bnd (IntKind.wrap .i64 ((x2.1.length : Int) - 1)) fun x17 =>
      bno (cut x2.1 0 x17) fun x18 =>
      bno (eN x18) fun x19 =>
      bno (rN x16.1) fun x20 =>
      bno (lK x16.1) fun x21 =>
      bnd ((decide (x21.Paths = a0.Paths) && (((decide (x21.Values.c0.Streams = a0.Values.c0.Streams) && (decide (x21.Values.c0.Window = a0.Values.c0.Window) && (decide (x21.Values.c0.Whole = a0.Values.c0.Whole) && (decide (x21.Values.c0.Chunk = a0.Values.c0.Chunk) && true)))) && ((decide (x21.Values.c1.Streams = a0.Values.c1.Streams) && (decide (x21.Values.c1.Window = a0.Values.c1.Window) && (decide (x21.Values.c1.Whole = a0.Values.c1.Whole) && (decide (x21.Values.c1.Chunk = a0.Values.c1.Chunk) && true)))) && true)) && ((decide (x21.First.c0 = a0.First.c0) && (decide (x21.First.c1 = a0.First.c1) && true)) && true)))) fun x22 =>
      bnd (decide (x16.2.1 = 0)) fun x23 =>
      bnd (x22 && x23) fun x24 =>
      bnd (decide (x16.2.2 = 0)) fun x25 =>
      bnd (x24 && x25) fun x26 =>
      bnd (decide (x19.2.1 = 0)) fun x27 =>
      bnd (x26 && x27) fun x28 =>
      bnd (decide (x19.2.2 = 3)) fun x29 =>
      bnd (x28 && x29) fun x30 =>
      bnd (x30 && x20.1) fun x31 =>
      bnd (decide (x20.2 = 0)) fun x32 =>
      bnd (x31 && x32) fun x33 =>
      bno (gd (x33 == true) (iI x16.1) default) fun x34 =>
      bno (gd (x33 == true) (iI x1) default) fun x35 =>
      bnd (decide (x34 = x35)) fun x36 =>
      bnd (x33 && x36) fun x37 =>
      bno (gd (x37 == true) (iU) default) fun x38 =>
      bnd (x37 && x38) fun x39 =>
      some x39
    )
  )
end Go.Fn
open Go Go.IL
namespace Go.Fn

set_option maxRecDepth 20000 in
theorem lenJ2 {a c : Int} (h0 : 0 ≤ a) (h1 : a < 256) (h2 : 0 ≤ c) (h3 : c ≤ 56) : fZ a c = some (c + (blen a.toNat : Int)):=by
  have hb:=aGi (n:=a.toNat) (by omega)
  unfold fZ
  rw [iJ,wU8 h0 h1]
  have e:=len8_at h0 h1
  rw [aBK _ h0]
  have e2 : ∀ l : List UInt8,l = Go.IL.len8 → l[a.toNat]? = some (UInt8.ofNat (blen a.toNat)):=fun l hl=>hl ▸ e
  refine (congrArg (fun o=>bno o _) (e2 _ (by rfl))).trans ?_
  rw [dG,iJ,iJ]
  have hn : (UInt8.ofNat (blen a.toNat)).toNat = blen a.toNat:=by
    rw [UInt8.toNat_ofNat']; exact Nat.mod_eq_of_lt (by omega)
  rw [hn,w64 (n:=(blen a.toNat : Int)) (by omega) (by omega),w64 (by omega) (by omega)]
theorem aA6 {a : Int} {k : Nat} (h0 : 0 ≤ a) (h : (2 : Int) ^ k ≤ a) : (blen a.toNat : Int) = k + (blen (a / 2 ^ k).toNat : Int):=by
  have e : (a / 2 ^ k).toNat = a.toNat / 2 ^ k:=by
    obtain ⟨x,rfl⟩:=Int.eq_ofNat_of_zero_le h0
    rw [show (2 : Int) ^ k = ((2 ^ k : Nat) : Int) by simp,← Int.natCast_ediv]; simp only [Int.toNat_natCast]
  have hh : 2 ^ k ≤ a.toNat:=by
    have : ((2 ^ k : Nat) : Int) = (2 : Int) ^ k:=by simp
    omega
  rw [e,aGj hh]; omega
theorem lenJ1 {a c : Int} (h0 : 0 ≤ a) (h1 : a < 65536) (h2 : 0 ≤ c) (h3 : c ≤ 48) : gA a c = some (c + (blen a.toNat : Int)):=by
  unfold gA
  rw [iJ]
  by_cases h : 256 ≤ a
  · have e := aA6 (k := 8) h0 (by omega)
    rw [decide_eq_true h,cond_true,yQ (k:=.u64) (b:=8) 8 rfl (by decide),dG,iJ,w64 (by omega) (by omega),lenJ2 (by omega) (by omega) (by omega) (by omega),e]
    congr 1; omega
  · rw [decide_eq_false h,cond_false,lenJ2 h0 (by omega) h2 (by omega)]
theorem lenJ0 {a c : Int} (h0 : 0 ≤ a) (h1 : a < 4294967296) (h2 : 0 ≤ c) (h3 : c ≤ 32) : gB a c = some (c + (blen a.toNat : Int)):=by
  unfold gB
  rw [iJ]
  by_cases h : 65536 ≤ a
  · have e := aA6 (k := 16) h0 (by omega)
    rw [decide_eq_true h,cond_true,yQ (k:=.u64) (b:=16) 16 rfl (by decide),dG,iJ,w64 (by omega) (by omega),lenJ1 (by omega) (by omega) (by omega) (by omega),e]
    congr 1; omega
  · rw [decide_eq_false h,cond_false,lenJ1 h0 (by omega) h2 (by omega)]
theorem aGF {a : Int} (h0 : 0 ≤ a) (h1 : a < 18446744073709551616) : kK a = some (blen a.toNat : Int):=by
  unfold kK
  rw [iJ]
  by_cases h : 4294967296 ≤ a
  · have e := aA6 (k := 32) h0 (by omega)
    rw [decide_eq_true h,cond_true,yQ (k:=.u64) (b:=32) 32 rfl (by decide),dG,lenJ0 (by omega) (by omega) (by omega) (by omega),e]
    congr 1
  · rw [decide_eq_false h, cond_false, lenJ0 h0 (by omega) (by omega) (by omega)]
    congr 1; omega
theorem len_is {a : Int} (h0 : 0 ≤ a) (h1 : a < 18446744073709551616) : mI a = some (blen a.toNat : Int):=by
  unfold mI; rw [aGF h0 h1]; rfl

theorem aE3 {n : Int} (hb : ¬ vbad n) : ∀ (k : Nat) (i : Int),(4 - i).toNat < k → 0 ≤ i → i ≤ gY n → iN n k i = some (gY n):=by
  have hn : 0 ≤ n ∧ n ≤ 4611686018427387903:=by unfold vbad at hb; omega
  have hr:=qK n
  intro k
  induction k with
  | zero=>intro i h; omega
  | succ k ih =>
    intro i h h0 hi
    unfold iN
    have hs:=aE2 hn.1 hn.2 h0 (show i < 4 by omega)
    have hr2:=aEX h0 (show i < 4 by omega)
    simp only [iJ,decide_eq_true (show i < 4 by omega),cond_true,wU64 hn.1 (show n < 18446744073709551616 by omega),len_is hn.1 (show n < 18446744073709551616 by omega),dG,aEY (yR (.inl rfl) h0 (show i < 4 by omega))]
    rw [w64 (by omega) (by omega),w64 (by omega) (by omega)]
    by_cases hc : (blen n.toNat : Int) ≤ 8 * 2 ^ i.toNat - 2
    · rw [decide_eq_true hc,cond_true]; congr 1; have:=hs.1 hc; omega
    · rw [decide_eq_false hc,cond_false]; exact ih _ (by omega) (by omega) (by have:=mt hs.2 hc; omega)
theorem aE4 (n : Int) : mX n = some (gY n):=by
  unfold mX
  simp only [iJ]
  by_cases hb : vbad n
  · rw [aEC hb]
    have : (decide (n < 0) || decide (4611686018427387903 < n)) = true:=by simpa [vbad] using hb
    rw [this,cond_true]
  · have : (decide (n < 0) || decide (4611686018427387903 < n)) = false := by simpa [vbad] using hb
    have hk : 0 ≤ gY n:=by rcases sK n with h | h; exact absurd h.1 hb; exact h.2.1
    rw [this,cond_false,aE3 hb _ _ (fB (by decide)) (by omega) hk]

theorem aF7 {n : Int} {m : Nat} (hb : ¬ vbad n) (hm : (nX n).toNat = m + 1) (hk : 0 ≤ gY n) : ∀ (k j : Nat), m + 1 - j < k → j ≤ m + 1 →
    jG (gY n) k (n / 256 ^ j) (List.replicate (m + 1 - j) 0 ++ beb n j) ((m : Int) - j) = some (vput n,0):=by
  have hk3:=(qK n).2
  have hm7 : m ≤ 7:=by have:=qJ n; omega
  intro k
  induction k with
  | zero=>intro j h; omega
  | succ k ih =>
    intro j h hj
    unfold jG
    simp only [iJ]
    by_cases hc : j = m + 1
    · subst hc
      have ht:=aBa hb hm
      rw [decide_eq_false (by omega),cond_false]
      simp only [Nat.sub_self,List.replicate_zero,List.nil_append]
      have eb : beb n (m + 1) = by8 (n / 256 ^ m) :: beb n m:=rfl
      rw [eb]
      simp only [aBK _ (Int.le_refl 0),Int.toNat_zero,List.getElem?_cons_zero,dG,aEY (aDe hk (show gY n < 4 by omega)),List.set_cons_zero]
      rw [wU8 (by omega) (by omega),aCJ]
      have e4 : n / 256 ^ m % 256 = n / 256 ^ m:=Int.emod_eq_of_lt ht.1 (by omega)
      have e3 : orI .u8 (n / 256 ^ m) (64 * gY n) = n / 256 ^ m + 64 * gY n:=int_e (or_mark (by omega) (by omega) hk (by omega)) rfl
      rw [e4,e3,aCM (by omega) (by omega),dG,aCL hm,e4]
      congr 4; omega
    · have hq0 : 0 ≤ n / 256 ^ j := Int.ediv_nonneg (by unfold vbad at hb; omega) (Int.le_of_lt (Int.pow_pos (by decide)))
      obtain ⟨q,hq⟩ : ∃ q,m + 1 - j = q + 1:=⟨m - j,by omega⟩
      have hmj : (m : Int) - j = (q : Int):=by omega
      rw [hmj,decide_eq_true (by omega),cond_true,wrap_u8,hq]
      have e1 : (List.replicate (q + 1) (0 : UInt8) ++ beb n j)[q]? = some 0:=by
        rw [List.getElem?_append_left (by simp),List.getElem?_replicate,if_pos (by omega)]
      simp only [pB,e1,dG,Int.toNat_natCast]
      rw [aCM (by omega) (by omega),dG,aEZ,yQ (k:=.i64) (b:=8) 8 rfl (by decide),dG,w64 (by omega) (by omega)]
      have:=ih (j + 1) (by omega) (by omega)
      rw [show m + 1 - (j + 1) = q by omega,show (m : Int) - ((j + 1 : Nat) : Int) = (q : Int) - 1 by omega,← aDJ] at this
      exact this
theorem aG2 (n : Int) : oO n = some (vput n,if vbad n then 8 else 0):=by
  unfold oO
  rw [aE4,dG,iJ]
  by_cases hb : vbad n
  · rw [decide_eq_true (yH.2 hb),cond_true,aFp hb,if_pos hb]
  · have hk : 0 ≤ gY n := by rcases sK n with h | h; exact absurd h.1 hb; exact h.2.1
    obtain ⟨m,hm7,hm,hp,_⟩:=aCw hk
    have hk3:=(qK n).2
    rw [decide_eq_false (by omega),cond_false,if_neg hb,aEY (yR (.inr (.inl rfl)) hk (by omega)),dG,Int.one_mul,hp,aCi (by omega) (by omega) (by omega),dG,iJ]
    simp only [Int.toNat_natCast,List.length_replicate]
    rw [w64 (by omega) (by omega)]
    have:=aF7 hb hm hk fuel 0 (fB (by omega)) (by omega)
    simp only [beb,Int.pow_zero,Int.ediv_one,List.append_nil,Nat.sub_zero,Int.natCast_zero,Int.sub_zero] at this
    rw [show ((m + 1 : Nat) : Int) - 1 = (m : Int) by omega]
    exact this
theorem aGZ {b : UInt8} {q : List UInt8} {x6 : Int} (hq : q.length ≤ 7) : ∀ (k j : Nat), q.length - j < k → j ≤ q.length →
    jH ((b.toNat / 64 : Nat) : Int) x6 q k (beN (b.toNat % 64) (q.take j)) (j : Int) = some (if gY (beN (b.toNat % 64) q) = ((b.toNat / 64 : Nat) : Int) then (beN (b.toNat % 64) q,x6,0) else (0,0,4)):=by
  intro k
  induction k with
  | zero=>intro j h; omega
  | succ k ih =>
    intro j h hj
    unfold jH
    simp only [iJ]
    have ha:=get_acc (b:=b) (l:=q) j hj (by omega)
    by_cases hc : j = q.length
    · subst hc
      rw [decide_eq_false (by omega),cond_false,aE4,dG,List.take_length]
      by_cases hv : gY (beN (b.toNat % 64) q) = ((b.toNat / 64 : Nat) : Int)
      · rw [decide_eq_true hv,if_pos hv]; rfl
      · rw [decide_eq_false hv,if_neg hv]; rfl
    · have hlt : j < q.length := by omega
      have hc8:=(q[j]).toNat_lt
      have h6:=ha.2.2 (by omega)
      rw [decide_eq_true (by omega),cond_true,pB,List.getElem?_eq_getElem hlt,dG,aEY (shl_8 ha.1 (by omega)),dG,w64 (n:=((q[j]).toNat : Int)) (by omega) (by omega)]
      have e : orI .i64 (beN (b.toNat % 64) (q.take j) * 256) ((q[j]).toNat : Int) = beN (b.toNat % 64) (q.take (j + 1)):=by
        rw [aGk (List.getElem?_eq_getElem hlt)]
        exact int_e (or_low ha.1 (by omega) (by omega) (by omega)) rfl
      rw [e,w64 (by omega) (by omega)]
      exact ih (j + 1) (by omega) (by omega)
theorem aFM (s : List UInt8) : mZ s = some (vget s):=by
  unfold mZ
  simp only [iJ]
  cases s with
  | nil=>rfl
  | cons b r =>
    have hb:=b.toNat_lt
    have hk:=Go.IL.k4 b
    have hp:=aAw hk
    rw [decide_eq_false (by simp),cond_false]
    simp only [aBK _ (Int.le_refl 0),Int.toNat_zero,List.getElem?_cons_zero,dG]
    rw [yQ (k:=.u8) (b:=6) 6 rfl (by decide),dG]
    have e1 : ((b.toNat : Int) / 2 ^ 6) = ((b.toNat / 64 : Nat) : Int):=rfl
    rw [e1,w64 (by omega) (by omega),aEY (yR (.inr (.inl rfl)) (by omega) (by omega)),dG,Int.one_mul,Int.toNat_natCast]
    have e2 : (2 : Int) ^ (b.toNat / 64) = ((2 ^ (b.toNat / 64) : Nat) : Int):=by simp
    rw [e2]
    by_cases hh : (b :: r).length < 2 ^ (b.toNat / 64)
    · rw [decide_eq_true (by omega),cond_true,sL hh]
    · rw [decide_eq_false (by omega), cond_false]
      have e3 : andI .u8 (b.toNat : Int) 63 = (b.toNat : Int) % 64:=int_e (and63 b) rfl
      rw [e3,w64 (by omega) (by omega),aDM (by omega) (by omega) (by omega),dG,aDd hp.1]
      have hl:=aFL hh
      have:=aGZ (b:=b) (x6:=((2 ^ (b.toNat / 64) : Nat) : Int)) (q:=r.take (2 ^ (b.toNat / 64) - 1)) (by omega) fuel 0 (fB (by omega)) (by omega)
      simp only [List.take_zero,beN,List.foldl_nil,Int.natCast_zero] at this
      rw [this]
      simp only [vget,if_neg hh,beN]
end Go.Fn
