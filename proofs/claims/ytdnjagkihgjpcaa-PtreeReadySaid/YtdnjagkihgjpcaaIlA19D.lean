/-
  A part of the proof: rules and plain facts. No condition.
-/
import Derived.Test.YtdnjagkihgjpcaaIlBd
import Derived.Shelf.Sort.Plain
import Derived.Shelf.Slices.In.SortNone
import Derived.Shelf.SlSortCmp.WholeK
import Derived.Shelf.SlSortCmp.NoneTotal
set_option linter.all false
namespace Go.IL
def mixD {α : Type} (f : Enc0 α) (pre : List D) (xs : List α) (post : List D) : List D:=pre ++ (D.flat (xs.map f.d) ++ post)
section
variable {P : Program} {O : bP} {N : Nat} {S S' : St} {o : Oper} {t : Nat} {α : Type}
theorem oF (f : Enc0 α) (pre : List D) (xs : List α) (post : List D) : (mixD f pre xs post).length = pre.length + (xs.length * f.sz + post.length):=by
  unfold mixD
  rw [List.length_append,List.length_append,f.flat_len]
theorem xX (f : Enc0 α) {pre : List D} (xs : List α) (post : List D) {off : Nat} (h : off ≤ pre.length) : (mixD f pre xs post).drop off = pre.drop off ++ (D.flat (xs.map f.d) ++ post):=by
  unfold mixD
  rw [List.drop_append_of_le_length h]
theorem zS (f : Enc0 α) (pre : List D) {xs : List α} {post : List D} {n off k : Nat} (hl : xs.length = n) (ho : off = pre.length + n * f.sz + k) : (mixD f pre xs post).drop off = post.drop k:=by
  unfold mixD
  have h1:=f.flat_len xs
  rw [hl] at h1
  rw [ho,Nat.add_assoc,List.drop_append,List.drop_of_length_le (by omega),List.nil_append,show pre.length + (n * f.sz + k) - pre.length = n * f.sz + k by omega,List.drop_append,List.drop_of_length_le (by omega),List.nil_append,show n * f.sz + k - (D.flat (xs.map f.d)).length = k by omega]
theorem xY (f : Enc0 α) {pre : List D} {xs : List α} {post : List D} {b i k : Nat} {a : α} (hb : pre.length = b) (ha : xs[i]? = some a) (hk : k ≤ f.sz) : ∃ q,(mixD f pre xs post).drop (b + (i * f.sz + k)) = (f.d a).cells.drop k ++ q:=by
  obtain ⟨q,hq⟩:=f.drop_at ha k hk
  have hlt:=(List.getElem?_eq_some_iff.1 ha).1
  have hle : (i + 1) * f.sz ≤ xs.length * f.sz:=Nat.mul_le_mul_right _ (by omega)
  rw [Nat.add_mul,Nat.one_mul] at hle
  refine ⟨q ++ post,?_⟩
  unfold mixD
  rw [List.drop_append,List.drop_of_length_le (by omega),List.nil_append,show b + (i * f.sz + k) - pre.length = i * f.sz + k by omega,List.drop_append_of_le_length (by rw [f.flat_len]; omega),hq,List.append_assoc]
theorem xZ {f : Enc0 α} {pre post : List D} {xs : List α} {a : α} {b i k size : Nat} (hb : pre.length = b) (ha : xs[i]? = some a) (hn : k + size ≤ f.sz) : b + (i * f.sz + k) + size ≤ (mixD f pre xs post).length:=by
  have hlt:=(List.getElem?_eq_some_iff.1 ha).1
  have hle : (i + 1) * f.sz ≤ xs.length * f.sz:=Nat.mul_le_mul_right _ (by omega)
  rw [Nat.add_mul,Nat.one_mul] at hle
  rw [oF]; omega
section loads
variable (f : Enc0 α) {T : TypeId} {x : Operand} {u : TypeDesc} {z : Option Value} {size bytes : Nat} {id off : Nat} {e : TypeId} {pre post r cs : List D} {xs : List α} {d : D}
theorem nJ (ho : o.op = .load T x) (hd : o.dst = some t) (ht : t < N) (hu : P.underlying T = some u) (hg : hD P T = false) (hi : TI P T z size bytes) (h1 : 0 < size) (hx : SV S x (.ref id off)) (he : S.ent id = .blk e (mixD f pre xs post)) (hn : off + size ≤ pre.length)
    (hdd : pre.drop off = d :: r) : IOp P O N o S (S.set t d) :=
  aK ho hd ht hu hg hi h1 hx he (by rw [oF]; omega) (r:=r ++ (D.flat (xs.map f.d) ++ post)) (by rw [xX f xs post (by omega),hdd]; rfl)
theorem lL (ho : o.op = .load T x) (hd : o.dst = some t) (ht : t < N) (hu : P.underlying T = some u) (hg : hD P T = true) (hi : TI P T z size bytes) (h1 : 0 < size) (hx : SV S x (.ref id off)) (he : S.ent id = .blk e (mixD f pre xs post)) (hn : off + size ≤ pre.length)
    (hdd : (pre.drop off).take size = cs) : IOp P O N o S (S.set t (.agg cs)) :=
  kH ho hd ht hu hg hi h1 hx he (by rw [oF]; omega) (by rw [xX f xs post (by omega),List.take_append_of_le_length (by rw [List.length_drop]; omega)]; exact hdd)
theorem eR {n k : Nat} (ho : o.op = .load T x) (hd : o.dst = some t) (ht : t < N) (hu : P.underlying T = some u) (hg : hD P T = false) (hi : TI P T z size bytes) (h1 : 0 < size) (hx : SV S x (.ref id off)) (he : S.ent id = .blk e (mixD f pre xs post)) (hl : xs.length = n)
    (hof : off = pre.length + n * f.sz + k) (hn : k + size ≤ post.length) (hdd : post.drop k = d :: r) : IOp P O N o S (S.set t d) :=
  aK ho hd ht hu hg hi h1 hx he (by rw [oF,hl]; omega) (by rw [zS f pre hl hof]; exact hdd)
theorem bL {b i k : Nat} {a : α} (ho : o.op = .load T x) (hd : o.dst = some t) (ht : t < N) (hu : P.underlying T = some u) (hg : hD P T = false) (hi : TI P T z size bytes) (h1 : 0 < size) (hx : SV S x (.ref id (b + (i * f.sz + k)))) (he : S.ent id = .blk e (mixD f pre xs post)) (hb : pre.length = b)
    (ha : xs[i]? = some a) (hn : k + size ≤ f.sz) (hdd : (f.d a).cells.drop k = d :: r) : IOp P O N o S (S.set t d):=by
  obtain ⟨q,hq⟩:=xY (post:=post) f hb ha (show k ≤ f.sz by omega)
  exact aK ho hd ht hu hg hi h1 hx he (xZ hb ha hn) (r:=r ++ q) (by rw [hq,hdd]; rfl)
theorem uI {b i k : Nat} {a : α} (ho : o.op = .load T x) (hd : o.dst = some t) (ht : t < N) (hu : P.underlying T = some u) (hg : hD P T = true) (hi : TI P T z size bytes) (h1 : 0 < size) (hx : SV S x (.ref id (b + (i * f.sz + k)))) (he : S.ent id = .blk e (mixD f pre xs post)) (hb : pre.length = b)
    (ha : xs[i]? = some a) (hn : k + size ≤ f.sz) (hdd : ((f.d a).cells.drop k).take size = cs) : IOp P O N o S (S.set t (.agg cs)):=by
  obtain ⟨q,hq⟩:=xY (post:=post) f hb ha (show k ≤ f.sz by omega)
  exact kH ho hd ht hu hg hi h1 hx he (xZ hb ha hn) (by rw [hq,List.take_append_of_le_length (by rw [List.length_drop,(f.fl a).1]; omega)]; exact hdd)
end loads
theorem pM {A Z C : List D} {off : Nat} (h : off + C.length ≤ A.length) : iJ (A ++ Z) off C = iJ A off C ++ Z:=by
  unfold iJ
  rw [List.take_append_of_le_length (by omega),List.drop_append_of_le_length (by omega)]; simp
theorem mN {A Z C : List D} {off k : Nat} (h : off = A.length + k) : iJ (A ++ Z) off C = A ++ iJ Z k C:=by
  unfold iJ
  rw [h,List.take_append,List.take_of_length_le (by omega),show A.length + k - A.length = k by omega,List.drop_append,List.drop_of_length_le (by omega),List.nil_append,show A.length + k + C.length - A.length = k + C.length by omega]; simp
section stores
variable (f : Enc0 α) {T : TypeId} {x y : Operand} {z : Option Value} {size bytes : Nat} {id off : Nat} {e : TypeId} {pre pre' post post' : List D} {xs zs : List α} {d : D}
theorem oI (ho : o.op = .store T x y) (hd : o.dst = none) (hi : TI P T z size bytes) (hx : SV S x (.ref id off)) (he : S.ent id = .blk e (mixD f pre xs post)) (hy : SV S y d) (hb : d.boxable = true) (hsz : d.cells.length = size) (h1 : d.cells.all D.one = true)
    (hn : off + size ≤ pre.length) (hds : iJ pre off d.cells = pre') : IOp P O N o S (S.setE id (.blk e (mixD f pre' xs post))) :=
  eM ho hd hi hx he hy hb hsz h1 (by rw [oF]; omega) (by unfold mixD; rw [pM (by omega),hds])
theorem mE {n k : Nat} (ho : o.op = .store T x y) (hd : o.dst = none) (hi : TI P T z size bytes) (hx : SV S x (.ref id off)) (he : S.ent id = .blk e (mixD f pre xs post)) (hy : SV S y d) (hb : d.boxable = true) (hsz : d.cells.length = size) (h1 : d.cells.all D.one = true)
    (hl : xs.length = n) (hof : off = pre.length + n * f.sz + k) (hn : k + size ≤ post.length) (hds : iJ post k d.cells = post') : IOp P O N o S (S.setE id (.blk e (mixD f pre xs post'))):=by
  have hfl:=f.flat_len xs
  rw [hl] at hfl
  exact eM ho hd hi hx he hy hb hsz h1 (by rw [oF,hl]; omega) (by unfold mixD; rw [mN (A:=pre) (k:=n * f.sz + k) (by omega),mN (k:=k) (by omega),hds])
theorem gI {b i k : Nat} {a a' : α} (ho : o.op = .store T x y) (hd : o.dst = none) (hi : TI P T z size bytes) (hx : SV S x (.ref id (b + (i * f.sz + k)))) (he : S.ent id = .blk e (mixD f pre xs post)) (hy : SV S y d) (hb : d.boxable = true) (hsz : d.cells.length = size) (h1 : d.cells.all D.one = true)
    (hpb : pre.length = b) (ha : xs[i]? = some a) (hn : k + size ≤ f.sz) (hs : iJ (f.d a).cells k d.cells = (f.d a').cells) (hz : xs.set i a' = zs) : IOp P O N o S (S.setE id (.blk e (mixD f pre zs post))):=by
  subst hz
  have hlt:=(List.getElem?_eq_some_iff.1 ha).1
  have hle : (i + 1) * f.sz ≤ xs.length * f.sz:=Nat.mul_le_mul_right _ (by omega)
  rw [Nat.add_mul,Nat.one_mul] at hle
  refine eM ho hd hi hx he hy hb hsz h1 (xZ hpb ha hn) ?_
  unfold mixD
  rw [mN (A:=pre) (k:=i * f.sz + k) (by omega),pM (by rw [f.flat_len]; omega),f.flat_set (by omega) ha hs]
end stores
theorem bW (f : Enc0 α) {T e : TypeId} {len b : Nat} {x y : Operand} {xs : List α} {a : α} {k : IntKind} {n : Int} {z : Option Value} {bytes : Nat} {id : Nat} (ho : o.op = .indexAddr T x y) (hd : o.dst = some t) (ht : t < N)
    (hu : P.underlying T = some (.array len e)) (hi : TI P e z f.sz bytes) (hx : SV S x (.ref id b)) (hl : xs.length = len) (hy : SV S y (.int k n)) (hn : gix xs n = some a) :
    IOp P O N o S (S.set t (.ref id (b + (n.toNat * f.sz + 0)))) :=
  nZ ho hd ht hu hi hx hy (qS hn).1 (hl ▸ (List.getElem?_eq_some_iff.1 (qS hn).2).1) (by omega)
theorem bG {T : TypeId} {x : Operand} {i : Nat} {fs : Array Field} {F : Field} {z : Option Value} {size bytes : Nat} {id b j k : Nat} (ho : o.op = .fieldAddr T x i) (hd : o.dst = some t) (ht : t < N)
    (hu : P.underlying T = some (.struct fs)) (hf : fs[i]? = some F) (hi : TI P F.type z size bytes) (hs : 0 < size) (hx : SV S x (.ref id (b + (j + k)))) {k' : Nat} (ho' : k + F.offset = k') : IOp P O N o S (S.set t (.ref id (b + (j + k')))) :=
  aU ho hd ht hu hf hi hs hx (by omega)
theorem nB {ρ : Nat → Nat} : ∀ (l m : List D),D.renL ρ (l ++ m) = D.renL ρ l ++ D.renL ρ m
  | [],_=>rfl
  | d :: l,m=>by rw [List.cons_append,D.renL,D.renL,nB l m]; rfl
theorem bS {ρ : Nat → Nat} (f : Enc α) (pre : List D) (xs : List α) (post : List D) : D.renL ρ (mixD f.toEnc0 pre xs post) = mixD f.toEnc0 (D.renL ρ pre) xs (D.renL ρ post):=by
  unfold mixD
  rw [nB,nB,D.renL_bare _ (f.noRef xs)]
theorem rT {p : Nat → Bool} (f : Enc α) {pre : List D} {xs : List α} {post : List D} (h1 : D.refsInL p pre = true) (h2 : D.refsInL p post = true) : D.refsInL p (mixD f.toEnc0 pre xs post) = true:=by
  unfold mixD
  exact kK h1 (kK (D.refsInL_mono _ (f.noRef xs)) h2)
theorem SubC.refl : ∀ l : List D,SubC l l
  | []=>.nil
  | _ :: l=>.same (SubC.refl l)
theorem SubC.append {l l' m m' : List D} (h : SubC l l') (k : SubC m m') : SubC (l ++ m) (l' ++ m'):=by
  induction h with
  | nil=>exact k
  | same _ ih=>exact .same ih
  | nilg _ ih=>exact .nilg ih
  | nilo _ ih=>exact .nilo ih
  | nils _ ih=>exact .nils ih
  | gsl _ ih=>exact .gsl ih
theorem EntW.mix {ρ : Nat → Nat} {id : Nat} {e : TypeId} (f : Enc α) {pre pre' post post' : List D} {xs : List α} (h : S.ent (ρ id) = .blk e (mixD f.toEnc0 pre' xs post')) (h1 : SubC pre' (D.renL ρ pre)) (h2 : SubC post' (D.renL ρ post))
    (r1 : D.refsInL S'.okn pre = true) (r2 : D.refsInL S'.okn post = true) : EntW S S' ρ id (.blk e (mixD f.toEnc0 pre xs post)) :=
  .sub h (by rw [bS]; exact h1.append ((SubC.refl _).append h2)) (rT f r1 r2)
theorem SubC.of_eq {l l' : List D} (h : l = l') : SubC l l':=h ▸ SubC.refl l
theorem fD (f : Enc α) {ρ : Nat → Nat} {i : Nat} {e : TypeId} {pre pre' post post' : List D} {xs : List α} (h : S.ent i = .blk e (mixD f.toEnc0 pre' xs post')) (h1 : pre' = D.renL ρ pre) (h2 : post' = D.renL ρ post) : S.ent i = (Ent.blk e (mixD f.toEnc0 pre xs post)).ren ρ:=by
  rw [h,Ent.ren,bS,h1,h2]
theorem bJ (f : Enc α) {p : Nat → Bool} {e : TypeId} {pre post : List D} {xs : List α} (h1 : D.refsInL p pre = true) (h2 : D.refsInL p post = true) : (Ent.blk e (mixD f.toEnc0 pre xs post)).refsIn p = true:=rT f h1 h2
theorem yE (f : Enc0 α) {T : TypeId} {x : Operand} {u : TypeDesc} {z : Option Value} {size bytes n : Nat} {id : Nat} {e : TypeId} {xs : List α} (ho : o.op = .load T x) (hd : o.dst = some t) (ht : t < N) (hu : P.underlying T = some u) (hg : hD P T = true) (hi : TI P T z size bytes) (h1 : 0 < size) (hx : SV S x (.ref id 0))
    (he : S.ent id = .blk e (D.flat (xs.map f.d))) (hl : xs.length = n) (hs : n * f.sz = size) : IOp P O N o S (S.set t (.agg (mixD f [] xs []))):=by
  have hfl:=f.flat_len xs
  rw [hl,hs] at hfl
  have hm : mixD f [] xs [] = D.flat (xs.map f.d):=by unfold mixD; simp
  exact kH ho hd ht hu hg hi h1 hx he (by omega) (by rw [hm,List.drop_zero,List.take_of_length_le (by omega)])
theorem wJ (f : Enc α) {T e : TypeId} {len : Nat} {x y : Operand} {k : IntKind} {n : Int} {u : TypeDesc} {z : Option Value} {bytes : Nat} {xs : List α} {a : α} {d : D} (ho : o.op = .index T x y) (hd : o.dst = some t) (ht : t < N)
    (hT : P.underlying T = some (.array len e)) (hu : P.underlying e = some u) (hg : hD P e = false) (hi : TI P e z f.sz bytes) (hx : SV S x (.agg (mixD f.toEnc0 [] xs []))) (hy : SV S y (.int k n)) (hl : xs.length = len) (hn : gix xs n = some a) (hdd : (f.d a).cells = [d]) : IOp P O N o S (S.set t d):=by
  have hm : mixD f.toEnc0 [] xs [] = D.flat (xs.map f.d):=by unfold mixD; simp
  have ha:=(qS hn).2
  have hlt:=(List.getElem?_eq_some_iff.1 ha).1
  obtain ⟨q,hq⟩:=f.drop_at ha 0 (Nat.zero_le _)
  have hle : (n.toNat + 1) * f.sz ≤ xs.length * f.sz:=Nat.mul_le_mul_right _ (by omega)
  rw [Nat.add_mul,Nat.one_mul] at hle
  refine sH ho hd ht hT hu hi hx hy (qS hn).1 (hl ▸ hlt) (by rw [hm,f.flat_len]; omega) f.pos ?_
  rw [Nat.add_zero,List.drop_zero,hdd] at hq
  unfold D.load
  rw [hg,hm,hq]; rfl
theorem SlW.mix {ρ : Nat → Nat} {t : Nat} (f : Enc α) {xs : List α} (h : S.get t = .agg (mixD f.toEnc0 [] xs [])) : SlW S S' ρ t (.agg (mixD f.toEnc0 [] xs [])) :=
  .same (by rw [h,D.ren,bS]; rfl) (by rw [D.refsIn]; exact rT f rfl rfl)
section
variable {Q : Exit → St → Prop}
theorem qG (d0 : D) {ops : Array Oper} {o : Oper} {l : List Oper} {j tj t : Nat} {want g : Bool} (hg : o.guard = some (j,want)) (hj : (ops[j]?).bind (·.dst) = some tj)
    (hb : Grd S tj want g) (hd : (o.dst,oE o.op) = (some t,true)) (ht : t < N) (h1 : g = true → ILS P O N ops ({ o with guard:=none } :: l) S Q) (h2 : g = false → ILS P O N ops l (S.set t (.cnd g d0)) Q) : ILS P O N ops (o :: l) S Q:=by
  obtain ⟨hd,hnd⟩:=Prod.mk.inj hd
  intro E β a hr
  have hwant:=hb.yields hr hj hg
  unfold wpListIn
  rw [hwant]
  cases g with
  | true =>
    simp only [if_true]
    have h3:=h1 rfl E β a hr
    have h4 : Oper.wpIn (fen O.round) 0 P { o with guard:=none } a E.w (wpListIn (fen O.round) 0 P ops (fun e a' w'=>∃ S' E' β',E'.w = w' ∧ Rel O N S' E' β' a' ∧ Q e S') l) (fun e a' w'=>∃ S' E' β',E'.w = w' ∧ Rel O N S' E' β' a' ∧ Q e S'):=by
      unfold wpListIn at h3
      simp only [Region.wanted,if_true] at h3
      exact h3
    have h5 : Oper.wpIn (fen O.round) 0 P o a E.w (wpListIn (fen O.round) 0 P ops (fun e a' w'=>∃ S' E' β',E'.w = w' ∧ Rel O N S' E' β' a' ∧ Q e S') l) (fun e a' w'=>∃ S' E' β',E'.w = w' ∧ Rel O N S' E' β' a' ∧ Q e S'):=h4
    exact h5
  | false =>
    simp only [Bool.false_eq_true,if_false,hd]
    exact ⟨fun _ _=>trivial,(h2 rfl E β _ (hr.set ht (.cnd _ _ _ _ (fun h=>by cases h) fun _=>rfl)))⟩
end
theorem tH {β : Type} {z : β} {j : Nat} {f : Nat → β} {rest : List (Nat × β)} : ∀ {V : List (Nat × β)},(∀ x ∈ V,f x.1 = x.2) → (j ∉ V.map (·.1) → look z j rest = f j) → look z j (V ++ rest) = f j
  | [],_,h=>h (by simp)
  | x :: V, hV, h => by
    obtain ⟨i,e⟩:=x
    rw [List.cons_append,aN]
    by_cases hi : i = j
    · subst hi; rw [if_pos rfl]; exact (hV (i,e) (by simp)).symm
    · rw [if_neg hi]; exact tH (fun x hx=>hV x (by simp [hx])) (fun hn=>h (by simpa [Ne.symm hi] using hn))
theorem tG {β : Type} {z : β} {j : Nat} {rest : List (Nat × β)} : ∀ {V : List (Nat × β)},j ∉ V.map (·.1) → look z j (V ++ rest) = look z j rest
  | [],_=>rfl
  | (i, e) :: V, h => by
    rw [List.cons_append,aN,if_neg (fun hi=>h (by simp [hi]))]
    exact tG (fun hm=>h (by simp at hm ⊢; exact .inr hm))
theorem fC {f : FuncId} {xs : List Operand} {ts : Array TypeId} {ds ds' : List D} {r r' : D} {H0 H1 V : List (Nat × Ent)} (k : Nat) (A : List Nat) (ho : o.op = .call { callee:=.value (.func f),args:=xs.toArray,argTypes:=ts }) (hd : o.dst = some t) (ht : t < N)
    (hc : bN P f) (hx : SVs S xs ds') (hds : D.renL (sig k A) ds = ds') (hp : D.refsInL (eJ A) ds = true) (hk : Nat.ble (k + 0) 1000 = true)
    (hh : HandM S k A H0) (hf : FnH P f ds H0 r H1) (hrr : r.ren (sig k A) = r') (hrp : r.refsIn (lQ 0 A) = true) (hH1 : ∀ x ∈ H1,lQ 0 A x.1 = true ∧ x.2.refsIn (lQ 0 A) = true)
    (hV : (H1.map fun x=>(sig k A x.1,x.2.ren (sig k A))) = V) (hE : ∀ x ∈ V,S.ent x.1 = x.2) (hW : (H0.map fun x=>sig k A x.1).all (fun i=>(V.map (·.1)).contains i) = true) : IOp P O N o S (S.set t r'):=by
  refine (mP k 0 A ho hd ht hc hx hds hp hk (by simp) hh hf hrr hrp hH1 rfl).to fun E β a hr=>hr.same (fun s=>rfl) fun j=>?_
  show S.ent j = look (defE j) j (((H1.map fun x=>(sig k A x.1,x.2.ren (sig k A))) ++ (H0.map fun x=>(sig k A x.1,Ent.none))) ++ S.H)
  rw [hV,List.append_assoc]
  refine (tH (f:=S.ent) hE fun hn=>?_).symm
  rw [tG (fun hm=>hn ?_)]
  · rfl
  · obtain ⟨x, hx, rfl⟩ := List.mem_map.1 hm
    obtain ⟨y,hy,rfl⟩:=List.mem_map.1 hx
    have:=List.all_eq_true.1 hW (sig k A y.1) (List.mem_map.2 ⟨y,hy,rfl⟩)
    simpa using this
end
end Go.IL
namespace Go.IL
section
variable {α : Type} (k : α → Int)
def putK (x : α) : List α → List α
  | []=>[x]
  | y :: l=>if k x ≤ k y then x :: y :: l else y :: putK x l
def kY : List α → List α
  | []=>[]
  | x :: l=>putK k x (kY l)
theorem pT (x : α) : ∀ l : List α,(putK k x l).Perm (x :: l)
  | []=>.refl _
  | y :: l => by
    unfold putK
    split
    · exact .refl _
    · exact ((pT x l).cons y).trans (.swap x y l)
theorem kF : ∀ l : List α,(kY k l).Perm l
  | []=>.refl _
  | x :: l=>(pT k x _).trans ((kF l).cons x)
theorem pS (x : α) : ∀ {l : List α},l.Pairwise (fun a b=>k a ≤ k b) → (putK k x l).Pairwise (fun a b=>k a ≤ k b)
  | [],_=>List.pairwise_singleton _ _
  | y :: l, h => by
    obtain ⟨h1,h2⟩:=List.pairwise_cons.1 h
    unfold putK
    split
    · rename_i hx
      refine List.pairwise_cons.2 ⟨fun z hz=>?_,h⟩
      rcases List.mem_cons.1 hz with rfl | hz
      · exact hx
      · have:=h1 z hz; omega
    · rename_i hx
      refine List.pairwise_cons.2 ⟨fun z hz=>?_,pS x h2⟩
      rcases List.mem_cons.1 ((pT k x l).mem_iff.1 hz) with rfl | hz
      · omega
      · exact h1 z hz
theorem kZ : ∀ l : List α,(kY k l).Pairwise (fun a b=>k a ≤ k b)
  | []=>.nil
  | x :: l=>pS k x (kZ l)
theorem qY : ∀ {l m : List α}, l.Perm m → (∀ a ∈ l, ∀ b ∈ l, k a = k b → a = b) → l.Pairwise (fun a b => k a ≤ k b) → m.Pairwise (fun a b => k a ≤ k b) → l = m
  | [],m,hp,_,_,_=>(List.nil_perm.1 hp).symm
  | x :: l,[],hp,_,_,_=>by have:=hp.length_eq; simp at this
  | x :: l, y :: m, hp, hi, h1, h2 => by
    obtain ⟨a1,a2⟩:=List.pairwise_cons.1 h1
    obtain ⟨b1,b2⟩:=List.pairwise_cons.1 h2
    have hy : y ∈ x :: l:=hp.mem_iff.2 (by simp)
    have hx : x ∈ y :: m:=hp.mem_iff.1 (by simp)
    have e : x = y:=by
      refine hi x (by simp) y hy ?_
      have l1 : k x ≤ k y:=by
        rcases List.mem_cons.1 hy with e | h
        · rw [e]; exact Int.le_refl _
        · exact a1 y h
      have l2 : k y ≤ k x:=by
        rcases List.mem_cons.1 hx with e | h
        · rw [e]; exact Int.le_refl _
        · exact b1 x h
      omega
    subst e
    rw [qY (List.Perm.cons_inv hp) (fun a ha b hb=>hi a (by simp [ha]) b (by simp [hb])) a2 b2]
theorem tI {l m : List α} (hp : m.Perm l) (hi : ∀ a ∈ l,∀ b ∈ l,k a = k b → a = b) (hs : m.Pairwise (fun a b=>k a ≤ k b)) : kY k l = m :=
  (qY k (hp.trans (kF k l).symm) (fun a ha b hb=>hi a (hp.mem_iff.1 ha) b (hp.mem_iff.1 hb)) hs (kZ k l)).symm
def tZ (good : α → Bool) (l : List α) : Option (List α):=if decide (l.length < 4611686018427387904) && l.all good && decide (l.map k).Nodup then some (kY k l) else none
end
theorem oV {α : Type} {k : α → Int} : ∀ {l : List α},(l.map k).Nodup → ∀ a ∈ l,∀ b ∈ l,k a = k b → a = b
  | x :: l, h, a, ha, b, hb, e => by
    obtain ⟨h1,h2⟩:=List.nodup_cons.1 h
    rcases List.mem_cons.1 ha with g | g
    · rcases List.mem_cons.1 hb with g' | g'
      · rw [g,g']
      · exact absurd (List.mem_map.2 ⟨b,g',by rw [← e,g]⟩) h1
    · rcases List.mem_cons.1 hb with g' | g'
      · exact absurd (List.mem_map.2 ⟨a,g,by rw [e,g']⟩) h1
      · exact oV h2 a g b g' e
theorem sortK_e {α : Type} {k : α → Int} {good : α → Bool} {l r : List α} (h : tZ k good l = some r) : l.length < 4611686018427387904 ∧ (∀ x ∈ l,good x = true) ∧ (l.map k).Nodup ∧ r = kY k l:=by
  unfold tZ at h
  split at h
  · rename_i hc
    rw [Bool.and_eq_true,Bool.and_eq_true,decide_eq_true_iff,decide_eq_true_iff] at hc
    exact ⟨hc.1.1,List.all_eq_true.1 hc.1.2,hc.2,(Option.some.inj h).symm⟩
  · cases h
theorem sortK_t {α : Type} {k : α → Int} {good : α → Bool} {l : List α} (h1 : l.length ≤ 1000000) (h2 : ∀ x ∈ l,good x = true) (h3 : (l.map k).Nodup) : tZ k good l = some (kY k l):=by
  unfold tZ
  rw [decide_eq_true (by omega),List.all_eq_true.2 h2,decide_eq_true h3]; rfl
def uB (l : List Int) : Option (List Int):=if l.length < 4611686018427387904 then some (kY id l) else none
theorem sortI_e {l r : List Int} (h : uB l = some r) : l.length < 4611686018427387904 ∧ r = kY id l:=by
  unfold uB at h
  split at h
  · exact ⟨by assumption,(Option.some.inj h).symm⟩
  · cases h
theorem sortI_t {l : List Int} (h : l.length ≤ 1000000) : uB l = some (kY id l):=if_pos (by omega)
theorem uA (l : List Int) : l.mergeSort (fun x y=>decide (x ≤ y)) = kY id l:=by
  refine (tI id (List.mergeSort_perm l _) (fun a _ b _ e=>e) ?_).symm
  refine (List.pairwise_mergeSort (fun a b c h1 h2=>?_) (fun a b=>?_) l).imp fun h=>of_decide_eq_true h
  · exact decide_eq_true (Int.le_trans (of_decide_eq_true h1) (of_decide_eq_true h2))
  · rw [Bool.or_eq_true,decide_eq_true_iff,decide_eq_true_iff]; omega
end Go.IL
open Go.RowKit (Below)
open Go.Sort
namespace Go.IL
def OH (E : Env) (β : bI) (H0 : List (Nat × Ent)) : bP:=⟨E.w,E.X,lP β H0,β,none,fun _=>[],fun _=>0,fun _=>[],fun _=>(#[],.skip,.skip)⟩
theorem oP {α : Type} [Inhabited α] (enc : α → Value) {zs zs' : List α} (sp : List Value) (hl : zs'.length = zs.length) : putCells enc 0 zs'.toArray (zs.map enc ++ sp).toArray = (zs'.map enc ++ sp).toArray:=by
  apply Array.ext_getElem?
  intro i
  unfold putCells
  rw [Array.getElem?_mapIdx,List.getElem?_toArray,List.getElem?_toArray]
  by_cases hi : i < zs.length
  · have hi' : i < zs'.length := by omega
    rw [List.getElem?_append_left (by simpa using hi),List.getElem?_append_left (by simpa using hi'),List.getElem?_map,List.getElem?_map,List.getElem?_eq_getElem hi,List.getElem?_eq_getElem hi']
    simp [hi']
  · rw [List.getElem?_append_right (by simp; omega), List.getElem?_append_right (by simp; omega), List.length_map, List.length_map, hl]
    cases sp[i - zs.length]? with
    | none=>rfl
    | some v =>
      simp only [Option.map_some]
      rw [if_neg (by simp; omega)]
theorem xW (h : Array Obj) (b : Nat) (f : Obj → Obj) (o : Obj) (e : h[b]? = some o) : (h.modify b f)[b]? = some (f o):=by
  rw [Array.getElem?_modify,if_pos rfl,e]; rfl
theorem tE (h : Array Obj) {b k : Nat} (f : Obj → Obj) (hk : k ≠ b) : (h.modify b f)[k]? = h[k]?:=by
  rw [Array.getElem?_modify,if_neg (Ne.symm hk)]
theorem xH {E : Env} {β : bI} {e : TypeId} {ds ds' : List D} {b n : Nat} {vs sp vs' : List Value} {g : Array Value → Array Value} (os : Array Obj)
    (hok : HOk (OH E β [(1000,.blk e ds)]) E β (entL [(1000,.blk e ds)])) (hb : β 1000 = some b) (hh : E.w.heap[b]? = some (.cells (List.toArray (vs ++ sp)) e (0,0))) (hX : ∀ o,E.X b o)
    (hg : g (List.toArray (vs ++ sp)) = List.toArray (vs' ++ sp)) (hl : vs'.length = vs.length) (hv : ∀ E',RdL E' β vs' ds') :
    HOk (OH E β [(1000,.blk e ds)]) ⟨grow (mapBlock (Sort.ahead E.w n) b g) os,E.X⟩ β (entL [(1000,.blk e ds')]):=by
  have hlt:=cM hh
  have hown : (OH E β [(1000,.blk e ds)]).own b:=hok.own (j:=1000) rfl hb
  let E1 : Env:=⟨mapBlock (Sort.ahead E.w n) b g,E.X⟩
  have hat : E1.w.heap[b]? = some (.cells (List.toArray (vs' ++ sp)) e (0,0)):=by
    show (E.w.heap.modify b (onCells g))[b]? = _
    rw [xW _ _ _ _ hh]
    show some (Obj.cells (g _) e (0,0)) = _
    rw [hg]
  have hs : Step (OH E β [(1000,.blk e ds)]) E E1 b:=⟨rfl,rfl,rfl,by show E.w.heap.size ≤ (E.w.heap.modify b (onCells g)).size; rw [Array.size_modify]; exact Nat.le_refl _,by show b < (E.w.heap.modify b (onCells g)).size; rw [Array.size_modify]; exact hlt,hown,fun k _ hk=>tE _ _ hk,fun _ _ _=>Iff.rfl,fun _ h=>by rw [hh] at h; cases h⟩
  have hle : E.le E1:=hs.le (fun o v _ h2=>absurd (hX o) h2) (fun c e' f h3=>by
    rw [hh] at h3; cases h3
    exact ⟨_,_,hat,by simp [hl]⟩)
  have hput : HOk (OH E β [(1000,.blk e ds)]) E1 β (entL [(1000,.blk e ds')]):=by
    refine HOk.put hok hs hle (bI.le.refl _) (id:=1000) ?_ ?_ hb ?_ (fun _ _=>trivial)
    · intro j hj; left; exact ⟨by simp [entL,aN,Ne.symm hj],rfl⟩
    · intro j hj hheld hbj
      have : (entL [(1000,Ent.blk e ds)] j).held = true:=by simpa [entL,aN,Ne.symm hj] using hheld
      exact hj (hok.inj j 1000 b this rfl hbj hb)
    · exact ⟨_,sp,hat,hX,hv _⟩
  exact hput.below ⟨rfl,rfl,rfl,by show E1.w.heap.size ≤ (E1.w.heap ++ os).size; rw [Array.size_append]; omega,fun k hk=>by
    show (E1.w.heap ++ os)[k]? = _
    rw [Array.getElem?_append_left hk]⟩
theorem uV {E : Env} {β : bI} : Rd E β (.tuple #[]) (retD []):=.tuple _ [] [] (.nil _)
theorem yS {P : Program} {f : FuncId} {e : TypeId} {n sz : Nat} {ds ds' ar : List D} (us : List Value) (has : ∀ E β xs,RdL E β xs ar → xs = us)
    (hnil : n = 0 → ds' = ds ∧ ∀ (p : Option Addr) (cap : Nat) (w : World),Calls P f ((.slice p 0 cap) :: us).toArray w fun e w'=>e = .returned (.tuple #[]) ∧ Below w.heap.size w w')
    (hrow : ∀ (E : Env) (β : bI) (b cap : Nat) (vs sp : List Value) ,RdL E β vs ds → E.good → E.w.heap[b]? = some (.cells (List.toArray (vs ++ sp)) e (0,0)) →
      Calls P f ((.slice (some ⟨b,0,none⟩) n cap) :: us).toArray E.w fun e w'=>e = .returned (.tuple #[]) ∧ ∃ g k os vs',w' = grow (mapBlock (Sort.ahead E.w k) b g) os ∧ g (List.toArray (vs ++ sp)) = List.toArray (vs' ++ sp) ∧ vs'.length = vs.length ∧ ∀ E' β',RdL E' β' vs' ds') :
    FnH P f (.osl 1000 sz n :: ar) [(1000,.blk e ds)] (retD []) [(1000,.blk e ds')]:=by
  intro E β xs hX hβ hok hvs
  cases hvs with
  | cons h1 h2 =>
    obtain rfl:=has _ _ _ h2
    cases h1 with
    | nosl =>
      obtain ⟨e1,h3⟩:=hnil rfl
      subst e1
      refine (h3 none 0 E.w).mono ?_
      rintro e' w' ⟨rfl,hb⟩
      exact ⟨_,rfl,⟨w',E.X⟩,β,rfl,hok.below hb,uV⟩
    | osl _ _ b _ cap _ hb hc hsz c e' fz hcap hcs hcm =>
      have hent:=hok.ent 1000
      obtain ⟨vs,sp,g1,g2,g3,g4⟩:=nA (show qU (OH E β [(1000,.blk e ds)]) E β 1000 (.blk e ds) from hent) hb
      refine (hrow E β b cap vs sp g4 hX g2).mono ?_
      rintro e'' w' ⟨rfl,g,k,os,vs',rfl,k1,k2,k3⟩
      exact ⟨_,rfl,⟨_,E.X⟩,β,rfl,xH os hok hb g2 g3 k1 k2 (fun E'=>k3 E' β),uV⟩
theorem vA {E : Env} {β : bI} {k : IntKind} : ∀ {l : List Int} {vs : List Value},RdL E β vs (D.flat (l.map (eInt k).d)) → vs = l.map (Value.int k)
  | [],vs,h=>by cases h; rfl
  | x :: l, vs, h => by
    have h : RdL E β vs (.int k x :: D.flat (l.map (eInt k).d)):=h
    cases h with
    | cons h1 h2 =>
      rw [vA h2,iF h1]; rfl
theorem vM (E : Env) (β : bI) (k : IntKind) : ∀ (l : List Int),RdL E β (l.map (Value.int k)) (D.flat (l.map (eInt k).d))
  | []=>.nil _
  | x :: l=>.cons (.int _ _ _) (vM E β k l)
theorem wO {w : World} {b : Nat} {e : TypeId} {zs : List Int} {sp : List Value} (hh : w.heap[b]? = some (.cells (List.toArray (zs.map (Value.int .i64) ++ sp)) e (0,0))) : Holds (Value.int .i64) w b 0 zs.toArray:=fun j hj=>by
  have hj : j < zs.length:=by simpa using hj
  refine ⟨?_,by simp [World.frozen?,hh]⟩
  simp only [World.cell?,hh,Nat.zero_add,Option.isSome_none,Bool.false_eq_true,if_false,List.getElem?_toArray]
  rw [List.getElem?_append_left (by simpa using hj),List.getElem?_map,List.getElem?_eq_getElem hj]
  simp [hj]
theorem yQ {P : Program} {ρ : Shelf.Ren} (L : Proofs.Lays.n189 P ρ) {e : TypeId} (a0 : List Int) (r : List Int) (h : uB a0 = some r) :
    FnH P (ρ.f 189) [.osl 1000 (eInt .i64).sz a0.length] [(1000,.blk e (D.flat (a0.map (eInt .i64).d)))] (retD []) [(1000,.blk e (D.flat (r.map (eInt .i64).d)))]:=by
  obtain ⟨h1,rfl⟩:=sortI_e h
  refine yS [] (fun E β xs h=>by cases h; rfl) (fun h0=>?_) (fun E β b cap vs sp hv _ hh=>?_)
  · obtain rfl := List.length_eq_zero_iff.1 h0
    refine ⟨rfl,fun p cap w=>(Proofs.Any.slices_Sort_int_none L p cap w).mono ?_⟩
    rintro e w' h
    exact ⟨h.1,by rw [h.2]; exact Below.refl _ _⟩
  · obtain rfl := vA hv
    refine (Proofs.Any.slices_Sort_int L b 0 cap a0 E.w (wO hh) (cM hh) h1).mono ?_
    rintro e w' ⟨rfl,n,os,rfl⟩
    rw [uA]
    have hl:=(kF id a0).length_eq
    exact ⟨rfl,_,n,os,(kY id a0).map (Value.int .i64),rfl,oP _ sp hl,by simp [hl],fun E' β'=>vM E' β' _ _⟩
theorem sW {E : Env} {β : bI} : ∀ {d1 d2 : List D} {vs : List Value},RdL E β vs (d1 ++ d2) → ∃ v1 v2,vs = v1 ++ v2 ∧ RdL E β v1 d1 ∧ RdL E β v2 d2
  | [],d2,vs,h=>⟨[],vs,rfl,.nil _,h⟩
  | d :: d1, d2, vs, h => by
    cases h with
    | cons h1 h2 =>
      obtain ⟨v1,v2,rfl,h3,h4⟩:=sW h2
      exact ⟨_ :: v1,v2,rfl,.cons h1 h3,h4⟩
theorem vB {T : Type} {f : Enc T} {enc : T → List Value} (hrd : ∀ E β x vs,RdL E β vs (f.d x).cells → vs = enc x) {E : Env} {β : bI} : ∀ {l : List T} {vs : List Value},RdL E β vs (D.flat (l.map f.d)) → vs = l.flatMap enc
  | [],vs,h=>by cases h; rfl
  | x :: l, vs, h => by
    obtain ⟨v1,v2,rfl,h1,h2⟩:=sW (show RdL E β vs ((f.d x).cells ++ D.flat (l.map f.d)) from h)
    rw [hrd E β x v1 h1,vB hrd h2]; rfl
theorem vU {T : Type} {f : Enc T} {enc : T → List Value} (hrd' : ∀ E β x,RdL E β (enc x) (f.d x).cells) (E : Env) (β : bI) : ∀ l : List T,RdL E β (l.flatMap enc) (D.flat (l.map f.d))
  | []=>.nil _
  | x :: l=>(hrd' E β x).append (vU hrd' E β l)
theorem vT {α : Type} [Inhabited α] {enc : α → List Value} {k : Nat} (hk : ∀ x, (enc x).length = k) (h0 : 0 < k) : ∀ (l : List α) (t : Nat), t < l.length * k → (l.flatMap enc)[t]! = (enc l[t / k]!)[t % k]!
  | [],t,h=>by simp at h
  | x :: l, t, h => by
    rw [List.flatMap_cons]
    by_cases ht : t < k
    · rw [Nat.div_eq_of_lt ht, Nat.mod_eq_of_lt ht, getElem!_pos _ t (by rw [List.length_append, hk]; omega), List.getElem_append_left (by rw [hk]; exact ht)]
      rw [show (x :: l)[0]! = x from rfl,getElem!_pos (enc x) t (by rw [hk]; exact ht)]
    · have h2 : t - k < l.length * k := by rw [List.length_cons, Nat.add_mul, Nat.one_mul] at h; omega
      have hfl : (l.flatMap enc).length = l.length * k:=by
        rw [List.length_flatMap,List.map_congr_left (fun x _=>hk x),List.map_const',List.sum_replicate_nat]
      have ih:=vT hk h0 l (t - k) h2
      rw [getElem!_pos _ (t - k) (by rw [hfl]; exact h2)] at ih
      rw [getElem!_pos _ t (by rw [List.length_append,hk,hfl]; omega),List.getElem_append_right (by rw [hk]; omega)]
      simp only [hk]
      have e1 : t / k = (t - k) / k + 1:=Nat.div_eq_sub_div h0 (Nat.le_of_not_lt ht)
      have e2 : t % k = (t - k) % k:=Nat.mod_eq_sub_mod (Nat.le_of_not_lt ht)
      rw [ih,e1,e2]
      rfl
theorem rI {α : Type} [Inhabited α] {enc : α → List Value} {k : Nat} (hk : ∀ x,(enc x).length = k) (h0 : 0 < k) (l : List α) : flatK enc k l.toArray = (l.flatMap enc).toArray:=by
  have hfl : (l.flatMap enc).length = l.length * k:=by
    rw [List.length_flatMap,List.map_congr_left (fun x _=>hk x),List.map_const',List.sum_replicate_nat]
  refine ext_get! (by simp [hfl]) fun t ht=>?_
  have ht : t < l.length * k:=by simpa using ht
  rw [get_flatK _ _ _ _ (by simpa using ht)]
  have:=vT hk h0 l t ht
  have e1 : (l.flatMap enc).toArray[t]! = (l.flatMap enc)[t]!:=by simp
  have e2 : l.toArray[t / k]! = l[t / k]!:=by simp
  rw [e1,this,e2]
theorem yR {P : Program} {ρ : Shelf.Ren} (L : Proofs.SlLaysF0.n6 P ρ) {T : Type} [Inhabited T] (f : Enc T) (enc : T → List Value) (key : T → Int) (good : T → Bool) (hgd : good default = true)
    (aE : ∀ w,(isAgg (ρ.t 24)).run P w = .ok true w) (zE : ∀ w,(Go.sizeOf (ρ.t 24)).run P w = .ok f.sz w) (hk : ∀ x,(enc x).length = f.sz) (h1 : ∀ x,∀ v ∈ enc x,v.oneCell' = true)
    (hrd : ∀ E β x vs,RdL E β vs (f.d x).cells → vs = enc x) (hrd' : ∀ E β x,RdL E β (enc x) (f.d x).cells) {g : Nat} (eg : ∀ args w,(callFunc g args).run P w = .ok (.enter g args) w)
    (hcmp : ∀ (x y : T) (W : World),good x = true → good y = true → Calls P g #[.agg (enc x).toArray,.agg (enc y).toArray] W fun e w'=>e = .returned (.int .i64 (key x - key y)) ∧ ∃ q os',w' = grow (W.drewN q) os')
    {e : TypeId} (a0 r : List T) (h : tZ key good a0 = some r) :
    FnH P (ρ.f 6) [.osl 1000 f.sz a0.length,.fn g []] [(1000,.blk e (D.flat (a0.map f.d)))] (retD []) [(1000,.blk e (D.flat (r.map f.d)))]:=by
  obtain ⟨hlen,hg,hnd,rfl⟩:=sortK_e h
  refine yS [.func (.func g) #[] #[]] (fun E β xs h=>?_) (fun h0=>?_) (fun E β b cap vs sp hv _ hh=>?_)
  · cases h with
    | cons h2 h3 =>
      cases h3
      obtain ⟨us,rfl,h4⟩:=xL h2
      cases h4; rfl
  · obtain rfl := List.length_eq_zero_iff.1 h0
    refine ⟨rfl,fun p cap w=>(Proofs.AnyF.slices_SortFunc_none L p cap _ w).mono ?_⟩
    rintro e w' h
    exact ⟨h.1,by rw [h.2]; exact Below.refl _ _⟩
  · obtain rfl := vB hrd hv
    let α:={ x : T // good x = true }
    letI : Inhabited α:=⟨⟨default,hgd⟩⟩
    let enc' : α → List Value:=fun x=>enc x.1
    let cf : α → α → Int:=fun x y=>key x.1 - key y.1
    let l : List α:=a0.attachWith (fun x=>good x = true) hg
    have hk' : ∀ x : α,(enc' x).length = f.sz:=fun x=>hk x.1
    have hfm : ∀ m : List α,m.flatMap enc' = (m.map (·.1)).flatMap enc:=fun m=>by rw [List.flatMap_map]
    have hval : l.map (·.1) = a0:=by
      show (a0.attachWith _ hg).map (fun i=>id i.1) = _
      rw [List.attachWith_map_val]; exact List.map_id _
    have hll : l.toArray.size = a0.length:=by
      rw [List.size_toArray,← hval,List.length_map]
    have hO : SWO (Proofs.ltOf cf):={
      irrefl:=fun x=>by show decide (key x.1 - key x.1 < 0) = false; exact decide_eq_false (by omega)
      trans:=fun x y z h1 h2=>by
        have h1:=of_decide_eq_true (show decide (key x.1 - key y.1 < 0) = true from h1)
        have h2:=of_decide_eq_true (show decide (key y.1 - key z.1 < 0) = true from h2)
        show decide (key x.1 - key z.1 < 0) = true
        exact decide_eq_true (by omega)
      ntrans:=fun x y z h1 h2=>by
        have h1:=of_decide_eq_false (show decide (key x.1 - key y.1 < 0) = false from h1)
        have h2:=of_decide_eq_false (show decide (key y.1 - key z.1 < 0) = false from h2)
        show decide (key x.1 - key z.1 < 0) = false
        exact decide_eq_false (by omega) }
    have hH : HoldsK enc' f.sz E.w b 0 l.toArray:=by
      unfold HoldsK
      rw [rI hk' f.pos,hfm,hval]
      intro j hj
      have hj : j < (a0.flatMap enc).length:=by simpa using hj
      refine ⟨?_,by simp [World.frozen?,hh]⟩
      simp only [World.cell?,hh,Nat.zero_add,Option.isSome_none,Bool.false_eq_true,if_false,List.getElem?_toArray]
      rw [List.getElem?_append_left hj]
      simp [List.getElem?_eq_getElem hj]
    have hC:=Proofs.AnyQ.slices_SortFunc L f.sz aE zE enc' hk' (fun x=>h1 x.1) cf hO g #[] b 0 cap l.toArray E.w eg (fun m os dk _ x y=>hcmp x.1 y.1 _ x.2 y.2) hH (cM hh) (by rw [hll]; exact hlen)
    rw [hll] at hC
    refine hC.mono ?_
    rintro e' w' ⟨rfl,d',n,os,hp,hs,rfl⟩
    have hsz : d'.size = a0.length:=hp.1.trans hll
    have hperm : (d'.toList.map (·.1)).Perm a0:=by
      have:=hp.2.2
      rw [Array.extract_eq_self_of_le (by rw [hsz]; exact Nat.le_refl _),Array.extract_eq_self_of_le (by rw [hll]; exact Nat.le_refl _)] at this
      have:=this.map (·.1)
      rwa [show l.toArray.toList = l from rfl,hval] at this
    have hsort : (d'.toList.map (·.1)).Pairwise (fun a b=>key a ≤ key b):=by
      rw [List.pairwise_map,List.pairwise_iff_getElem]
      intro i j hi hj hij
      have hj' : j < d'.size:=by simpa using hj
      have h9:=hs i j (Nat.zero_le _) hij (by rw [← hsz]; exact hj')
      have h9:=of_decide_eq_false (show decide (key (d'[j]!).1 - key (d'[i]!).1 < 0) = false from h9)
      rw [getElem!_pos d' j hj',getElem!_pos d' i (by omega)] at h9
      show key (d'.toList[i]).1 ≤ key (d'.toList[j]).1
      rw [Array.getElem_toList,Array.getElem_toList]
      omega
    have hr : kY key a0 = d'.toList.map (·.1):=tI key hperm (oV hnd) hsort
    have hl : ((kY key a0).flatMap enc).length = (a0.flatMap enc).length:=((kF key a0).flatMap_right enc).length_eq
    refine ⟨rfl,_,n,os,(kY key a0).flatMap enc,rfl,?_,hl,fun E' β'=>vU hrd' E' β' _⟩
    have e1 : flatK enc' f.sz d' = ((kY key a0).flatMap enc).toArray:=by
      rw [hr,← hfm,← rI hk' f.pos]
    rw [e1]
    have:=oP id sp hl
    rw [List.map_id,List.map_id] at this
    exact this
end Go.IL
open Go Go.IL
namespace Go.Fn
structure T_fold_Op where
  Kind : Int
  ID : Int
  Dep : Int
  Weight : Int
  Only : Bool
  deriving DecidableEq,Inhabited
structure aY where
  ID : Int
  Parent : Int
  Weight : Int
  Closed : Bool
  deriving DecidableEq,Inhabited
def aM : Enc aY:=⟨⟨fun x=>.agg [.int .i64 x.ID,.int .i64 x.Parent,.int .i64 x.Weight,.bool x.Closed],4,by decide,fun _=>⟨rfl,rfl⟩⟩,fun _=>rfl⟩

structure tV where
  Room : Int
  Keep : Int
  Nodes : (List aY)
  Ended : (List Int)
  deriving DecidableEq,Inhabited
def cS (a0 : (List Int)) (a1 : Int) : Nat → Int → Option Int
  | 0,_=>none
  | n0 + 1, v7 =>
    bnd (decide (v7 < (a0.length : Int))) fun x14 =>
    bif x14 then (
      bno (gix a0 v7) fun x16 =>
      bnd (decide (a1 = x16)) fun x17 =>
      bif x17 then (
        some v7
      ) else (
        bnd (IntKind.wrap .i64 (v7 + 1)) fun x19 =>
        (cS a0 a1 n0) x19
      )
    ) else (
      some (-1)
    )
def hZ (a0 : (List Int)) (a1 : Int) : Option Int :=
  cS a0 a1 fuel 0

def eX (a0 : (List Int)) (a1 : Int) : Option Bool :=
  bno (hZ a0 a1) fun x1 =>
  bnd (decide (0 ≤ x1)) fun x2 =>
  some x2

def eY (a0 : (List Int)) (a1 : (List Int)) : Nat → Int → Option Bool
  | 0,_=>none
  | n0 + 1, v10 =>
    bnd (decide (v10 < (a0.length : Int))) fun x18 =>
    bif x18 then (
      bno (gix a0 v10) fun x20 =>
      bno (gix a1 v10) fun x21 =>
      bnd (!decide (x20 = x21)) fun x22 =>
      bif x22 then (
        some false
      ) else (
        bnd (IntKind.wrap .i64 (v10 + 1)) fun x24 =>
        (eY a0 a1 n0) x24
      )
    ) else (
      some true
    )
def dE (a0 : (List Int)) (a1 : (List Int)) : Option Bool :=
  bnd (!decide ((a0.length : Int) = (a1.length : Int))) fun x1 =>
  bif x1 then (
    some false
  ) else (
    eY a0 a1 fuel 0
  )

end Go.Fn
open Go Go.IL
namespace Go.Fn
structure cB where
  Kind : Int
  ID : Int
  Dep : Int
  Weight : Int
  Only : Bool
  deriving DecidableEq,Inhabited
def cZ : Enc cB:=⟨⟨fun x=>.agg [.int .u8 x.Kind,.int .i64 x.ID,.int .i64 x.Dep,.int .i64 x.Weight,.bool x.Only],5,by decide,fun _=>⟨rfl,rfl⟩⟩,fun _=>rfl⟩

structure aH where
  Live : Bool
  Value : Int
  Link : Int
  deriving DecidableEq,Inhabited
def aO : Enc aH:=⟨⟨fun x=>.agg [.bool x.Live,.int .i64 x.Value,.int .i64 x.Link],3,by decide,fun _=>⟨rfl,rfl⟩⟩,fun _=>rfl⟩

structure bC where
  Cells : (List aH)
  Free : Int
  Used : Int
  deriving DecidableEq,Inhabited
structure aF where
  id : Int
  up : Int
  first : Int
  next : Int
  weight : Int
  closed : Bool
  deriving DecidableEq,Inhabited
def aB : Enc aF:=⟨⟨fun x=>.agg [.int .i64 x.id,.int .i64 x.up,.int .i64 x.first,.int .i64 x.next,.int .i64 x.weight,.bool x.closed],6,by decide,fun _=>⟨rfl,rfl⟩⟩,fun _=>rfl⟩

structure eI where
  dep : Int
  weight : Int
  only : Bool
  deriving DecidableEq,Inhabited
def iV (a0 : Int) (a1 : Int) (a2 : Int) : Option Bool :=
  bnd (decide (a1 ≤ a0)) fun x1 =>
  bnd (decide (a0 ≤ a2)) fun x2 =>
  bnd (x1 && x2) fun x3 =>
  some x3

def mR  : Option bC :=
  some (⟨[],(-1),0⟩ : bC)

def fI (a0 : eI) (a1 : Int) (v6 : Bool) : Option Int :=
  bif v6 then (
    some 8
  ) else (
    bnd (decide (a1 = a0.dep)) fun x8 =>
    bif x8 then (
      some 4
    ) else (
      some 0
    )
  )
def gU (a0 : eI) (a1 : Int) : Option Int :=
  bno (iV a1 1 1048576) fun x10 =>
  bif (!x10) then (
    fI a0 a1 (!x10)
  ) else (
    bno (iV a0.dep 0 1048576) fun x12 =>
    bif (!x12) then (
      fI a0 a1 (!x12)
    ) else (
      bno (iV a0.weight 1 256) fun x14 =>
      fI a0 a1 (!x14)
    )
  )

def fP (a0 : bC) (a1 : Int) : Option Bool :=
  bnd (decide ((-1) ≤ a1)) fun x1 =>
  bnd (decide (a1 < (a0.Cells.length : Int))) fun x2 =>
  bnd (x1 && x2) fun x3 =>
  some x3

def gZ (a0 : bC) (a1 : aH) : Option Bool :=
  bno (gd ((!a1.Live) == true) (fP a0 a1.Link) default) fun x1 =>
  bnd ((!a1.Live) && (!x1)) fun x2 =>
  some x2

def bF (a0 : (List aH)) (a1 : bC) : Nat → Int → Option Int
  | 0,_=>none
  | n0 + 1, v7 =>
    bnd (decide (v7 < (a0.length : Int))) fun x14 =>
    bif x14 then (
      bno (gix a0 v7) fun x16 =>
      bno (gZ a1 x16) fun x17 =>
      bif x17 then (
        some v7
      ) else (
        bnd (IntKind.wrap .i64 (v7 + 1)) fun x19 =>
        (bF a0 a1 n0) x19
      )
    ) else (
      some (-1)
    )
def cP (a0 : (List aH)) (a1 : bC) : Option Int :=
  bF a0 a1 fuel 0

def cG (a0 : (List aH)) (a1 : bC) : Option Bool :=
  bno (cP a0 a1) fun x1 =>
  bnd (decide (0 ≤ x1)) fun x2 =>
  some x2

def mQ (a0 : aH) : Option Bool :=
  bif a0.Live then (
    bnd (!decide (a0.Link = 0)) fun x2 =>
    some x2
  ) else (
    bnd (!decide (a0.Value = 0)) fun x3 =>
    some x3
  )

def bH (a0 : (List aH)) : Nat → Int → Option Int
  | 0,_=>none
  | n0 + 1, v7 =>
    bnd (decide (v7 < (a0.length : Int))) fun x14 =>
    bif x14 then (
      bno (gix a0 v7) fun x16 =>
      bno (mQ x16) fun x17 =>
      bif x17 then (
        some v7
      ) else (
        bnd (IntKind.wrap .i64 (v7 + 1)) fun x19 =>
        (bH a0 n0) x19
      )
    ) else (
      some (-1)
    )
def dA (a0 : (List aH)) : Option Int :=
  bH a0 fuel 0

def cQ (a0 : (List aH)) : Option Bool :=
  bno (dA a0) fun x1 =>
  bnd (decide (0 ≤ x1)) fun x2 =>
  some x2

def eC (a0 : bC) : Nat → (List Int) → Int → Option ((List Int) × Bool)
  | 0,_,_=>none
  | n0 + 1, v9, v10 =>
    bnd (decide (v10 = (-1))) fun x19 =>
    bif x19 then (
      some (v9,true)
    ) else (
      bno (gix a0.Cells v10) fun x21 =>
      bno (gd (x21.Live == false) (eX v9 v10) default) fun x22 =>
      bnd (x21.Live || x22) fun x23 =>
      bif x23 then (
        some (v9,false)
      ) else (
        bno (app 8 v9 ([v10] : (List Int))) fun x25 =>
        bno (gix a0.Cells v10) fun x26 =>
        (eC a0 n0) x25 x26.Link
      )
    )
def jA (a0 : bC) : Option ((List Int) × Bool) :=
  eC a0 fuel ([] : (List Int)) a0.Free

def fS (a0 : bC) : Nat → Int → Int → Option Int
  | 0,_,_=>none
  | n1 + 1, v17, v18 =>
    bnd (decide (v18 < (a0.Cells.length : Int))) fun x26 =>
    bif x26 then (
      bno (gix a0.Cells v18) fun x28 =>
      bif x28.Live then (
        bnd (IntKind.wrap .i64 (v17 + 1)) fun x30 =>
        bnd (IntKind.wrap .i64 (v18 + 1)) fun x31 =>
        (fS a0 n1) x30 x31
      ) else (
        bnd (IntKind.wrap .i64 (v18 + 1)) fun x32 =>
        (fS a0 n1) v17 x32
      )
    ) else (
      bno (jA a0) fun x33 =>
      bnd (!decide (v17 = a0.Used)) fun x34 =>
      bnd ((!x33.2) || x34) fun x35 =>
      bnd (IntKind.wrap .i64 (v17 + (x33.1.length : Int))) fun x36 =>
      bnd (!decide (x36 = (a0.Cells.length : Int))) fun x37 =>
      bnd (x35 || x37) fun x38 =>
      bif x38 then (
        some 10
      ) else (
        some 0
      )
    )
def jH (a0 : bC) (v6 : Bool) : Option Int :=
  bif v6 then (
    some 8
  ) else (
    bno (cQ a0.Cells) fun x8 =>
    bif x8 then (
      some 4
    ) else (
      fS a0 fuel 0 0
    )
  )
def jP (a0 : bC) : Option Int :=
  bnd (decide (64 < (a0.Cells.length : Int))) fun x1 =>
  bif x1 then (
    some 5
  ) else (
    bno (fP a0 a0.Free) fun x40 =>
    bif (!x40) then (
      jH a0 (!x40)
    ) else (
      bno (cG a0.Cells a0) fun x42 =>
      jH a0 x42
    )
  )

def gC (a0 : bC) : Nat → (List Int) → Int → Option (List Int)
  | 0,_,_=>none
  | n0 + 1, v11, v12 =>
    bnd (decide (v12 < (a0.Cells.length : Int))) fun x20 =>
    bif x20 then (
      bno (gix a0.Cells v12) fun x22 =>
      bif x22.Live then (
        bno (app 8 v11 ([v12] : (List Int))) fun x24 =>
        bnd (IntKind.wrap .i64 (v12 + 1)) fun x25 =>
        (gC a0 n0) x24 x25
      ) else (
        bnd (IntKind.wrap .i64 (v12 + 1)) fun x26 =>
        (gC a0 n0) v11 x26
      )
    ) else (
      some v11
    )
def lC (a0 : bC) : Option (List Int) :=
  bno (jP a0) fun x1 =>
  bnd (!decide (x1 = 0)) fun x2 =>
  bif x2 then (
    some []
  ) else (
    gC a0 fuel ([] : (List Int)) 0
  )

def eA (a0 : Int) (a6 : (List aF)) (x1 : (List Int)) : Nat → Int → Option Int
  | 0,_=>none
  | n0 + 1, v11 =>
    bnd (decide (v11 < (x1.length : Int))) fun x21 =>
    bif x21 then (
      bno (gix x1 v11) fun x23 =>
      bno (gix a6 x23) fun x24 =>
      chk (a6.length = 64) <|bno (a6[(x23 : Int).toNat]?) fun x26 =>
      bnd (decide (x26.id = a0)) fun x27 =>
      bif x27 then (
        some x23
      ) else (
        bnd (IntKind.wrap .i64 (v11 + 1)) fun x29 =>
        (eA a0 a6 x1 n0) x29
      )
    ) else (
      some (-1)
    )
def cA (a0 : Int) (a1 : Int) (a2 : Int) (a3 : (List aH)) (a4 : Int) (a5 : Int) (a6 : (List aF)) (a7 : Int) (a8 : (List Int)) : Option Int :=
  bno (lC (⟨a3,a4,a5⟩ : bC)) fun x1 =>
  eA a0 a6 x1 fuel 0

def gV (a0 : Int) (a1 : Int) (a2 : (List aH)) (a3 : Int) (a4 : Int) (a5 : (List aF)) (a6 : Int) (a7 : (List Int)) : Option Int :=
  some a4

def dP (a0 : Int) (a1 : Int) (a2 : Int) (a3 : (List aH)) (a4 : Int) (a5 : Int) (a6 : (List aF)) (a7 : Int) (a8 : (List Int)) : Nat → Nat → Option (Int × Int × (List aH) × Int × Int × (List aF) × Int × (List Int))
  | 0,_=>none
  | n0 + 1, v14 =>
    bno (a6[v14]?) fun x20 =>
    bnd (!decide (x20.next = a0)) fun x21 =>
    bif x21 then (
      bno (a6[v14]?) fun x23 =>
      bno (gix a6 x23.next) fun x24 =>
      (dP a0 a1 a2 a3 a4 a5 a6 a7 a8 n0) ((x23.next : Int).toNat)
    ) else (
      bno (gix a6 a0) fun x25 =>
      bno (a6[(a0 : Int).toNat]?) fun x26 =>
      bno (a6[v14]?) fun x27 =>
      bnd (a6.set v14 (⟨x27.id,x27.up,x27.first,x26.next,x27.weight,x27.closed⟩ : aF)) fun x28 =>
      some (a1,a2,a3,a4,a5,x28,a7,a8)
    )
def dO (a0 : Int) (a1 : Int) (a2 : Int) (a3 : (List aH)) (a4 : Int) (a5 : Int) (a6 : (List aF)) (a7 : Int) (a8 : (List Int)) : Nat → Nat → Option (Int × Int × (List aH) × Int × Int × (List aF) × Int × (List Int))
  | 0,_=>none
  | n1 + 1, v42 =>
    bno (a6[v42]?) fun x48 =>
    bnd (!decide (x48.next = a0)) fun x49 =>
    bif x49 then (
      bno (a6[v42]?) fun x51 =>
      bno (gix a6 x51.next) fun x52 =>
      (dO a0 a1 a2 a3 a4 a5 a6 a7 a8 n1) ((x51.next : Int).toNat)
    ) else (
      bno (gix a6 a0) fun x53 =>
      bno (a6[(a0 : Int).toNat]?) fun x54 =>
      bno (a6[v42]?) fun x55 =>
      bnd (a6.set v42 (⟨x55.id,x55.up,x55.first,x54.next,x55.weight,x55.closed⟩ : aF)) fun x56 =>
      some (a1,a2,a3,a4,a5,x56,a7,a8)
    )
def eQ (a0 : Int) (a1 : Int) (a2 : Int) (a3 : (List aH)) (a4 : Int) (a5 : Int) (a6 : (List aF)) (a7 : Int) (a8 : (List Int)) : Option (Int × Int × (List aH) × Int × Int × (List aF) × Int × (List Int)) :=
  bno (gix a6 a0) fun x1 =>
  chk (a6.length = 64) <|bno (a6[(a0 : Int).toNat]?) fun x3 =>
  bnd (decide (x3.up = (-1))) fun x4 =>
  bif x4 then (
    bnd (!decide (a7 = a0)) fun x6 =>
    bif x6 then (
      bno (gix a6 a7) fun x8 =>
      dP a0 a1 a2 a3 a4 a5 a6 a7 a8 fuel ((a7 : Int).toNat)
    ) else (
      bno (gix a6 a0) fun x29 =>
      bno (a6[(a0 : Int).toNat]?) fun x30 =>
      some (a1,a2,a3,a4,a5,a6,x30.next,a8)
    )
  ) else (
    bno (gix a6 x3.up) fun x31 =>
    bno (a6[(x3.up : Int).toNat]?) fun x32 =>
    bnd (!decide (x32.first = a0)) fun x33 =>
    bif x33 then (
      bno (a6[(x3.up : Int).toNat]?) fun x35 =>
      bno (gix a6 x35.first) fun x36 =>
      dO a0 a1 a2 a3 a4 a5 a6 a7 a8 fuel ((x35.first : Int).toNat)
    ) else (
      bno (gix a6 a0) fun x57 =>
      bno (a6[(a0 : Int).toNat]?) fun x58 =>
      bno (a6[(x3.up : Int).toNat]?) fun x59 =>
      bnd (a6.set ((x3.up : Int).toNat) (⟨x59.id,x59.up,x58.next,x59.next,x59.weight,x59.closed⟩ : aF)) fun x60 =>
      some (a1,a2,a3,a4,a5,x60,a7,a8)
    )
  )

def eK (a0 : Int) (a1 : Int) (a2 : Int) (a3 : Int) (a4 : (List aH)) (a5 : Int) (a6 : Int) (a7 : (List aF)) (a8 : Int) (a9 : (List Int)) : Option (Int × Int × (List aH) × Int × Int × (List aF) × Int × (List Int)) :=
  bnd (decide (a1 = (-1))) fun x1 =>
  bif x1 then (
    chk (a7.length = 64) <|bno (gix a7 a0) fun x4 =>
    bno (a7[(a0 : Int).toNat]?) fun x5 =>
    bnd (a7.set ((a0 : Int).toNat) (⟨x5.id,a1,x5.first,x5.next,x5.weight,x5.closed⟩ : aF)) fun x6 =>
    bno (gix x6 a0) fun x7 =>
    bno (x6[(a0 : Int).toNat]?) fun x8 =>
    bnd (x6.set ((a0 : Int).toNat) (⟨x8.id,x8.up,x8.first,a8,x8.weight,x8.closed⟩ : aF)) fun x9 =>
    some (a2,a3,a4,a5,a6,x9,a0,a9)
  ) else (
    bno (gix a7 a1) fun x10 =>
    chk (a7.length = 64) <|bno (a7[(a1 : Int).toNat]?) fun x12 =>
    bno (gix a7 a0) fun x13 =>
    bno (a7[(a0 : Int).toNat]?) fun x14 =>
    bnd (a7.set ((a0 : Int).toNat) (⟨x14.id,a1,x14.first,x14.next,x14.weight,x14.closed⟩ : aF)) fun x15 =>
    bno (gix x15 a0) fun x16 =>
    bno (x15[(a0 : Int).toNat]?) fun x17 =>
    bnd (x15.set ((a0 : Int).toNat) (⟨x17.id,x17.up,x17.first,x12.first,x17.weight,x17.closed⟩ : aF)) fun x18 =>
    bno (x18[(a1 : Int).toNat]?) fun x19 =>
    bnd (x18.set ((a1 : Int).toNat) (⟨x19.id,x19.up,a0,x19.next,x19.weight,x19.closed⟩ : aF)) fun x20 =>
    some (a2,a3,a4,a5,a6,x20,a8,a9)
  )

def dG (a0 : Int) (a1 : Int) (a2 : Int) (a3 : Int) (a4 : (List aH)) (a5 : Int) (a6 : Int) (a7 : (List aF)) (a8 : Int) (a9 : (List Int)) : Option (Int × Int × (List aH) × Int × Int × (List aF) × Int × (List Int)) :=
  bno (eQ a0 a2 a3 a4 a5 a6 a7 a8 a9) fun x1 =>
  bno (eK a0 a1 x1.1 x1.2.1 x1.2.2.1 x1.2.2.2.1 x1.2.2.2.2.1 x1.2.2.2.2.2.1 x1.2.2.2.2.2.2.1 x1.2.2.2.2.2.2.2) fun x2 =>
  some (x2.1,x2.2.1,x2.2.2.1,x2.2.2.2.1,x2.2.2.2.2.1,x2.2.2.2.2.2.1,x2.2.2.2.2.2.2.1,x2.2.2.2.2.2.2.2)

def cT (a0 : (List aH)) : Option (List aH) :=
  uQ a0 (
    some ([] : (List aH))
  ) (
    bno (app 24 ([] : (List aH)) a0) fun x3 =>
    some x3
  )

def gJ (a0 : bC) : Option ((List aH) × Int × Int) :=
  bno (cT a0.Cells) fun x1 =>
  some (x1,a0.Free,a0.Used)

def iP (a0 : bC) (a1 : Int) : Option Bool :=
  bnd (decide (0 ≤ a1)) fun x1 =>
  bnd (decide (a1 < (a0.Cells.length : Int))) fun x2 =>
  bnd (x1 && x2) fun x3 =>
  bno (gd (x3 == true) (gix a0.Cells a1) default) fun x4 =>
  bnd (x3 && x4.Live) fun x5 =>
  some x5

def kJ (a0 : bC) (a1 : Int) : Option (bC × Int) :=
  bno (gJ a0) fun x1 =>
  bno (jP a0) fun x2 =>
  bnd (!decide (x2 = 0)) fun x3 =>
  bif x3 then (
    some ((⟨x1.1,x1.2.1,x1.2.2⟩ : bC),x2)
  ) else (
    bno (iP a0 a1) fun x5 =>
    bif (!x5) then (
      some ((⟨x1.1,x1.2.1,x1.2.2⟩ : bC),6)
    ) else (
      bno (gix x1.1 a1) fun x7 =>
      bno (x1.1[(a1 : Int).toNat]?) fun x8 =>
      bnd (x1.1.set ((a1 : Int).toNat) (⟨false,0,x1.2.1⟩ : aH)) fun x9 =>
      bnd (IntKind.wrap .i64 (x1.2.2 - 1)) fun x10 =>
      some ((⟨x9,a1,x10⟩ : bC),0)
    )
  )

def iN (a0 : Int) (a1 : Int) : Option Bool :=
  bnd (decide (a0 = a1)) fun x1 =>
  some x1

def cI (a0 : (List Int)) (a1 : Int) : Nat → Int → Option Int
  | 0,_=>none
  | n0 + 1, v7 =>
    bnd (decide (v7 < (a0.length : Int))) fun x14 =>
    bif x14 then (
      bno (gix a0 v7) fun x16 =>
      bno (iN x16 a1) fun x17 =>
      bif x17 then (
        some v7
      ) else (
        bnd (IntKind.wrap .i64 (v7 + 1)) fun x19 =>
        (cI a0 a1 n0) x19
      )
    ) else (
      some (-1)
    )
def fE (a0 : (List Int)) (a1 : Int) : Option Int :=
  cI a0 a1 fuel 0

def bV (a1 : Int) : Nat → (List Int) → Int → Int → Option (List Int)
  | 0,_,_,_=>none
  | n0 + 1, v17, v18, v19 =>
    bnd (decide (v19 < (v17.length : Int))) fun x32 =>
    bif x32 then (
      bno (gix v17 v19) fun x34 =>
      bno (v17[(v19 : Int).toNat]?) fun x35 =>
      bno (iN x35 a1) fun x36 =>
      bif (!x36) then (
        bno (gix v17 v18) fun x38 =>
        bno (v17[(v18 : Int).toNat]?) fun x39 =>
        bnd (v17.set ((v18 : Int).toNat) x35) fun x40 =>
        bnd (IntKind.wrap .i64 (v18 + 1)) fun x41 =>
        bnd (IntKind.wrap .i64 (v19 + 1)) fun x42 =>
        (bV a1 n0) x40 x41 x42
      ) else (
        bnd (IntKind.wrap .i64 (v19 + 1)) fun x43 =>
        (bV a1 n0) v17 v18 x43
      )
    ) else (
      bno (cut v17 0 v18) fun x44 =>
      bno (cut x44 0 v18) fun x45 =>
      some x45
    )
def cJ (a0 : (List Int)) (a1 : Int) : Option (List Int) :=
  bno (fE a0 a1) fun x1 =>
  bnd (decide (x1 = (-1))) fun x2 =>
  bif x2 then (
    some a0
  ) else (
    bnd (IntKind.wrap .i64 (x1 + 1)) fun x4 =>
    bV a1 fuel a0 x1 x4
  )

def gN (a0 : Int) (v53 : Int) (v63 : (List Int)) : Nat → Int → Int → Int → (List aH) → Int → Int → (List aF) → Int → (List Int) → Option (Int × Int × (List aH) × Int × Int × (List aF) × Int × (List Int))
  | 0,_,_,_,_,_,_,_,_,_=>none
  | n4 + 1, v92, v93, v94, v95, v96, v97, v98, v99, v100 =>
    bnd (decide (v92 < (v63.length : Int))) fun x120 =>
    bif x120 then (
      bno (gix v63 v92) fun x122 =>
      bno (v63[(v92 : Int).toNat]?) fun x123 =>
      bno (gix v98 a0) fun x124 =>
      chk (v98.length = 64) <|bno (v98[(a0 : Int).toNat]?) fun x126 =>
      bno (gix v98 x123) fun x127 =>
      bno (v98[(x123 : Int).toNat]?) fun x128 =>
      bnd (IntKind.wrap .i64 (x126.weight * x128.weight)) fun x129 =>
      bno (quoI .i64 x129 v53) fun x130 =>
      bnd (max x130 1) fun x131 =>
      bno (gix v98 x123) fun x132 =>
      bno (v98[(x123 : Int).toNat]?) fun x133 =>
      bnd (v98.set ((x123 : Int).toNat) (⟨x133.id,x133.up,x133.first,x133.next,x131,x133.closed⟩ : aF)) fun x134 =>
      bno (gix x134 a0) fun x135 =>
      bno (x134[(a0 : Int).toNat]?) fun x136 =>
      bno (dG x123 x136.up v93 v94 v95 v96 v97 x134 v99 v100) fun x137 =>
      bnd (IntKind.wrap .i64 (v92 + 1)) fun x138 =>
      (gN a0 v53 v63 n4) x138 x137.1 x137.2.1 x137.2.2.1 x137.2.2.2.1 x137.2.2.2.2.1 x137.2.2.2.2.2.1 x137.2.2.2.2.2.2.1 x137.2.2.2.2.2.2.2
    ) else (
      bno (eQ a0 v93 v94 v95 v96 v97 v98 v99 v100) fun x139 =>
      bno (kJ (⟨x139.2.2.1,x139.2.2.2.1,x139.2.2.2.2.1⟩ : bC) a0) fun x140 =>
      chk (x139.2.2.2.2.2.1.length = 64) <|bno (cJ x139.2.2.2.2.2.2.2 a0) fun x142 =>
      some (x139.1,x139.2.1,x140.1.Cells,x140.1.Free,x140.1.Used,x139.2.2.2.2.2.1,x139.2.2.2.2.2.2.1,x142)
    )
def gO (a0 : Int) (a1 : Int) (a2 : Int) (a3 : (List aH)) (a4 : Int) (a5 : Int) (a6 : (List aF)) (a7 : Int) (a8 : (List Int)) (v53 : Int) : Nat → Int → (List Int) → Option (Int × Int × (List aH) × Int × Int × (List aF) × Int × (List Int))
  | 0,_,_=>none
  | n3 + 1, v62, v63 =>
    bnd (!decide (v62 = (-1))) fun x69 =>
    bif x69 then (
      bno (gix a6 v62) fun x71 =>
      bno (a6[(v62 : Int).toNat]?) fun x72 =>
      bno (app 8 v63 ([v62] : (List Int))) fun x73 =>
      (gO a0 a1 a2 a3 a4 a5 a6 a7 a8 v53 n3) x72.next x73
    ) else (
      gN a0 v53 v63 fuel 0 a1 a2 a3 a4 a5 a6 a7 a8
    )
def bZ (a0 : Int) (v53 : Int) (v152 : (List Int)) : Nat → Int → Int → Int → (List aH) → Int → Int → (List aF) → Int → (List Int) → Option (Int × Int × (List aH) × Int × Int × (List aF) × Int × (List Int))
  | 0,_,_,_,_,_,_,_,_,_=>none
  | n6 + 1, v181, v182, v183, v184, v185, v186, v187, v188, v189 =>
    bnd (decide (v181 < (v152.length : Int))) fun x209 =>
    bif x209 then (
      bno (gix v152 v181) fun x211 =>
      bno (v152[(v181 : Int).toNat]?) fun x212 =>
      bno (gix v187 a0) fun x213 =>
      chk (v187.length = 64) <|bno (v187[(a0 : Int).toNat]?) fun x215 =>
      bno (gix v187 x212) fun x216 =>
      bno (v187[(x212 : Int).toNat]?) fun x217 =>
      bnd (IntKind.wrap .i64 (x215.weight * x217.weight)) fun x218 =>
      bno (quoI .i64 x218 v53) fun x219 =>
      bnd (max x219 1) fun x220 =>
      bno (gix v187 x212) fun x221 =>
      bno (v187[(x212 : Int).toNat]?) fun x222 =>
      bnd (v187.set ((x212 : Int).toNat) (⟨x222.id,x222.up,x222.first,x222.next,x220,x222.closed⟩ : aF)) fun x223 =>
      bno (gix x223 a0) fun x224 =>
      bno (x223[(a0 : Int).toNat]?) fun x225 =>
      bno (dG x212 x225.up v182 v183 v184 v185 v186 x223 v188 v189) fun x226 =>
      bnd (IntKind.wrap .i64 (v181 + 1)) fun x227 =>
      (bZ a0 v53 v152 n6) x227 x226.1 x226.2.1 x226.2.2.1 x226.2.2.2.1 x226.2.2.2.2.1 x226.2.2.2.2.2.1 x226.2.2.2.2.2.2.1 x226.2.2.2.2.2.2.2
    ) else (
      bno (eQ a0 v182 v183 v184 v185 v186 v187 v188 v189) fun x228 =>
      bno (kJ (⟨x228.2.2.1,x228.2.2.2.1,x228.2.2.2.2.1⟩ : bC) a0) fun x229 =>
      chk (x228.2.2.2.2.2.1.length = 64) <|bno (cJ x228.2.2.2.2.2.2.2 a0) fun x231 =>
      some (x228.1,x228.2.1,x229.1.Cells,x229.1.Free,x229.1.Used,x228.2.2.2.2.2.1,x228.2.2.2.2.2.2.1,x231)
    )
def eG (a0 : Int) (a1 : Int) (a2 : Int) (a3 : (List aH)) (a4 : Int) (a5 : Int) (a6 : (List aF)) (a7 : Int) (a8 : (List Int)) (v53 : Int) : Nat → Int → (List Int) → Option (Int × Int × (List aH) × Int × Int × (List aF) × Int × (List Int))
  | 0,_,_=>none
  | n5 + 1, v151, v152 =>
    bnd (!decide (v151 = (-1))) fun x158 =>
    bif x158 then (
      bno (gix a6 v151) fun x160 =>
      bno (a6[(v151 : Int).toNat]?) fun x161 =>
      bno (app 8 v152 ([v151] : (List Int))) fun x162 =>
      (eG a0 a1 a2 a3 a4 a5 a6 a7 a8 v53 n5) x161.next x162
    ) else (
      bZ a0 v53 v152 fuel 0 a1 a2 a3 a4 a5 a6 a7 a8
    )
def fJ (a0 : Int) (a1 : Int) (a2 : Int) (a3 : (List aH)) (a4 : Int) (a5 : Int) (a6 : (List aF)) (a7 : Int) (a8 : (List Int)) (v53 : Int) : Option (Int × Int × (List aH) × Int × Int × (List aF) × Int × (List Int)) :=
  bnd (decide (a0 = (-1))) fun x54 =>
  bif x54 then (
    chk (a6.length = 64) <|gO a0 a1 a2 a3 a4 a5 a6 a7 a8 v53 fuel a7 ([] : (List Int))
  ) else (
    bno (gix a6 a0) fun x143 =>
    chk (a6.length = 64) <|bno (a6[(a0 : Int).toNat]?) fun x145 =>
    eG a0 a1 a2 a3 a4 a5 a6 a7 a8 v53 fuel x145.first ([] : (List Int))
  )
def gM (a0 : Int) (a1 : Int) (a2 : Int) (a3 : (List aH)) (a4 : Int) (a5 : Int) (a6 : (List aF)) (a7 : Int) (a8 : (List Int)) : Nat → Int → Int → Option (Int × Int × (List aH) × Int × Int × (List aF) × Int × (List Int))
  | 0,_,_=>none
  | n7 + 1, v242, v243 =>
    bnd (!decide (v242 = (-1))) fun x251 =>
    bif x251 then (
      bno (gix a6 v242) fun x253 =>
      bno (a6[(v242 : Int).toNat]?) fun x254 =>
      bno (gix a6 v242) fun x255 =>
      bno (a6[(v242 : Int).toNat]?) fun x256 =>
      bnd (IntKind.wrap .i64 (v243 + x256.weight)) fun x257 =>
      (gM a0 a1 a2 a3 a4 a5 a6 a7 a8 n7) x254.next x257
    ) else (
      fJ a0 a1 a2 a3 a4 a5 a6 a7 a8 v243
    )
def eF (a0 : Int) (a1 : Int) (a2 : Int) (a3 : (List aH)) (a4 : Int) (a5 : Int) (a6 : (List aF)) (a7 : Int) (a8 : (List Int)) : Nat → Int → Int → Option (Int × Int × (List aH) × Int × Int × (List aF) × Int × (List Int))
  | 0,_,_=>none
  | n8 + 1, v268, v269 =>
    bnd (!decide (v268 = (-1))) fun x277 =>
    bif x277 then (
      bno (gix a6 v268) fun x279 =>
      bno (a6[(v268 : Int).toNat]?) fun x280 =>
      bno (gix a6 v268) fun x281 =>
      bno (a6[(v268 : Int).toNat]?) fun x282 =>
      bnd (IntKind.wrap .i64 (v269 + x282.weight)) fun x283 =>
      (eF a0 a1 a2 a3 a4 a5 a6 a7 a8 n8) x280.next x283
    ) else (
      fJ a0 a1 a2 a3 a4 a5 a6 a7 a8 v269
    )
def dW (a0 : Int) (a1 : Int) (a2 : Int) (a3 : (List aH)) (a4 : Int) (a5 : Int) (a6 : (List aF)) (a7 : Int) (a8 : (List Int)) : Option (Int × Int × (List aH) × Int × Int × (List aF) × Int × (List Int)) :=
  bnd (decide (a0 = (-1))) fun x232 =>
  bif x232 then (
    chk (a6.length = 64) <|gM a0 a1 a2 a3 a4 a5 a6 a7 a8 fuel a7 0
  ) else (
    bno (gix a6 a0) fun x258 =>
    chk (a6.length = 64) <|bno (a6[(a0 : Int).toNat]?) fun x260 =>
    eF a0 a1 a2 a3 a4 a5 a6 a7 a8 fuel x260.first 0
  )

def kI (a0 : bC) (a1 : Int) : Option (bC × Int × Int) :=
  bno (gJ a0) fun x1 =>
  bno (jP a0) fun x2 =>
  bnd (!decide (x2 = 0)) fun x3 =>
  bif x3 then (
    some ((⟨x1.1,x1.2.1,x1.2.2⟩ : bC),0,x2)
  ) else (
    bnd (decide (64 ≤ a0.Used)) fun x5 =>
    bif x5 then (
      some ((⟨x1.1,x1.2.1,x1.2.2⟩ : bC),0,7)
    ) else (
      bnd (IntKind.wrap .i64 (x1.2.2 + 1)) fun x7 =>
      bnd (decide (x1.2.1 = (-1))) fun x8 =>
      bif x8 then (
        bno (app 24 x1.1 (([(⟨true,a1,0⟩ : aH)] : (List aH)))) fun x10 =>
        some (((⟨x10,x1.2.1,x7⟩ : bC),(a0.Cells.length : Int),0))
      ) else (
        bno (gix x1.1 x1.2.1) fun x11 =>
        bno (x1.1[(x1.2.1 : Int).toNat]?) fun x12 =>
        bno (gix x1.1 x1.2.1) fun x13 =>
        bno (x1.1[(x1.2.1 : Int).toNat]?) fun x14 =>
        bnd (x1.1.set ((x1.2.1 : Int).toNat) (⟨true,a1,0⟩ : aH)) fun x15 =>
        some ((⟨x15,x12.Link,x7⟩ : bC),x1.2.1,0)
      )
    )
  )

def dH (a1 : Int) (a7 : (List aF)) : Nat → Int → Option Bool
  | 0,_=>none
  | n0 + 1, v8 =>
    bnd (!decide (v8 = (-1))) fun x16 =>
    bif x16 then (
      bno (gix a7 v8) fun x18 =>
      chk (a7.length = 64) <|bno (a7[(v8 : Int).toNat]?) fun x20 =>
      bnd (decide (x20.up = a1)) fun x21 =>
      bif x21 then (
        some true
      ) else (
        (dH a1 a7 n0) x20.up
      )
    ) else (
      some false
    )
def gX (a0 : Int) (a1 : Int) (a2 : Int) (a3 : Int) (a4 : (List aH)) (a5 : Int) (a6 : Int) (a7 : (List aF)) (a8 : Int) (a9 : (List Int)) : Option Bool :=
  dH a1 a7 fuel a0

def cW (a0 : Int) (v39 : (List Int)) : Nat → Int → Int → Int → (List aH) → Int → Int → (List aF) → Int → (List Int) → Option (Int × Int × (List aH) × Int × Int × (List aF) × Int × (List Int))
  | 0,_,_,_,_,_,_,_,_,_=>none
  | n3 + 1, v59, v60, v61, v62, v63, v64, v65, v66, v67 =>
    bnd (decide (v59 < (v39.length : Int))) fun x77 =>
    bif x77 then (
      bno (gix v39 v59) fun x79 =>
      bno (v39[(v59 : Int).toNat]?) fun x80 =>
      bnd (!decide (x80 = a0)) fun x81 =>
      bif x81 then (
        bno (dG x80 a0 v60 v61 v62 v63 v64 v65 v66 v67) fun x83 =>
        bnd (IntKind.wrap .i64 (v59 + 1)) fun x84 =>
        (cW a0 v39 n3) x84 x83.1 x83.2.1 x83.2.2.1 x83.2.2.2.1 x83.2.2.2.2.1 x83.2.2.2.2.2.1 x83.2.2.2.2.2.2.1 x83.2.2.2.2.2.2.2
      ) else (
        bnd (IntKind.wrap .i64 (v59 + 1)) fun x85 =>
        (cW a0 v39 n3) x85 v60 v61 v62 v63 v64 v65 v66 v67
      )
    ) else (
      some (v60,v61,v62,v63,v64,v65,v66,v67)
    )
def dS (a0 : Int) (x25 : (Int × Int × (List aH) × Int × Int × (List aF) × Int × (List Int))) (x29 : (List aF)) : Nat → Int → (List Int) → Option (Int × Int × (List aH) × Int × Int × (List aF) × Int × (List Int))
  | 0,_,_=>none
  | n2 + 1, v38, v39 =>
    bnd (!decide (v38 = (-1))) fun x45 =>
    bif x45 then (
      bno (gix x29 v38) fun x47 =>
      bno (x29[(v38 : Int).toNat]?) fun x48 =>
      bno (app 8 v39 ([v38] : (List Int))) fun x49 =>
      (dS a0 x25 x29 n2) x48.next x49
    ) else (
      cW a0 v39 fuel 0 x25.1 x25.2.1 x25.2.2.1 x25.2.2.2.1 x25.2.2.2.2.1 x29 x25.2.2.2.2.2.2.1 x25.2.2.2.2.2.2.2
    )
def cV (a0 : Int) (v94 : (List Int)) : Nat → Int → Int → Int → (List aH) → Int → Int → (List aF) → Int → (List Int) → Option (Int × Int × (List aH) × Int × Int × (List aF) × Int × (List Int))
  | 0,_,_,_,_,_,_,_,_,_=>none
  | n5 + 1, v114, v115, v116, v117, v118, v119, v120, v121, v122 =>
    bnd (decide (v114 < (v94.length : Int))) fun x132 =>
    bif x132 then (
      bno (gix v94 v114) fun x134 =>
      bno (v94[(v114 : Int).toNat]?) fun x135 =>
      bnd (!decide (x135 = a0)) fun x136 =>
      bif x136 then (
        bno (dG x135 a0 v115 v116 v117 v118 v119 v120 v121 v122) fun x138 =>
        bnd (IntKind.wrap .i64 (v114 + 1)) fun x139 =>
        (cV a0 v94 n5) x139 x138.1 x138.2.1 x138.2.2.1 x138.2.2.2.1 x138.2.2.2.2.1 x138.2.2.2.2.2.1 x138.2.2.2.2.2.2.1 x138.2.2.2.2.2.2.2
      ) else (
        bnd (IntKind.wrap .i64 (v114 + 1)) fun x140 =>
        (cV a0 v94 n5) x140 v115 v116 v117 v118 v119 v120 v121 v122
      )
    ) else (
      some (v115,v116,v117,v118,v119,v120,v121,v122)
    )
def dR (a0 : Int) (x25 : (Int × Int × (List aH) × Int × Int × (List aF) × Int × (List Int))) (x29 : (List aF)) : Nat → Int → (List Int) → Option (Int × Int × (List aH) × Int × Int × (List aF) × Int × (List Int))
  | 0,_,_=>none
  | n4 + 1, v93, v94 =>
    bnd (!decide (v93 = (-1))) fun x100 =>
    bif x100 then (
      bno (gix x29 v93) fun x102 =>
      bno (x29[(v93 : Int).toNat]?) fun x103 =>
      bno (app 8 v94 ([v93] : (List Int))) fun x104 =>
      (dR a0 x25 x29 n4) x103.next x104
    ) else (
      cV a0 v94 fuel 0 x25.1 x25.2.1 x25.2.2.1 x25.2.2.2.1 x25.2.2.2.2.1 x29 x25.2.2.2.2.2.2.1 x25.2.2.2.2.2.2.2
    )
def eU (a0 : Int) (x1 : Int) (v7 : Int) (v8 : Bool) (v17 : Int) (v18 : Int) (v19 : (List aH)) (v20 : Int) (v21 : Int) (v22 : (List aF)) (v23 : Int) (v24 : (List Int)) : Option (Int × Int × (List aH) × Int × Int × (List aF) × Int × (List Int)) :=
  bno (dG a0 x1 v17 v18 v19 v20 v21 v22 v23 v24) fun x25 =>
  bno (gix x25.2.2.2.2.2.1 a0) fun x26 =>
  chk (x25.2.2.2.2.2.1.length = 64) <|bno (x25.2.2.2.2.2.1[(a0 : Int).toNat]?) fun x28 =>
  bnd (x25.2.2.2.2.2.1.set ((a0 : Int).toNat) (⟨x28.id,x28.up,x28.first,x28.next,v7,x28.closed⟩ : aF)) fun x29 =>
  bif (!v8) then (
    some (x25.1,x25.2.1,x25.2.2.1,x25.2.2.2.1,x25.2.2.2.2.1,x29,x25.2.2.2.2.2.2.1,x25.2.2.2.2.2.2.2)
  ) else (
    bnd (decide (x1 = (-1))) fun x31 =>
    bif x31 then (
      dS a0 x25 x29 fuel x25.2.2.2.2.2.2.1 ([] : (List Int))
    ) else (
      bno (gix x29 x1) fun x86 =>
      bno (x29[(x1 : Int).toNat]?) fun x87 =>
      dR a0 x25 x29 fuel x87.first ([] : (List Int))
    )
  )
def eV (a0 : Int) (a2 : Int) (a3 : Int) (a4 : (List aH)) (a5 : Int) (a6 : Int) (a7 : (List aF)) (a8 : Int) (a9 : (List Int)) (x1 : Int) (v6 : Int) (v7 : Int) (v8 : Bool) : Option (Int × Int × (List aH) × Int × Int × (List aF) × Int × (List Int)) :=
  bnd (!decide (x1 = (-1))) fun x141 =>
  bno (gd (x141 == true) (gX x1 a0 a2 a3 a4 a5 a6 a7 a8 a9) default) fun x142 =>
  bnd (x141 && x142) fun x143 =>
  bif x143 then (
    bno (gix a7 a0) fun x145 =>
    chk (a7.length = 64) <|bno (a7[(a0 : Int).toNat]?) fun x147 =>
    bno (dG x1 x147.up a2 a3 a4 a5 a6 a7 a8 a9) fun x148 =>
    eU a0 x1 v7 v8 x148.1 x148.2.1 x148.2.2.1 x148.2.2.2.1 x148.2.2.2.2.1 x148.2.2.2.2.2.1 x148.2.2.2.2.2.2.1 x148.2.2.2.2.2.2.2
  ) else (
    eU a0 x1 v7 v8 a2 a3 a4 a5 a6 a7 a8 a9
  )
def eN (a0 : Int) (a1 : eI) (a2 : Int) (a3 : Int) (a4 : (List aH)) (a5 : Int) (a6 : Int) (a7 : (List aF)) (a8 : Int) (a9 : (List Int)) : Option (Int × Int × (List aH) × Int × Int × (List aF) × Int × (List Int)) :=
  bno (cA a1.dep a2 a3 a4 a5 a6 a7 a8 a9) fun x1 =>
  bnd (decide (x1 = (-1))) fun x149 =>
  bnd (!decide (a1.dep = 0)) fun x150 =>
  bnd (x149 && x150) fun x151 =>
  bif x151 then (
    eV a0 a2 a3 a4 a5 a6 a7 a8 a9 x1 0 16 false
  ) else (
    eV a0 a2 a3 a4 a5 a6 a7 a8 a9 x1 a1.dep a1.weight a1.only
  )

def eD (a0 : Int) (a1 : eI) (v10 : Int) (v11 : Int) (v12 : (List aH)) (v13 : Int) (v14 : Int) (v15 : (List aF)) (v16 : Int) (v17 : (List Int)) : Option (Int × Int × Int × (List aH) × Int × Int × (List aF) × Int × (List Int)) :=
  bno (kI (⟨v12,v13,v14⟩ : bC) a0) fun x18 =>
  bnd (!decide (x18.2.2 = 0)) fun x19 =>
  bif x19 then (
    some (x18.2.2,v10,v11,v12,v13,v14,v15,v16,v17)
  ) else (
    bno (gix v15 x18.2.1) fun x21 =>
    chk (v15.length = 64) <|bno (v15[(x18.2.1 : Int).toNat]?) fun x23 =>
    bnd (v15.set ((x18.2.1 : Int).toNat) (⟨a0,0,(-1),(-1),16,false⟩ : aF)) fun x24 =>
    bno (eK x18.2.1 (-1) v10 v11 x18.1.Cells x18.1.Free x18.1.Used x24 v16 v17) fun x25 =>
    bno (eN x18.2.1 a1 x25.1 x25.2.1 x25.2.2.1 x25.2.2.2.1 x25.2.2.2.2.1 x25.2.2.2.2.2.1 x25.2.2.2.2.2.2.1 x25.2.2.2.2.2.2.2) fun x26 =>
    some (0,x26.1,x26.2.1,x26.2.2.1,x26.2.2.2.1,x26.2.2.2.2.1,x26.2.2.2.2.2.1,x26.2.2.2.2.2.2.1,x26.2.2.2.2.2.2.2)
  )
def fK (a0 : Int) (a1 : eI) (a2 : Int) (a3 : Int) (a4 : (List aH)) (a5 : Int) (a6 : Int) (a7 : (List aF)) (a8 : Int) (a9 : (List Int)) : Option (Int × Int × Int × (List aH) × Int × Int × (List aF) × Int × (List Int)) :=
  bno (gV a2 a3 a4 a5 a6 a7 a8 a9) fun x27 =>
  bnd (decide (a2 ≤ x27)) fun x28 =>
  bif x28 then (
    chk (a7.length = 64) <|bnd (decide ((a9.length : Int) = 0)) fun x31 =>
    bif x31 then (
      some (7,a2,a3,a4,a5,a6,a7,a8,a9)
    ) else (
      bno (gix a9 0) fun x33 =>
      bno (a9[(0 : Int).toNat]?) fun x34 =>
      bno (dW x34 a2 a3 a4 a5 a6 a7 a8 a9) fun x35 =>
      eD a0 a1 x35.1 x35.2.1 x35.2.2.1 x35.2.2.2.1 x35.2.2.2.2.1 x35.2.2.2.2.2.1 x35.2.2.2.2.2.2.1 x35.2.2.2.2.2.2.2
    )
  ) else (
    eD a0 a1 a2 a3 a4 a5 a6 a7 a8 a9
  )

def dU (a0 : Int) (a1 : Int) (a2 : Int) (a3 : Bool) (a4 : Int) (a5 : Int) (a6 : (List aH)) (a7 : Int) (a8 : Int) (a9 : (List aF)) (a10 : Int) (a11 : (List Int)) : Option (Int × Int × Int × (List aH) × Int × Int × (List aF) × Int × (List Int)) :=
  bno (gU (⟨a1,a2,a3⟩ : eI) a0) fun x1 =>
  bnd (!decide (x1 = 0)) fun x2 =>
  bif x2 then (
    some (x1,a4,a5,a6,a7,a8,a9,a10,a11)
  ) else (
    bno (cA a0 a4 a5 a6 a7 a8 a9 a10 a11) fun x4 =>
    bnd (!decide (x4 = (-1))) fun x5 =>
    bif x5 then (
      some (13,a4,a5,a6,a7,a8,a9,a10,a11)
    ) else (
      bno (fK a0 (⟨a1,a2,a3⟩ : eI) a4 a5 a6 a7 a8 a9 a10 a11) fun x7 =>
      some (x7.1,x7.2.1,x7.2.2.1,x7.2.2.2.1,x7.2.2.2.2.1,x7.2.2.2.2.2.1,x7.2.2.2.2.2.2.1,x7.2.2.2.2.2.2.2.1,x7.2.2.2.2.2.2.2.2)
    )
  )

def gG (a0 : Int) (a1 : Int) (a2 : Int) (a3 : Bool) (a4 : Int) (a5 : Int) (a6 : (List aH)) (a7 : Int) (a8 : Int) (a9 : (List aF)) (a10 : Int) (a11 : (List Int)) : Option (Int × Int × Int × (List aH) × Int × Int × (List aF) × Int × (List Int)) :=
  bno (gU (⟨a1,a2,a3⟩ : eI) a0) fun x1 =>
  bnd (!decide (x1 = 0)) fun x2 =>
  bif x2 then (
    some (x1,a4,a5,a6,a7,a8,a9,a10,a11)
  ) else (
    bno (cA a0 a4 a5 a6 a7 a8 a9 a10 a11) fun x4 =>
    bnd (decide (x4 = (-1))) fun x5 =>
    bif x5 then (
      bno (fK a0 (⟨a1,a2,a3⟩ : eI) a4 a5 a6 a7 a8 a9 a10 a11) fun x7 =>
      some (x7.1,x7.2.1,x7.2.2.1,x7.2.2.2.1,x7.2.2.2.2.1,x7.2.2.2.2.2.1,x7.2.2.2.2.2.2.1,x7.2.2.2.2.2.2.2.1,x7.2.2.2.2.2.2.2.2)
    ) else (
      bno (eN x4 (⟨a1,a2,a3⟩ : eI) a4 a5 a6 a7 a8 a9 a10 a11) fun x8 =>
      some (0,x8.1,x8.2.1,x8.2.2.1,x8.2.2.2.1,x8.2.2.2.2.1,x8.2.2.2.2.2.1,x8.2.2.2.2.2.2.1,x8.2.2.2.2.2.2.2)
    )
  )

def dX (a0 : Int) (a1 : Int) (a2 : Int) (a3 : (List aH)) (a4 : Int) (a5 : Int) (a6 : (List aF)) (a7 : Int) (a8 : (List Int)) : Option Int :=
  bnd (decide (a0 = (-1))) fun x1 =>
  bif x1 then (
    some 0
  ) else (
    bno (gix a6 a0) fun x3 =>
    chk (a6.length = 64) <|bno (a6[(a0 : Int).toNat]?) fun x5 =>
    some x5.id
  )

def cK (a0 : (List aY)) : Option (List aY):=tZ (fun x=>x.ID) (fun x=>decide (0 ≤ x.ID) && decide (x.ID ≤ 1048576)) a0

def dT (a0 : Int) (a1 : Int) (a2 : (List aH)) (a3 : Int) (a4 : Int) (a5 : (List aF)) (a6 : Int) (a7 : (List Int)) (x1 : (List Int)) : Nat → (List aY) → Int → Option (List aY)
  | 0,_,_=>none
  | n0 + 1, v11, v12 =>
    bnd (decide (v12 < (x1.length : Int))) fun x22 =>
    bif x22 then (
      bno (gix x1 v12) fun x24 =>
      bno (gix a5 x24) fun x25 =>
      chk (a5.length = 64) <|bno (a5[(x24 : Int).toNat]?) fun x27 =>
      bno (dX x27.up a0 a1 a2 a3 a4 a5 a6 a7) fun x28 =>
      bno (app 32 v11 (([(⟨x27.id,x28,x27.weight,x27.closed⟩ : aY)] : (List aY)))) fun x29 =>
      bnd (IntKind.wrap .i64 (v12 + 1)) fun x30 =>
      (dT a0 a1 a2 a3 a4 a5 a6 a7 x1 n0) x29 x30
    ) else (
      bno (cK v11) fun x31 =>
      chk (x31.length = v11.length) <|some x31
    )
def fX (a0 : Int) (a1 : Int) (a2 : (List aH)) (a3 : Int) (a4 : Int) (a5 : (List aF)) (a6 : Int) (a7 : (List Int)) : Option (List aY) :=
  bno (lC (⟨a2,a3,a4⟩ : bC)) fun x1 =>
  dT a0 a1 a2 a3 a4 a5 a6 a7 x1 fuel ([] : (List aY)) 0

def fG (a0 : (List aY)) : Nat → (List aY) → Int → Option (List aY)
  | 0,_,_=>none
  | n0 + 1, v7, v8 =>
    bnd (decide (v8 < (a0.length : Int))) fun x15 =>
    bif x15 then (
      bno (gix a0 v8) fun x17 =>
      bno (a0[(v8 : Int).toNat]?) fun x18 =>
      bno (app 32 v7 ([x18] : (List aY))) fun x19 =>
      bnd (IntKind.wrap .i64 (v8 + 1)) fun x20 =>
      (fG a0 n0) x19 x20
    ) else (
      some v7
    )
def jJ (a0 : (List aY)) : Option (List aY) :=
  fG a0 fuel ([] : (List aY)) 0

def eB (a1 : Int) (a2 : Int) (a3 : (List aH)) (a4 : Int) (a5 : Int) (a6 : (List aF)) (a7 : Int) (a8 : (List Int)) : Nat → (List Int) → Int → Option (List Int)
  | 0,_,_=>none
  | n0 + 1, v14, v15 =>
    bnd (!decide (v15 = (-1))) fun x28 =>
    bno (gd (x28 == true) (gix a6 v15) default) fun x29 =>
    chk ((x28 == true) = true → a6.length = 64) <|bno (gd (x28 == true) (a6[(v15 : Int).toNat]?) default) fun x31 =>
    bnd (!decide (x31.up = (-1))) fun x32 =>
    bnd (x28 && x32) fun x33 =>
    bif x33 then (
      bno (gix a6 v15) fun x35 =>
      chk (a6.length = 64) <|bno (a6[(v15 : Int).toNat]?) fun x37 =>
      bno (dX x37.up a1 a2 a3 a4 a5 a6 a7 a8) fun x38 =>
      bno (app 8 v14 ([x38] : (List Int))) fun x39 =>
      (eB a1 a2 a3 a4 a5 a6 a7 a8 n0) x39 x37.up
    ) else (
      some v14
    )
def gF (a0 : Int) (a1 : Int) (a2 : Int) (a3 : (List aH)) (a4 : Int) (a5 : Int) (a6 : (List aF)) (a7 : Int) (a8 : (List Int)) : Option (List Int) :=
  bno (cA a0 a1 a2 a3 a4 a5 a6 a7 a8) fun x1 =>
  eB a1 a2 a3 a4 a5 a6 a7 a8 fuel ([] : (List Int)) x1

def eW (a0 : (List Int)) : Option (List Int):=uB a0

def cX (a1 : Int) (a2 : Int) (a3 : (List aH)) (a4 : Int) (a5 : Int) (a6 : (List aF)) (a7 : Int) (a8 : (List Int)) (v18 : (List Bool)) (v98 : (List Int)) (v99 : Int) (kk1 : (List Int) → Int → Option (List Int)) : Nat → Bool → Int → Option (List Int)
  | 0,_,_=>none
  | n2 + 1, v161, v162 =>
    bno (gd (v161 == true) (gix a6 v162) default) fun x175 =>
    chk ((v161 == true) = true → a6.length = 64) <|bno (gd (v161 == true) (a6[(v162 : Int).toNat]?) default) fun x177 =>
    bnd (!decide (x177.up = (-1))) fun x178 =>
    bnd (v161 && x178) fun x179 =>
    bif x179 then (
      bno (gix a6 v162) fun x181 =>
      chk (a6.length = 64) <|bno (a6[(v162 : Int).toNat]?) fun x183 =>
      bno (gix v18 x183.up) fun x184 =>
      chk (v18.length = 64) <|bno (v18[(x183.up : Int).toNat]?) fun x186 =>
      (cX a1 a2 a3 a4 a5 a6 a7 a8 v18 v98 v99 kk1 n2) (!x186) x183.up
    ) else (
      bif v161 then (
        bno (dX v99 a1 a2 a3 a4 a5 a6 a7 a8) fun x188 =>
        bno (app 8 v98 ([x188] : (List Int))) fun x189 =>
        bnd (IntKind.wrap .i64 (v99 + 1)) fun x190 =>
        kk1 x189 x190
      ) else (
        bnd (IntKind.wrap .i64 (v99 + 1)) fun x191 =>
        kk1 v98 x191
      )
    )
def cY (a1 : Int) (a2 : Int) (a3 : (List aH)) (a4 : Int) (a5 : Int) (a6 : (List aF)) (a7 : Int) (a8 : (List Int)) (v18 : (List Bool)) : Nat → (List Int) → Int → Option (List Int)
  | 0,_,_=>none
  | n1 + 1, v98, v99 =>
    bnd (decide (v99 < 64)) fun x146 =>
    bif x146 then (
      bno (gix v18 v99) fun x148 =>
      cX a1 a2 a3 a4 a5 a6 a7 a8 v18 v98 v99 (cY a1 a2 a3 a4 a5 a6 a7 a8 v18 n1) fuel x148 v99
    ) else (
      bno (eW v98) fun x192 =>
      chk (x192.length = v98.length) <|some x192
    )
def dI (a0 : (List Int)) (a1 : Int) (a2 : Int) (a3 : (List aH)) (a4 : Int) (a5 : Int) (a6 : (List aF)) (a7 : Int) (a8 : (List Int)) : Nat → Int → (List Bool) → Option (List Int)
  | 0,_,_=>none
  | n0 + 1, v17, v18 =>
    bnd (decide (v17 < (a0.length : Int))) fun x35 =>
    bif x35 then (
      bno (gix a0 v17) fun x37 =>
      bno (cA x37 a1 a2 a3 a4 a5 a6 a7 a8) fun x38 =>
      bnd (!decide (x38 = (-1))) fun x39 =>
      bno (gd (x39 == true) (gix a6 x38) default) fun x40 =>
      chk ((x39 == true) = true → a6.length = 64) <|bno (gd (x39 == true) (a6[(x38 : Int).toNat]?) default) fun x42 =>
      bnd (x39 && (!x42.closed)) fun x43 =>
      bif x43 then (
        bno (gix v18 x38) fun x45 =>
        chk (v18.length = 64) <|bno (v18[(x38 : Int).toNat]?) fun x47 =>
        bnd (v18.set ((x38 : Int).toNat) true) fun x48 =>
        bnd (IntKind.wrap .i64 (v17 + 1)) fun x49 =>
        (dI a0 a1 a2 a3 a4 a5 a6 a7 a8 n0) x49 x48
      ) else (
        bnd (IntKind.wrap .i64 (v17 + 1)) fun x50 =>
        (dI a0 a1 a2 a3 a4 a5 a6 a7 a8 n0) x50 v18
      )
    ) else (
      chk (v18.length = 64) <|cY a1 a2 a3 a4 a5 a6 a7 a8 v18 fuel ([] : (List Int)) 0
    )
def eZ (a0 : (List Int)) (a1 : Int) (a2 : Int) (a3 : (List aH)) (a4 : Int) (a5 : Int) (a6 : (List aF)) (a7 : Int) (a8 : (List Int)) : Option (List Int) :=
  bnd ((List.replicate 64 false : (List Bool))) fun x1 =>
  dI a0 a1 a2 a3 a4 a5 a6 a7 a8 fuel 0 x1

def fA (a0 : Int) (a1 : Int) (a2 : Int) (a3 : (List aH)) (a4 : Int) (a5 : Int) (a6 : (List aF)) (a7 : Int) (a8 : (List Int)) : Option (Int × Int × Int × (List aH) × Int × Int × (List aF) × Int × (List Int)) :=
  bno (cA a0 a1 a2 a3 a4 a5 a6 a7 a8) fun x1 =>
  bnd (decide (x1 = (-1))) fun x2 =>
  bif x2 then (
    some (6,a1,a2,a3,a4,a5,a6,a7,a8)
  ) else (
    bno (gix a6 x1) fun x4 =>
    chk (a6.length = 64) <|bno (a6[(x1 : Int).toNat]?) fun x6 =>
    bif x6.closed then (
      some (9,a1,a2,a3,a4,a5,a6,a7,a8)
    ) else (
      bno (gix a6 x1) fun x8 =>
      bno (a6[(x1 : Int).toNat]?) fun x9 =>
      bnd (a6.set ((x1 : Int).toNat) (⟨x9.id,x9.up,x9.first,x9.next,x9.weight,true⟩ : aF)) fun x10 =>
      bno (app 8 a8 ([x1] : (List Int))) fun x11 =>
      bnd (decide (a2 < (x11.length : Int))) fun x12 =>
      bif x12 then (
        bno (gix x11 0) fun x14 =>
        bno (x11[(0 : Int).toNat]?) fun x15 =>
        bno (dW x15 a1 a2 a3 a4 a5 x10 a7 x11) fun x16 =>
        some (0,x16.1,x16.2.1,x16.2.2.1,x16.2.2.2.1,x16.2.2.2.2.1,x16.2.2.2.2.2.1,x16.2.2.2.2.2.2.1,x16.2.2.2.2.2.2.2)
      ) else (
        some (0,a1,a2,a3,a4,a5,x10,a7,x11)
      )
    )
  )

def fL (a0 : Int) (a1 : Int) (a2 : Int) (a3 : (List aH)) (a4 : Int) (a5 : Int) (a6 : (List aF)) (a7 : Int) (a8 : (List Int)) : Option (Int × Int × Int × (List aH) × Int × Int × (List aF) × Int × (List Int)) :=
  bno (cA a0 a1 a2 a3 a4 a5 a6 a7 a8) fun x1 =>
  bnd (decide (x1 = (-1))) fun x2 =>
  bif x2 then (
    some (6,a1,a2,a3,a4,a5,a6,a7,a8)
  ) else (
    bno (dW x1 a1 a2 a3 a4 a5 a6 a7 a8) fun x4 =>
    some (0,x4.1,x4.2.1,x4.2.2.1,x4.2.2.2.1,x4.2.2.2.2.1,x4.2.2.2.2.2.1,x4.2.2.2.2.2.2.1,x4.2.2.2.2.2.2.2)
  )

def iC (v52 : (List Int)) : Option (List Int) :=
  bno (eW v52) fun x53 =>
  chk (x53.length = v52.length) <|some x53
def gA (a1 : Int) (a2 : Int) (a3 : (List aH)) (a4 : Int) (a5 : Int) (a6 : (List aF)) (a7 : Int) (a8 : (List Int)) : Nat → Int → (List Int) → Option (List Int)
  | 0,_,_=>none
  | n3 + 1, v64, v65 =>
    bnd (!decide (v64 = (-1))) fun x72 =>
    bif x72 then (
      bno (gix a6 v64) fun x74 =>
      bno (a6[(v64 : Int).toNat]?) fun x75 =>
      bno (dX v64 a1 a2 a3 a4 a5 a6 a7 a8) fun x76 =>
      bno (app 8 v65 ([x76] : (List Int))) fun x77 =>
      (gA a1 a2 a3 a4 a5 a6 a7 a8 n3) x75.next x77
    ) else (
      iC v65
    )
def fZ (a1 : Int) (a2 : Int) (a3 : (List aH)) (a4 : Int) (a5 : Int) (a6 : (List aF)) (a7 : Int) (a8 : (List Int)) : Nat → Int → (List Int) → Option (List Int)
  | 0,_,_=>none
  | n4 + 1, v87, v88 =>
    bnd (!decide (v87 = (-1))) fun x95 =>
    bif x95 then (
      bno (gix a6 v87) fun x97 =>
      bno (a6[(v87 : Int).toNat]?) fun x98 =>
      bno (dX v87 a1 a2 a3 a4 a5 a6 a7 a8) fun x99 =>
      bno (app 8 v88 ([x99] : (List Int))) fun x100 =>
      (fZ a1 a2 a3 a4 a5 a6 a7 a8 n4) x98.next x100
    ) else (
      iC v88
    )
def kE (a0 : Int) (a1 : Int) (a2 : Int) (a3 : (List aH)) (a4 : Int) (a5 : Int) (a6 : (List aF)) (a7 : Int) (a8 : (List Int)) : Option (List Int) :=
  bno (cA a0 a1 a2 a3 a4 a5 a6 a7 a8) fun x1 =>
  bnd (decide (x1 = (-1))) fun x2 =>
  bnd (!decide (a0 = 0)) fun x3 =>
  bnd (x2 && x3) fun x4 =>
  bif x4 then (
    some ([] : (List Int))
  ) else (
    bnd (decide (x1 = (-1))) fun x55 =>
    bif x55 then (
      chk (a6.length = 64) <|gA a1 a2 a3 a4 a5 a6 a7 a8 fuel a7 ([] : (List Int))
    ) else (
      bno (gix a6 x1) fun x78 =>
      chk (a6.length = 64) <|bno (a6[(x1 : Int).toNat]?) fun x80 =>
      fZ a1 a2 a3 a4 a5 a6 a7 a8 fuel x80.first ([] : (List Int))
    )
  )

def eS (a0 : (List aY)) (a1 : (List aY)) : Nat → Int → Option Bool
  | 0,_=>none
  | n0 + 1, v10 =>
    bnd (decide (v10 < (a0.length : Int))) fun x18 =>
    bif x18 then (
      bno (gix a0 v10) fun x20 =>
      bno (gix a1 v10) fun x21 =>
      bnd ((decide (x20.ID = x21.ID) && (decide (x20.Parent = x21.Parent) && (decide (x20.Weight = x21.Weight) && ((x20.Closed == x21.Closed) && true))))) fun x22 =>
      bif (!x22) then (
        some false
      ) else (
        bnd (IntKind.wrap .i64 (v10 + 1)) fun x24 =>
        (eS a0 a1 n0) x24
      )
    ) else (
      some true
    )
def gW (a0 : (List aY)) (a1 : (List aY)) : Option Bool :=
  bnd (!decide ((a0.length : Int) = (a1.length : Int))) fun x1 =>
  bif x1 then (
    some false
  ) else (
    eS a0 a1 fuel 0
  )

def fH (a0 : Int) (a1 : Int) (a2 : (List aH)) (a3 : Int) (a4 : Int) (a5 : (List aF)) (a6 : Int) (a7 : (List Int)) : Nat → (List Int) → Int → Option (List Int)
  | 0,_,_=>none
  | n0 + 1, v9, v10 =>
    bnd (decide (v10 < (a7.length : Int))) fun x18 =>
    bif x18 then (
      bno (gix a7 v10) fun x20 =>
      bno (a7[(v10 : Int).toNat]?) fun x21 =>
      bno (dX x21 a0 a1 a2 a3 a4 a5 a6 a7) fun x22 =>
      bno (app 8 v9 ([x22] : (List Int))) fun x23 =>
      bnd (IntKind.wrap .i64 (v10 + 1)) fun x24 =>
      (fH a0 a1 a2 a3 a4 a5 a6 a7 n0) x23 x24
    ) else (
      some v9
    )
def iH (a0 : Int) (a1 : Int) (a2 : (List aH)) (a3 : Int) (a4 : Int) (a5 : (List aF)) (a6 : Int) (a7 : (List Int)) : Option (List Int) :=
  chk (a5.length = 64) <|fH a0 a1 a2 a3 a4 a5 a6 a7 fuel ([] : (List Int)) 0

def iB (v79 : Bool) : Option Bool :=
  some v79
def iA (v181 : Bool) : Option Bool :=
  some v181
def iD  : Option Bool :=
  bno (iV 8 1 24) fun x1 =>
  bno (gd ((!x1) == false) (iV 2 0 8) default) fun x2 =>
  bnd ((!x1) || (!x2)) fun x3 =>
  bif x3 then (
    bnd (!decide (8 = 0)) fun x5 =>
    bnd (x5 || true) fun x6 =>
    some false
  ) else (
    bno (mR) fun x7 =>
    bnd (!decide (0 = 0)) fun x8 =>
    bnd (x8 || false) fun x9 =>
    bif x9 then (
      some false
    ) else (
      bno (dU 1 0 16 false 8 2 x7.Cells x7.Free x7.Used ((List.replicate 64 (⟨0,0,0,0,0,false⟩ : aF) : (List aF))) (-1) []) fun x11 =>
      bno (dU 3 1 32 false x11.2.1 x11.2.2.1 x11.2.2.2.1 x11.2.2.2.2.1 x11.2.2.2.2.2.1 x11.2.2.2.2.2.2.1 x11.2.2.2.2.2.2.2.1 x11.2.2.2.2.2.2.2.2) fun x12 =>
      bno (dU 5 3 8 false x12.2.1 x12.2.2.1 x12.2.2.2.1 x12.2.2.2.2.1 x12.2.2.2.2.2.1 x12.2.2.2.2.2.2.1 x12.2.2.2.2.2.2.2.1 x12.2.2.2.2.2.2.2.2) fun x13 =>
      bno (gG 1 5 4 true x13.2.1 x13.2.2.1 x13.2.2.2.1 x13.2.2.2.2.1 x13.2.2.2.2.2.1 x13.2.2.2.2.2.2.1 x13.2.2.2.2.2.2.2.1 x13.2.2.2.2.2.2.2.2) fun x14 =>
      bno (fX x14.2.1 x14.2.2.1 x14.2.2.2.1 x14.2.2.2.2.1 x14.2.2.2.2.2.1 x14.2.2.2.2.2.2.1 x14.2.2.2.2.2.2.2.1 x14.2.2.2.2.2.2.2.2) fun x15 =>
      bno (jJ x15) fun x16 =>
      bno (gF 3 x14.2.1 x14.2.2.1 x14.2.2.2.1 x14.2.2.2.2.1 x14.2.2.2.2.2.1 x14.2.2.2.2.2.2.1 x14.2.2.2.2.2.2.2.1 x14.2.2.2.2.2.2.2.2) fun x17 =>
      bno (eZ ([3,1,9] : (List Int)) x14.2.1 x14.2.2.1 x14.2.2.2.1 x14.2.2.2.2.1 x14.2.2.2.2.2.1 x14.2.2.2.2.2.2.1 x14.2.2.2.2.2.2.2.1 x14.2.2.2.2.2.2.2.2) fun x18 =>
      bno (fA 1 x14.2.1 x14.2.2.1 x14.2.2.2.1 x14.2.2.2.2.1 x14.2.2.2.2.2.1 x14.2.2.2.2.2.2.1 x14.2.2.2.2.2.2.2.1 x14.2.2.2.2.2.2.2.2) fun x19 =>
      bno (fA 1 x19.2.1 x19.2.2.1 x19.2.2.2.1 x19.2.2.2.2.1 x19.2.2.2.2.2.1 x19.2.2.2.2.2.2.1 x19.2.2.2.2.2.2.2.1 x19.2.2.2.2.2.2.2.2) fun x20 =>
      bno (eZ ([3,1,9] : (List Int)) x20.2.1 x20.2.2.1 x20.2.2.2.1 x20.2.2.2.2.1 x20.2.2.2.2.2.1 x20.2.2.2.2.2.2.1 x20.2.2.2.2.2.2.2.1 x20.2.2.2.2.2.2.2.2) fun x21 =>
      bno (fL 1 x20.2.1 x20.2.2.1 x20.2.2.2.1 x20.2.2.2.2.1 x20.2.2.2.2.2.1 x20.2.2.2.2.2.2.1 x20.2.2.2.2.2.2.2.1 x20.2.2.2.2.2.2.2.2) fun x22 =>
      bno (kE 5 x22.2.1 x22.2.2.1 x22.2.2.2.1 x22.2.2.2.2.1 x22.2.2.2.2.2.1 x22.2.2.2.2.2.2.1 x22.2.2.2.2.2.2.2.1 x22.2.2.2.2.2.2.2.2) fun x23 =>
      bno (dU 3 0 1 false x22.2.1 x22.2.2.1 x22.2.2.2.1 x22.2.2.2.2.1 x22.2.2.2.2.2.1 x22.2.2.2.2.2.2.1 x22.2.2.2.2.2.2.2.1 x22.2.2.2.2.2.2.2.2) fun x24 =>
      bno (iV 0 1 24) fun x25 =>
      bno (gd ((!x25) == false) (iV 0 0 0) default) fun x26 =>
      bnd ((!x25) || (!x26)) fun x27 =>
      bif x27 then (
        bnd (decide (x11.1 = 0)) fun x80 =>
        bnd (decide (x12.1 = 0)) fun x81 =>
        bnd (x80 && x81) fun x82 =>
        bnd (decide (x13.1 = 0)) fun x83 =>
        bnd (x82 && x83) fun x84 =>
        bnd (decide (x14.1 = 0)) fun x85 =>
        bnd (x84 && x85) fun x86 =>
        bno (gd (x86 == true) (gW x16 ([(⟨1,5,4,false⟩ : aY),(⟨3,1,32,false⟩ : aY),(⟨5,0,8,false⟩ : aY)] : (List aY))) default) fun x87 =>
        bnd (x86 && x87) fun x88 =>
        bno (gd (x88 == true) (dE x17 ([1,5] : (List Int))) default) fun x89 =>
        bnd (x88 && x89) fun x90 =>
        bno (gd (x90 == true) (dE x18 ([1] : (List Int))) default) fun x91 =>
        bnd (x90 && x91) fun x92 =>
        bnd (decide (x19.1 = 0)) fun x93 =>
        bnd (x92 && x93) fun x94 =>
        bnd (decide (x20.1 = 9)) fun x95 =>
        bnd (x94 && x95) fun x96 =>
        bno (gd (x96 == true) (dE x21 ([3] : (List Int))) default) fun x97 =>
        bnd (x96 && x97) fun x98 =>
        bnd (decide (x22.1 = 0)) fun x99 =>
        bnd (x98 && x99) fun x100 =>
        bno (gd (x100 == true) (dE x23 ([3] : (List Int))) default) fun x101 =>
        bnd (x100 && x101) fun x102 =>
        bnd (decide (x24.1 = 13)) fun x103 =>
        bnd (x102 && x103) fun x104 =>
        bnd (decide (8 = 8)) fun x105 =>
        bnd (x104 && x105) fun x106 =>
        bno (gd (x106 == true) (gV x24.2.1 x24.2.2.1 x24.2.2.2.1 x24.2.2.2.2.1 x24.2.2.2.2.2.1 x24.2.2.2.2.2.2.1 x24.2.2.2.2.2.2.2.1 x24.2.2.2.2.2.2.2.2) default) fun x107 =>
        bnd (decide (x107 = 2)) fun x108 =>
        bnd (x106 && x108) fun x109 =>
        bif (x109 == true) then (
          bno (iH x24.2.1 x24.2.2.1 x24.2.2.2.1 x24.2.2.2.2.1 x24.2.2.2.2.2.1 x24.2.2.2.2.2.2.1 x24.2.2.2.2.2.2.2.1 x24.2.2.2.2.2.2.2.2) fun x111 =>
          bnd (decide ((x111.length : Int) = 0)) fun x112 =>
          bnd (x109 && x112) fun x113 =>
          bnd (bif x113 then true else false) fun x114 =>
          bnd (bif x114 then true else false) fun x115 =>
          bnd (bif x115 then true else false) fun x116 =>
          bnd (bif x116 then true else false) fun x117 =>
          bnd (bif x117 then true else false) fun x118 =>
          bnd (bif x118 then true else false) fun x119 =>
          bnd (bif x119 then true else false) fun x120 =>
          iB x120
        ) else (
          bnd (decide ((([] : (List Int)).length : Int) = 0)) fun x121 =>
          bnd (x109 && x121) fun x122 =>
          bnd (bif x122 then true else false) fun x123 =>
          bnd (bif x123 then true else false) fun x124 =>
          bnd (bif x124 then true else false) fun x125 =>
          bnd (bif x125 then true else false) fun x126 =>
          bnd (bif x126 then true else false) fun x127 =>
          bnd (bif x127 then true else false) fun x128 =>
          bnd (bif x128 then true else false) fun x129 =>
          iB x129
        )
      ) else (
        bno (mR) fun x130 =>
        bnd (decide (x11.1 = 0)) fun x182 =>
        bnd (decide (x12.1 = 0)) fun x183 =>
        bnd (x182 && x183) fun x184 =>
        bnd (decide (x13.1 = 0)) fun x185 =>
        bnd (x184 && x185) fun x186 =>
        bnd (decide (x14.1 = 0)) fun x187 =>
        bnd (x186 && x187) fun x188 =>
        bno (gd (x188 == true) (gW x16 ([(⟨1,5,4,false⟩ : aY),(⟨3,1,32,false⟩ : aY),(⟨5,0,8,false⟩ : aY)] : (List aY))) default) fun x189 =>
        bnd (x188 && x189) fun x190 =>
        bno (gd (x190 == true) (dE x17 ([1,5] : (List Int))) default) fun x191 =>
        bnd (x190 && x191) fun x192 =>
        bno (gd (x192 == true) (dE x18 ([1] : (List Int))) default) fun x193 =>
        bnd (x192 && x193) fun x194 =>
        bnd (decide (x19.1 = 0)) fun x195 =>
        bnd (x194 && x195) fun x196 =>
        bnd (decide (x20.1 = 9)) fun x197 =>
        bnd (x196 && x197) fun x198 =>
        bno (gd (x198 == true) (dE x21 ([3] : (List Int))) default) fun x199 =>
        bnd (x198 && x199) fun x200 =>
        bnd (decide (x22.1 = 0)) fun x201 =>
        bnd (x200 && x201) fun x202 =>
        bno (gd (x202 == true) (dE x23 ([3] : (List Int))) default) fun x203 =>
        bnd (x202 && x203) fun x204 =>
        bnd (decide (x24.1 = 13)) fun x205 =>
        bnd (x204 && x205) fun x206 =>
        bnd (decide (0 = 8)) fun x207 =>
        bnd (x206 && x207) fun x208 =>
        bno (gd (x208 == true) (gV x24.2.1 x24.2.2.1 x24.2.2.2.1 x24.2.2.2.2.1 x24.2.2.2.2.2.1 x24.2.2.2.2.2.2.1 x24.2.2.2.2.2.2.2.1 x24.2.2.2.2.2.2.2.2) default) fun x209 =>
        bnd (decide (x209 = 2)) fun x210 =>
        bnd (x208 && x210) fun x211 =>
        bif (x211 == true) then (
          bno (iH x24.2.1 x24.2.2.1 x24.2.2.2.1 x24.2.2.2.2.1 x24.2.2.2.2.2.1 x24.2.2.2.2.2.2.1 x24.2.2.2.2.2.2.2.1 x24.2.2.2.2.2.2.2.2) fun x213 =>
          bnd (decide ((x213.length : Int) = 0)) fun x214 =>
          bnd (x211 && x214) fun x215 =>
          bnd (bif x215 then true else false) fun x216 =>
          bnd (bif x216 then true else false) fun x217 =>
          bnd (bif x217 then true else false) fun x218 =>
          bnd (bif x218 then true else false) fun x219 =>
          bnd (bif x219 then true else false) fun x220 =>
          bnd (bif x220 then true else false) fun x221 =>
          bnd (bif x221 then true else false) fun x222 =>
          iA x222
        ) else (
          bnd (decide ((([] : (List Int)).length : Int) = 0)) fun x223 =>
          bnd (x211 && x223) fun x224 =>
          bnd (bif x224 then true else false) fun x225 =>
          bnd (bif x225 then true else false) fun x226 =>
          bnd (bif x226 then true else false) fun x227 =>
          bnd (bif x227 then true else false) fun x228 =>
          bnd (bif x228 then true else false) fun x229 =>
          bnd (bif x229 then true else false) fun x230 =>
          bnd (bif x230 then true else false) fun x231 =>
          iA x231
        )
      )
    )
  )

def gK (a0 : cB) (a1 : Int) (a2 : Int) (a3 : (List aH)) (a4 : Int) (a5 : Int) (a6 : (List aF)) (a7 : Int) (a8 : (List Int)) (x1 : Int) (v11 : Bool) : Option (Int × Int × Int × (List aH) × Int × Int × (List aF) × Int × (List Int)) :=
  bif v11 then (
    bno (gG a0.ID a0.Dep a0.Weight a0.Only a1 a2 a3 a4 a5 a6 a7 a8) fun x13 =>
    some (x13.1,x13.2.1,x13.2.2.1,x13.2.2.2.1,x13.2.2.2.2.1,x13.2.2.2.2.2.1,x13.2.2.2.2.2.2.1,x13.2.2.2.2.2.2.2.1,x13.2.2.2.2.2.2.2.2)
  ) else (
    bnd (decide (x1 = 4)) fun x14 =>
    bif x14 then (
      bno (fA a0.ID a1 a2 a3 a4 a5 a6 a7 a8) fun x16 =>
      some (x16.1,x16.2.1,x16.2.2.1,x16.2.2.2.1,x16.2.2.2.2.1,x16.2.2.2.2.2.1,x16.2.2.2.2.2.2.1,x16.2.2.2.2.2.2.2.1,x16.2.2.2.2.2.2.2.2)
    ) else (
      bno (fL a0.ID a1 a2 a3 a4 a5 a6 a7 a8) fun x17 =>
      some (x17.1,x17.2.1,x17.2.2.1,x17.2.2.2.1,x17.2.2.2.2.1,x17.2.2.2.2.2.1,x17.2.2.2.2.2.2.1,x17.2.2.2.2.2.2.2.1,x17.2.2.2.2.2.2.2.2)
    )
  )
def gL (a0 : cB) (a1 : Int) (a2 : Int) (a3 : (List aH)) (a4 : Int) (a5 : Int) (a6 : (List aF)) (a7 : Int) (a8 : (List Int)) (x1 : Int) (v5 : Bool) : Option (Int × Int × Int × (List aH) × Int × Int × (List aF) × Int × (List Int)) :=
  bif v5 then (
    bno (dU a0.ID a0.Dep a0.Weight a0.Only a1 a2 a3 a4 a5 a6 a7 a8) fun x7 =>
    some (x7.1,x7.2.1,x7.2.2.1,x7.2.2.2.1,x7.2.2.2.2.1,x7.2.2.2.2.2.1,x7.2.2.2.2.2.2.1,x7.2.2.2.2.2.2.2.1,x7.2.2.2.2.2.2.2.2)
  ) else (
    bnd (decide (x1 = 2)) fun x18 =>
    bif x18 then (
      gK a0 a1 a2 a3 a4 a5 a6 a7 a8 x1 x18
    ) else (
      bnd (decide (x1 = 3)) fun x20 =>
      gK a0 a1 a2 a3 a4 a5 a6 a7 a8 x1 x20
    )
  )
def iM (a0 : cB) (a1 : Int) (a2 : Int) (a3 : (List aH)) (a4 : Int) (a5 : Int) (a6 : (List aF)) (a7 : Int) (a8 : (List Int)) : Option (Int × Int × Int × (List aH) × Int × Int × (List aF) × Int × (List Int)) :=
  bno (remI a0.Kind 6) fun x1 =>
  bnd (decide (x1 = 0)) fun x21 =>
  bif x21 then (
    gL a0 a1 a2 a3 a4 a5 a6 a7 a8 x1 x21
  ) else (
    bnd (decide (x1 = 1)) fun x23 =>
    gL a0 a1 a2 a3 a4 a5 a6 a7 a8 x1 x23
  )

def eT (a0 : (List Int)) (a1 : Int) : Nat → Int → Option Bool
  | 0,_=>none
  | n0 + 1, v7 =>
    bnd (decide (v7 < (a0.length : Int))) fun x14 =>
    bif x14 then (
      bno (gix a0 v7) fun x16 =>
      bnd (decide (x16 = a1)) fun x17 =>
      bif x17 then (
        some true
      ) else (
        bnd (IntKind.wrap .i64 (v7 + 1)) fun x19 =>
        (eT a0 a1 n0) x19
      )
    ) else (
      some false
    )
def fQ (a0 : (List Int)) (a1 : Int) : Option Bool :=
  eT a0 a1 fuel 0

def cL (a1 : (List Int)) (x40 : (List Int)) (x41 : (List aY)) (v96 : Int) (kk1 : Int → Option Bool) (x155 : (List Int)) : Nat → Int → Int → Option Bool
  | 0,_,_=>none
  | n2 + 1, v165, v166 =>
    bnd (decide (v166 < (x155.length : Int))) fun x176 =>
    bif x176 then (
      bno (gix x155 v166) fun x178 =>
      bno (x155[(v166 : Int).toNat]?) fun x179 =>
      bno (fQ x40 x179) fun x180 =>
      bif x180 then (
        bnd (IntKind.wrap .i64 (v165 + 1)) fun x182 =>
        bnd (IntKind.wrap .i64 (v166 + 1)) fun x183 =>
        (cL a1 x40 x41 v96 kk1 x155 n2) x182 x183
      ) else (
        bnd (IntKind.wrap .i64 (v166 + 1)) fun x184 =>
        (cL a1 x40 x41 v96 kk1 x155 n2) v165 x184
      )
    ) else (
      bno (gix x41 v96) fun x185 =>
      bno (x41[(v96 : Int).toNat]?) fun x186 =>
      bno (fQ a1 x186.ID) fun x187 =>
      bno (gd (x187 == true) (gix x41 v96) default) fun x188 =>
      bno (gd (x187 == true) (x41[(v96 : Int).toNat]?) default) fun x189 =>
      bnd (x187 && (!x189.Closed)) fun x190 =>
      bno (gix x41 v96) fun x191 =>
      bno (x41[(v96 : Int).toNat]?) fun x192 =>
      bno (fQ x40 x192.ID) fun x193 =>
      bnd (decide (0 < v165)) fun x194 =>
      bnd ((!x190) || x194) fun x195 =>
      bnd (x193 && x195) fun x196 =>
      bnd (x190 && (!x193)) fun x197 =>
      bnd (decide (v165 = 0)) fun x198 =>
      bnd (x197 && x198) fun x199 =>
      bnd (x196 || x199) fun x200 =>
      bnd (decide (1 < v165)) fun x201 =>
      bnd (x200 || x201) fun x202 =>
      bif x202 then (
        some false
      ) else (
        bnd (IntKind.wrap .i64 (v96 + 1)) fun x204 =>
        kk1 x204
      )
    )
def bY (a1 : (List Int)) (v22 : Int) (v23 : Int) (v24 : (List aH)) (v25 : Int) (v26 : Int) (v27 : (List aF)) (v28 : Int) (v29 : (List Int)) (x40 : (List Int)) (x41 : (List aY)) : Nat → Int → Option Bool
  | 0,_=>none
  | n1 + 1, v96 =>
    bnd (decide (v96 < (x41.length : Int))) fun x151 =>
    bif x151 then (
      bno (gix x41 v96) fun x153 =>
      bno (x41[(v96 : Int).toNat]?) fun x154 =>
      bno (gF x154.ID v22 v23 v24 v25 v26 v27 v28 v29) fun x155 =>
      cL a1 x40 x41 v96 (bY a1 v22 v23 v24 v25 v26 v27 v28 v29 x40 x41 n1) x155 fuel 0 0
    ) else (
      bno (iD) fun x205 =>
      some x205
    )
def cU (a0 : (List cB)) (a1 : (List Int)) : Nat → Int → Int → Int → (List aH) → Int → Int → (List aF) → Int → (List Int) → Option Bool
  | 0,_,_,_,_,_,_,_,_,_=>none
  | n0 + 1, v21, v22, v23, v24, v25, v26, v27, v28, v29 =>
    bnd (decide (v21 < (a0.length : Int))) fun x35 =>
    bif x35 then (
      bno (gix a0 v21) fun x37 =>
      bno (iM x37 v22 v23 v24 v25 v26 v27 v28 v29) fun x38 =>
      bnd (IntKind.wrap .i64 (v21 + 1)) fun x39 =>
      (cU a0 a1 n0) x39 x38.2.1 x38.2.2.1 x38.2.2.2.1 x38.2.2.2.2.1 x38.2.2.2.2.2.1 x38.2.2.2.2.2.2.1 x38.2.2.2.2.2.2.2.1 x38.2.2.2.2.2.2.2.2
    ) else (
      bno (eZ a1 v22 v23 v24 v25 v26 v27 v28 v29) fun x40 =>
      bno (fX v22 v23 v24 v25 v26 v27 v28 v29) fun x41 =>
      bY a1 v22 v23 v24 v25 v26 v27 v28 v29 x40 x41 fuel 0
    )
def fF (a0 : (List cB)) (a1 : (List Int)) : Option Bool :=
  bnd (decide (60 < (a0.length : Int))) fun x1 =>
  bnd (decide (40 < (a1.length : Int))) fun x2 =>
  bnd (x1 || x2) fun x3 =>
  bif x3 then (
    bno (iD) fun x5 =>
    some x5
  ) else (
    bno (iV 24 1 24) fun x6 =>
    bno (gd ((!x6) == false) (iV 5 0 24) default) fun x7 =>
    bnd ((!x6) || (!x7)) fun x8 =>
    bif x8 then (
      bnd (!decide (8 = 0)) fun x10 =>
      bnd (x10 || true) fun x11 =>
      some false
    ) else (
      bno (mR) fun x12 =>
      bnd (!decide (0 = 0)) fun x13 =>
      bnd (x13 || false) fun x14 =>
      bif x14 then (
        some false
      ) else (
        cU a0 a1 fuel 0 24 5 x12.Cells x12.Free x12.Used ((List.replicate 64 (⟨0,0,0,0,0,false⟩ : aF) : (List aF))) (-1) ([] : (List Int))
      )
    )
  )

end Go.Fn
