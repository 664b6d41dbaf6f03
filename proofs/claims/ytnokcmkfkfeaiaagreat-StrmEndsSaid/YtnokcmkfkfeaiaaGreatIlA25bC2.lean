/-
  A part of the proof: rules and plain facts. No condition.
-/
import Derived.Test.YtnokcmkfkfeaiaaGreatProg
import Derived.KernelRfl
import Derived.Test.YtnokcmkfkfeaiaaGreatIlEq
import Derived.Test.YtnokcmkfkfeaiaaGreatIlA25bD
import Derived.Test.YtnokcmkfkfeaiaaGreatIlA25bC1
set_option linter.all false
set_option maxRecDepth 8000
set_option maxHeartbeats 2000000
open Go Go.IL Go.Fn Go.Proofs
namespace Go.Proofs.YtnokcmkfkfeaiaaGreat
theorem ti53 : TI Tryz.prog 53 (some (.int .u32 0)) 1 4:=by unfold TI; kernel_rfl
theorem ag53 : gP Tryz.prog 53 = false:=by kernel_rfl
theorem ex174 : vQ Tryz.prog 174 (Extern.SlicesOverlaps.overlaps #[33,33] #[4]):=⟨Tryz.f174,Tryz.func174,by kernel_rfl,by kernel_rfl,by kernel_rfl,by kernel_rfl⟩
theorem pl228 : ∀ w,(Array.mapM (m:=Sem) (fun (f : Field)=>Functor.map (Prod.mk f.offset) (sizeOf f.type)) (fieldsOf Tryz.prog 228)).run Tryz.prog w = .ok #[(0,1),(1,1)] w:=fun w=>by kernel_rfl
theorem st105 : Tryz.prog.stoodInHeld 105 = false ∧ Tryz.prog.eqGuardType Tryz.prog.depth 105 = false:=⟨by kernel_rfl,by kernel_rfl⟩
theorem st228 : Tryz.prog.stoodInHeld 228 = false ∧ Tryz.prog.eqGuardType Tryz.prog.depth 228 = false:=⟨by kernel_rfl,by kernel_rfl⟩
theorem st44 : Tryz.prog.stoodInHeld 44 = false ∧ Tryz.prog.eqGuardType Tryz.prog.depth 44 = false:=⟨by kernel_rfl,by kernel_rfl⟩
theorem cl24 : bH Tryz.prog 24:=⟨Tryz.f24,Tryz.func24,rfl,rfl⟩
theorem cl41 : bH Tryz.prog 41:=⟨Tryz.f41,Tryz.func41,rfl,rfl⟩
theorem cl42 : bH Tryz.prog 42:=⟨Tryz.f42,Tryz.func42,rfl,rfl⟩
theorem cl70 : bH Tryz.prog 70:=⟨Tryz.f70,Tryz.func70,rfl,rfl⟩
theorem cl71 : bH Tryz.prog 71:=⟨Tryz.f71,Tryz.func71,rfl,rfl⟩
theorem cl75 : bH Tryz.prog 75:=⟨Tryz.f75,Tryz.func75,rfl,rfl⟩
theorem cl76 : bH Tryz.prog 76:=⟨Tryz.f76,Tryz.func76,rfl,rfl⟩
theorem cl77 : bH Tryz.prog 77:=⟨Tryz.f77,Tryz.func77,rfl,rfl⟩
theorem cl78 : bH Tryz.prog 78:=⟨Tryz.f78,Tryz.func78,rfl,rfl⟩
theorem cl79 : bH Tryz.prog 79:=⟨Tryz.f79,Tryz.func79,rfl,rfl⟩
theorem cl81 : bH Tryz.prog 81:=⟨Tryz.f81,Tryz.func81,rfl,rfl⟩
theorem cl84 : bH Tryz.prog 84:=⟨Tryz.f84,Tryz.func84,rfl,rfl⟩
theorem cl85 : bH Tryz.prog 85:=⟨Tryz.f85,Tryz.func85,rfl,rfl⟩
theorem cl86 : bH Tryz.prog 86:=⟨Tryz.f86,Tryz.func86,rfl,rfl⟩
theorem cl87 : bH Tryz.prog 87:=⟨Tryz.f87,Tryz.func87,rfl,rfl⟩
theorem cl88 : bH Tryz.prog 88:=⟨Tryz.f88,Tryz.func88,rfl,rfl⟩
theorem cl89 : bH Tryz.prog 89:=⟨Tryz.f89,Tryz.func89,rfl,rfl⟩
theorem cl90 : bH Tryz.prog 90:=⟨Tryz.f90,Tryz.func90,rfl,rfl⟩
theorem cl98 : bH Tryz.prog 98:=⟨Tryz.f98,Tryz.func98,rfl,rfl⟩
theorem cl99 : bH Tryz.prog 99:=⟨Tryz.f99,Tryz.func99,rfl,rfl⟩
theorem cl123 : bH Tryz.prog 123:=⟨Tryz.f123,Tryz.func123,rfl,rfl⟩
theorem cl125 : bH Tryz.prog 125:=⟨Tryz.f125,Tryz.func125,rfl,rfl⟩
theorem cl126 : bH Tryz.prog 126:=⟨Tryz.f126,Tryz.func126,rfl,rfl⟩
theorem cl128 : bH Tryz.prog 128:=⟨Tryz.f128,Tryz.func128,rfl,rfl⟩
theorem cl132 : bH Tryz.prog 132:=⟨Tryz.f132,Tryz.func132,rfl,rfl⟩
theorem cl137 : bH Tryz.prog 137:=⟨Tryz.f137,Tryz.func137,rfl,rfl⟩
theorem cl138 : bH Tryz.prog 138:=⟨Tryz.f138,Tryz.func138,rfl,rfl⟩
theorem cl144 : bH Tryz.prog 144:=⟨Tryz.f144,Tryz.func144,rfl,rfl⟩
theorem cl146 : bH Tryz.prog 146:=⟨Tryz.f146,Tryz.func146,rfl,rfl⟩
theorem cl148 : bH Tryz.prog 148:=⟨Tryz.f148,Tryz.func148,rfl,rfl⟩
theorem cl149 : bH Tryz.prog 149:=⟨Tryz.f149,Tryz.func149,rfl,rfl⟩
theorem cl151 : bH Tryz.prog 151:=⟨Tryz.f151,Tryz.func151,rfl,rfl⟩
theorem cl168 : bH Tryz.prog 168:=⟨Tryz.f168,Tryz.func168,rfl,rfl⟩



set_option maxRecDepth 8000 in
set_option maxHeartbeats 4000000 in
theorem iS (a0 : Int) (a1 : List aJ) (a2 : List aJ) (r : List aJ) (h : eK a0 a1 a2 = some r) : FnH Tryz.prog 137 [.osl 1000 aB.sz a2.length,.int .i64 a0,.slice false (a1.map aB.d)] [(1000,.blk 105 (D.flat (a2.map aB.d)))] (.osl 0 aB.sz r.length) [(0,.blk 105 (D.flat (r.map aB.d)))]:=by
 replace h : insS 32 a2 a0 a1 = some r:=h
 obtain ⟨i,rfl,hi,hm,hb,hr⟩:=insS_e h
 have hX:=aB.toEnc0.flat_len a2
 have hV:=aB.toEnc0.flat_len a1
 have hp:=aB.pos
 have hvt : ∀ k,a1.length ≤ k → (D.flat (a1.map aB.d)).take (min a1.length k * aB.sz) = D.flat (a1.map aB.d):=fun k hk=>by
  rw [Nat.min_eq_left hk,← hV,List.take_length]
 refine fE (rs:=[.osl 0 aB.sz r.length]) Tryz.func137 rfl Tryz.ntmps137 (nle rfl) fun O hO=>?_
 show IWP _ _ _ _ ⟨[(0,.osl 1000 aB.sz a2.length),(1,.int .i64 (i : Int)),(2,.slice false (a1.map aB.d))],[(1000,.blk 105 (D.flat (a2.map aB.d)))]⟩ _
 refine uZ 0 (id:=1000) (sz:=aB.sz) (n:=a2.length) rfl rfl hX (fun hn=>?_) (fun c hc hcm=>?_)
 ·
  obtain rfl:=List.length_eq_zero_iff.1 hn
  obtain rfl : i = 0:=by simpa using hi
  refine aE (aA rfl (aH rfl rfl (lb rfl) (sv (d:=.nils) rfl)) <| aD ?_)
  refine aE (aA rfl (aM rfl rfl (lb rfl) (sv (d:=.nils) rfl)) <| aA rfl (mvI rfl rfl rfl rfl) <|aA rfl (yR aB (s:=[]) (r:=[]) (b:=false) rfl rfl (lb rfl) Tryz.underlying33 dH (svn rfl) ⟨_,(svI rfl)⟩ rfl rfl) <| aD ?_)
  refine aE (aA rfl (mvL rfl rfl rfl rfl) <| aA rfl (dL aB (l:=a1) rfl rfl (lb rfl) Tryz.underlying33 (svL rfl)) <|aA rfl (asI rfl rfl rfl rfl) <| aD ?_)
  refine bC ?_
  refine aE (aA rfl (mvI rfl rfl rfl rfl) <| aA rfl (aP rfl rfl (lb rfl) (svI rfl) (sv (d:=.int _ 0) rfl) rfl rfl) <| aD ?_)
  refine aV (b:=_) rfl (fun h1=>?_) (fun h1=>?_)
  ·have h2:=of_decide_eq_true h1
   obtain rfl:=List.length_eq_zero_iff.1 (show a1.length = 0 by omega)
   have hr' : [] = r:=by simpa using hr
   subst hr'
   refine aE (aA rfl (aM rfl rfl (lb rfl) (sv (d:=.nils) rfl)) <| aA rfl (aH rfl rfl (lb rfl) (sv (d:=.nils) rfl)) <| aD ?_)
   refine aT ?_
   refine bI ?_
   refine ⟨.inr rfl,(fun i=>if i = 0 then 50 else i),⟨.nil,(.cons (.nilb rfl) .nil),cK [50] rfl (by decide),(fun i hi=>by first | rfl | (show (if _ then _ else _) = _; (repeat' split) <;> omega))⟩,(.cons (svno rfl) .nil),rfl⟩
  ·refine aY ?_
   refine aS ?_
   refine aE (aA rfl (aM rfl rfl (lb rfl) (sv (d:=.nils) rfl)) <| aA rfl (dL aB (l:=[]) (b:=false) rfl rfl (lb rfl) Tryz.underlying33 (svn rfl)) <|aA rfl (asI rfl rfl rfl rfl) <| aD ?_)
   refine bC ?_
   refine aE (aA rfl (mvI rfl rfl rfl rfl) <| aA rfl (mvI rfl rfl rfl rfl) <| aA rfl (aP rfl rfl (lb rfl) (svI rfl) (svI rfl) rfl rfl) <| aD ?_)
   refine qZ rfl rfl ?_
   have ha : app 32 ([] : List aJ) a1 = some r:=by
    rw [← hr]; unfold maxLen at hm; simpa using mI hm hb
   refine aE (aA rfl (aM rfl rfl (lb rfl) (sv (d:=.nils) rfl)) <| aA rfl (mvL rfl rfl rfl rfl) <|aA rfl (aAl aB.toEnc0 0 rfl rfl (lb rfl) Tryz.underlying33 dH rfl rfl rfl (xC aB (ys:=a1) (svL rfl)) ha) <|aA rfl (aH rfl rfl (lb rfl) (sv (d:=.osl _ _ _) rfl)) <| aD ?_)
   refine aT ?_
   refine bI ?_
   refine ⟨.inr rfl,(fun i=>i),⟨.nil,(.cons (EntW.lst rfl) .nil),cK [0] rfl (by decide),fun _ _=>rfl⟩,(.cons (sv rfl) .nil),rfl⟩
 ·refine aE (aA rfl (aH rfl rfl (lb rfl) (sv (d:=.nils) rfl)) <| aD ?_)
  refine aE (aA rfl (aM rfl rfl (lb rfl) (sv (d:=.rsl _ _ _ _ _) rfl)) <| aA rfl (mvI rfl rfl rfl rfl) <|aA rfl (dX (sz:=aB.sz) (l:=(i : Int)) (h:=(a2.length : Int)) (m:=(c : Int)) rfl rfl (lb rfl) Tryz.underlying33 dH (sv (d:=.rsl _ _ _ _ _) rfl) ⟨_,(svI rfl)⟩ rfl rfl (by simp) (by omega) (by omega) (by omega) (by omega) rfl) <| aD ?_)
  refine aE (aA rfl (mvL rfl rfl rfl rfl) <| aA rfl (dL aB (l:=a1) rfl rfl (lb rfl) Tryz.underlying33 (svL rfl)) <|aA rfl (asI rfl rfl rfl rfl) <| aD ?_)
  refine bC ?_
  refine aE (aA rfl (mvI rfl rfl rfl rfl) <| aA rfl (aP rfl rfl (lb rfl) (svI rfl) (sv (d:=.int _ 0) rfl) rfl rfl) <| aD ?_)
  refine aV (b:=_) rfl (fun h1=>?_) (fun h1=>?_)
  ·have h2:=of_decide_eq_true h1
   obtain rfl:=List.length_eq_zero_iff.1 (show a1.length = 0 by omega)
   have hr' : a2 = r:=by simpa using hr
   subst hr'
   refine aE (aA rfl (aM rfl rfl (lb rfl) (sv (d:=.rsl _ _ _ _ _) rfl)) <| aA rfl (aH rfl rfl (lb rfl) (sv (d:=.rsl _ _ _ _ _) rfl)) <| aD ?_)
   refine oI 6 (id:=1000) rfl rfl hX ?_
   refine aT ?_
   refine bI ?_
   refine ⟨.inr rfl,(fun i=>if i = 0 then 1000 else i),⟨.nil,(.cons (EntW.lst rfl) .nil),cK [1000] rfl (by decide),(fun i hi=>by first | rfl | (show (if _ then _ else _) = _; (repeat' split) <;> omega))⟩,(.cons (sv rfl) .nil),rfl⟩
  ·have h2:=of_decide_eq_false h1
   have hm0 : 0 < a1.length:=by omega
   refine aY ?_
   refine aS ?_
   refine aE (aA rfl (aM rfl rfl (lb rfl) (sv (d:=.rsl _ _ _ _ _) rfl)) <| aA rfl (nL rfl rfl (lb rfl) Tryz.underlying33 (sv (d:=.rsl _ _ _ _ _) rfl) rfl) <|aA rfl (asI rfl rfl rfl rfl) <| aD ?_)
   refine bC ?_
   refine aE (aA rfl (mvI rfl rfl rfl rfl) <| aA rfl (mvI rfl rfl rfl rfl) <| aA rfl (aP rfl rfl (lb rfl) (svI rfl) (svI rfl) rfl rfl) <| aD ?_)
   refine aV (b:=_) rfl (fun h3=>?_) (fun h3=>?_)
   ·have h4:=of_decide_eq_true h3
    obtain rfl : i = a2.length:=by omega
    have hr' : a2 ++ a1 = r:=by simpa using hr
    have ha : app 32 a2 a1 = some r:=by
     rw [← hr']; unfold maxLen at hm; exact mI hm hb
    refine aE (aA rfl (aM rfl rfl (lb rfl) (sv (d:=.rsl _ _ _ _ _) rfl)) <| aA rfl (mvL rfl rfl rfl rfl) <|aAq 23 (id:=1000) rfl rfl hX <|aA rfl (mE aB.toEnc0 0 rfl rfl (lb rfl) Tryz.underlying33 dH rfl rfl rfl rfl rfl (xC aB (ys:=a1) (svL rfl)) ha) <|aA rfl (aH rfl rfl (lb rfl) (sv (d:=.osl _ _ _) rfl)) <| aD ?_)
    refine aT ?_
    refine bI ?_
    refine ⟨.inr rfl,(fun i=>i),⟨.nil,(.cons (EntW.lst rfl) .nil),cK [0] rfl (by decide),fun _ _=>rfl⟩,(.cons (sv rfl) .nil),rfl⟩
   ·have h4:=of_decide_eq_false h3
    have hin : i < a2.length:=by omega
    have hXt : (D.flat ((a2.take i).map aB.d)).length = i * aB.sz:=by rw [aB.toEnc0.flat_len,List.length_take,Nat.min_eq_left hi]
    have hXd : (D.flat ((a2.drop i).map aB.d)).length = (a2.length - i) * aB.sz:=by rw [aB.toEnc0.flat_len,List.length_drop]
    have hXs : D.flat (a2.map aB.d) = D.flat ((a2.take i).map aB.d) ++ D.flat ((a2.drop i).map aB.d):=by
     rw [aB.toEnc0.flat_append,List.take_append_drop]
    have hR : D.flat (r.map aB.d) = D.flat ((a2.take i).map aB.d) ++ D.flat (a1.map aB.d) ++ D.flat ((a2.drop i).map aB.d):=by
     rw [← hr,aB.toEnc0.flat_append,aB.toEnc0.flat_append]
    have hRl : (D.flat (r.map aB.d)).length = r.length * aB.sz:=aB.toEnc0.flat_len r
    have hrl : r.length = a2.length + a1.length:=by rw [← hr]; simp; omega
    refine aY ?_
    refine aS ?_
    refine bC ?_
    refine aE (aA rfl (mvI rfl rfl rfl rfl) <| aA rfl (mvI rfl rfl rfl rfl) <| aA rfl (bM rfl rfl (lb rfl) (svI rfl) (svI rfl) rfl (wN hm)) <|aA rfl (aM rfl rfl (lb rfl) (sv (d:=.rsl _ _ _ _ _) rfl)) <| aA rfl (yC rfl rfl (lb rfl) Tryz.underlying33 (sv (d:=.rsl _ _ _ _ _) rfl) rfl) <| aA rfl (aP rfl rfl (lb rfl) (svI rfl) (svI rfl) rfl rfl) <| aD ?_)
    refine aV (b:=_) rfl (fun h5=>?_) (fun h5=>?_)
    ·have h6:=of_decide_eq_true h5
     have hcn : c < a2.length + a1.length:=by omega
     obtain ⟨K,hK⟩ : ∃ K,K = a2.length + a1.length - i:=⟨_,rfl⟩
     have hKm : i + K = a2.length + a1.length:=by omega
     have w1 : IntKind.wrap .i64 (((a2.length + a1.length : Nat) : Int) - (i : Int)) = (K : Int):=by rw [hK]; exact wS (by omega) hm
     have hD0 : i * aB.sz ≤ (D.flat (a2.map aB.d) ++ List.replicate ((c - a2.length) * aB.sz) D.dead).length:=by
      rw [List.length_append,hX]; exact Nat.le_trans (Nat.mul_le_mul_right _ hi) (Nat.le_add_right _ _)
     have hT0 : (D.flat (a2.map aB.d) ++ List.replicate ((c - a2.length) * aB.sz) D.dead).take (i * aB.sz) = D.flat ((a2.take i).map aB.d):=by
      rw [List.take_append_of_le_length (by rw [hX]; exact Nat.mul_le_mul_right _ hi),aB.toEnc0.flat_take]
     refine aE (aA rfl (aM rfl rfl (lb rfl) (sv (d:=.rsl _ _ _ _ _) rfl)) <| aA rfl (mvI rfl rfl rfl rfl) <|aA rfl (dX (sz:=aB.sz) (l:=0) (h:=(i : Int)) (m:=(c : Int)) (d:=.rsl 1000 aB.sz 0 i c) rfl rfl (lb rfl) Tryz.underlying33 dH (sv (d:=.rsl _ _ _ _ _) rfl) rfl ⟨_,(svI rfl)⟩ rfl (by simp) (by omega) (by omega) (by omega) (by omega) (by simp only [Int.toNat_natCast,Int.toNat_zero,Nat.zero_mul,Nat.zero_add,Nat.sub_zero])) <|aA rfl (mvI rfl rfl rfl rfl) <| aA rfl (mvI rfl rfl rfl rfl) <| aA rfl (bM rfl rfl (lb rfl) (svI rfl) (svI rfl) rfl (wN hm)) <|aA rfl (mvI rfl rfl rfl rfl) <| aA rfl (bM rfl rfl (lb rfl) (svI rfl) (svI rfl) rfl w1) <|aA rfl (wT (sz:=aB.sz) (k:=K) 0 rfl rfl (lb rfl) Tryz.underlying33 Tryz.underlying3 dH rfl (sv (d:=.rsl _ _ _ _ _) rfl) rfl rfl (svI rfl) rfl (by omega) hD0 (by omega) (by rw [hKm]; exact hm) (by rw [hKm]; exact hb)) <|aA rfl (aH rfl rfl (lb rfl) (sv (d:=.osl _ _ _) rfl)) <| aD ?_)
     have hY0 : ((D.flat (a2.map aB.d) ++ List.replicate ((c - a2.length) * aB.sz) D.dead).take (i * aB.sz) ++ List.replicate (K * aB.sz) D.dead).length = (i + K) * aB.sz:=by
      rw [List.length_append,List.length_take,List.length_replicate,Nat.min_eq_left hD0,Nat.add_mul]
     refine uZ 9 (id:=0) rfl rfl hY0 (fun h0=>absurd h0 (by omega)) (fun c1 hc1 hcm1=>?_)
     rw [hT0]
     rw [hT0] at hY0
     have w2 : IntKind.wrap .i64 ((i : Int) + (a1.length : Int)) = ((i + a1.length : Nat) : Int):=wN (by omega)
     have hKs : (K - a1.length) * aB.sz = (a2.length - i) * aB.sz:=by congr 1; omega
     obtain ⟨J,hJ⟩ : ∃ J,J = List.replicate ((c1 - (i + K)) * aB.sz) D.dead:=⟨_,rfl⟩
     obtain ⟨Z,hZ⟩ : ∃ Z,Z = List.replicate (K * aB.sz) D.dead:=⟨_,rfl⟩
     have hZl : Z.length = K * aB.sz:=by rw [hZ,List.length_replicate]
     have hKsp : K * aB.sz = a1.length * aB.sz + (a2.length - i) * aB.sz:=by rw [← Nat.add_mul]; congr 1; omega
     rw [← hJ,← hZ]
     have hYl : (D.flat ((a2.take i).map aB.d) ++ Z ++ J).length = i * aB.sz + K * aB.sz + J.length:=by simp only [List.length_append,hXt,hZl]
     refine aE (aA rfl (aM rfl rfl (lb rfl) (sv (d:=.rsl _ _ _ _ _) rfl)) <| aA rfl (mvI rfl rfl rfl rfl) <|aA rfl (dX (sz:=aB.sz) (l:=(i : Int)) (h:=((i + K : Nat) : Int)) (m:=(c1 : Int)) (d:=.rsl 0 aB.sz (i * aB.sz) K (c1 - i)) rfl rfl (lb rfl) Tryz.underlying33 dH (sv (d:=.rsl _ _ _ _ _) rfl) ⟨_,(svI rfl)⟩ rfl rfl (by simp) (by omega) (by omega) (by omega) (by omega) (by simp only [Int.toNat_natCast,Nat.zero_add]; congr 1; omega)) <|aA rfl (mvL rfl rfl rfl rfl) <|aA rfl (mD (sz:=aB.sz) (ds':=eT (D.flat ((a2.take i).map aB.d) ++ Z ++ J) (i * aB.sz) (D.flat (a1.map aB.d))) rfl rfl (lb rfl) Tryz.underlying33 dH (sv (d:=.rsl _ _ _ _ _) rfl) rfl (xC aB (ys:=a1) (svL rfl)) hV (qM (aB.toEnc0.one a1) _) (by rw [hYl]; omega) rfl (by rw [hvt _ (by omega)])) <| aD ?_)
     have e1 : eT (D.flat ((a2.take i).map aB.d) ++ Z ++ J) (i * aB.sz) (D.flat (a1.map aB.d)) = D.flat ((a2.take i).map aB.d) ++ D.flat (a1.map aB.d) ++ (Z.drop (a1.length * aB.sz) ++ J):=by
      have e2 : D.flat ((a2.take i).map aB.d) ++ Z ++ J = D.flat ((a2.take i).map aB.d) ++ Z.take (a1.length * aB.sz) ++ (Z.drop (a1.length * aB.sz) ++ J):=by
       rw [List.append_assoc (D.flat ((a2.take i).map aB.d)),List.append_assoc (D.flat ((a2.take i).map aB.d)),← List.append_assoc (Z.take _),List.take_append_drop]
      rw [e2]; exact nX hXt (by rw [List.length_take,hZl,hV]; omega)
     have hres:=ins_new (J:=J) (Y:=D.flat ((a2.drop i).map aB.d)) hXt hV (show Z.length = a1.length * aB.sz + (D.flat ((a2.drop i).map aB.d)).length by rw [hZl,hXd,hKsp])
     have hlen1 : (eT (D.flat ((a2.take i).map aB.d) ++ Z ++ J) (i * aB.sz) (D.flat (a1.map aB.d))).length = i * aB.sz + K * aB.sz + J.length:=by
      rw [e1]; simp only [List.length_append,hXt,hV,List.length_drop,hZl]; omega
     obtain ⟨Y1,hY1⟩ : ∃ Y1,Y1 = eT (D.flat ((a2.take i).map aB.d) ++ Z ++ J) (i * aB.sz) (D.flat (a1.map aB.d)):=⟨_,rfl⟩
     rw [← hY1] at hlen1 hres ⊢
     obtain ⟨es,hes⟩ : ∃ es,es = ((D.flat (a2.map aB.d) ++ List.replicate ((c - a2.length) * aB.sz) D.dead).drop (i * aB.sz)).take ((a2.length - i) * aB.sz):=⟨_,rfl⟩
     have hes' : es = D.flat ((a2.drop i).map aB.d):=by
      rw [hes,List.drop_append_of_le_length (by rw [hX]; exact Nat.mul_le_mul_right _ hi),aB.toEnc0.flat_drop,List.take_append_of_le_length (by rw [hXd]; exact Nat.le_refl _),← hXd,List.take_length]
     have hfit2 : i * aB.sz + (a2.length - i) * aB.sz ≤ (D.flat (a2.map aB.d) ++ List.replicate ((c - a2.length) * aB.sz) D.dead).length:=by
      rw [List.length_append,hX,← Nat.add_mul,show i + (a2.length - i) = a2.length by omega]; exact Nat.le_add_right _ _
     have him : (i + a1.length) * aB.sz = i * aB.sz + a1.length * aB.sz:=Nat.add_mul _ _ _
     refine dD rfl [⟨[9],[],[(46,.rsl 0 aB.sz 0 (i + K) c1)],[]⟩,⟨[1],[],[(47,.int .i64 (i : Int))],[]⟩,⟨[7],[],[(48,.int .i64 (a1.length : Int))],[]⟩,⟨[47,48],[],[(49,.int .i64 ((i + a1.length : Nat) : Int))],[]⟩,
      ⟨[46,49],[],[(50,.rsl 0 aB.sz ((i + a1.length) * aB.sz) (K - a1.length) (c1 - (i + a1.length)))],[]⟩,⟨[0],[],[(51,.rsl 1000 aB.sz 0 a2.length c)],[]⟩,⟨[1],[],[(52,.int .i64 (i : Int))],[]⟩,⟨[51,52],[],[(53,.rsl 1000 aB.sz (i * aB.sz) (a2.length - i) (c - i))],[]⟩,
      ⟨[50,53],[0,1000],[(54,.int .i64 ((min (a2.length - i) (K - a1.length) : Nat) : Int))],[(0,.blk 105 (eT Y1 ((i + a1.length) * aB.sz) es))]⟩] rfl ?_ (by kernel_rfl) ?_
     ·refine .cons (lop rfl rfl fun S hA=>(aM rfl rfl (lb rfl) (sv (d:=.rsl _ _ _ _ _) (agr hA rfl rfl)))) ?_
      refine .cons (lop rfl rfl fun S hA=>(aM rfl rfl (lb rfl) (svaI hA rfl rfl))) ?_
      refine .cons (lop rfl rfl fun S hA=>(aM rfl rfl (lb rfl) (svaI hA rfl rfl))) ?_
      refine .cons (lop rfl rfl fun S hA=>(bM rfl rfl (lb rfl) (svaI hA rfl rfl) (svaI hA rfl rfl) rfl w2)) ?_
      refine .cons (lop rfl rfl fun S hA=>(dX (sz:=aB.sz) (l:=((i + a1.length : Nat) : Int)) (h:=((i + K : Nat) : Int)) (m:=(c1 : Int)) (d:=.rsl 0 aB.sz ((i + a1.length) * aB.sz) (K - a1.length) (c1 - (i + a1.length))) rfl rfl (lb rfl) Tryz.underlying33 dH (sv (d:=.rsl _ _ _ _ _) (agr hA rfl rfl)) ⟨_,(svaI hA rfl rfl)⟩ rfl rfl (by simp) (by omega) (by omega) (by omega) (by omega) (by simp only [Int.toNat_natCast,Nat.zero_add]; congr 1; omega))) ?_
      refine .cons (lop rfl rfl fun S hA=>(aM rfl rfl (lb rfl) (sv (d:=.rsl _ _ _ _ _) (agr hA rfl rfl)))) ?_
      refine .cons (lop rfl rfl fun S hA=>(aM rfl rfl (lb rfl) (svaI hA rfl rfl))) ?_
      refine .cons (lop rfl rfl fun S hA=>(dX (sz:=aB.sz) (l:=(i : Int)) (h:=(a2.length : Int)) (m:=(c : Int)) (d:=.rsl 1000 aB.sz (i * aB.sz) (a2.length - i) (c - i)) rfl rfl (lb rfl) Tryz.underlying33 dH (sv (d:=.rsl _ _ _ _ _) (agr hA rfl rfl)) ⟨_,(svaI hA rfl rfl)⟩ rfl rfl (by simp) (by omega) (by omega) (by omega) (by omega) (by simp only [Int.toNat_natCast,Nat.zero_add]))) ?_
      refine .cons (lop rfl rfl fun S hA=>(mD (sz:=aB.sz) (es:=es) (ds':=eT Y1 ((i + a1.length) * aB.sz) es) rfl rfl (lb rfl) Tryz.underlying33 dH (sv (d:=.rsl _ _ _ _ _) (agr hA rfl rfl)) (agi hA rfl rfl) (hes ▸ xB (sv (d:=.rsl _ _ _ _ _) (agr hA rfl rfl)) (agi hA rfl rfl) hfit2) (by rw [hes',hXd]) (qM (by rw [hes']; exact aB.toEnc0.one _) _) (by rw [hlen1,him,hKs]; omega) rfl (by rw [show min (a2.length - i) (K - a1.length) = a2.length - i by omega,hes',← hXd,List.take_length]))) ?_
      exact .nil
     ·rw [hes',him,hres,← hR]
      refine aE (aA rfl (aM rfl rfl (lb rfl) (sv (d:=.rsl _ _ _ _ _) rfl)) <| aA rfl (aH rfl rfl (lb rfl) (sv (d:=.rsl _ _ _ _ _) rfl)) <| aD ?_)
      refine oI 6 (id:=0) rfl rfl (show (D.flat (r.map aB.d)).length = (i + K) * aB.sz by rw [hRl,hrl,hKm]) ?_
      refine aT ?_
      refine bI ?_
      refine ⟨.inr rfl,(fun i=>i),⟨.nil,(.cons (EntW.lst rfl) .nil),cK [0] rfl (by decide),fun _ _=>rfl⟩,(.cons (sv (congrArg (D.osl _ _) (show i + K = r.length by omega))) .nil),rfl⟩
    ·have h6:=of_decide_eq_false h5
     have hcn : a2.length + a1.length ≤ c:=by omega
     have w2 : IntKind.wrap .i64 ((i : Int) + (a1.length : Int)) = ((i + a1.length : Nat) : Int):=wN (by omega)
     have him : (i + a1.length) * aB.sz = i * aB.sz + a1.length * aB.sz:=Nat.add_mul _ _ _
     obtain ⟨J,hJ⟩ : ∃ J,J = List.replicate ((c - a2.length) * aB.sz) D.dead:=⟨_,rfl⟩
     have hJl : J.length = (c - a2.length) * aB.sz:=by rw [hJ,List.length_replicate]
     have hJm : a1.length * aB.sz ≤ J.length:=by rw [hJl]; exact Nat.mul_le_mul_right _ (by omega)
     have hni : a2.length * aB.sz = i * aB.sz + (a2.length - i) * aB.sz:=by rw [← Nat.add_mul]; congr 1; omega
     have hnm : (a2.length + a1.length - i) * aB.sz = (a2.length - i) * aB.sz + a1.length * aB.sz:=by rw [← Nat.add_mul]; congr 1; omega
     have hnm2 : (a2.length + a1.length - (i + a1.length)) * aB.sz = (a2.length - i) * aB.sz:=by congr 1; omega
     rw [← hJ]
     have hD0 : (D.flat (a2.map aB.d) ++ J).length = i * aB.sz + (a2.length - i) * aB.sz + J.length:=by rw [List.length_append,hX,hni]
     refine aY ?_
     refine aS ?_
     refine aE (aA rfl (aM rfl rfl (lb rfl) (sv (d:=.rsl _ _ _ _ _) rfl)) <| aA rfl (mvI rfl rfl rfl rfl) <| aA rfl (mvI rfl rfl rfl rfl) <|aA rfl (bM rfl rfl (lb rfl) (svI rfl) (svI rfl) rfl (wN hm)) <|aA rfl (dX (sz:=aB.sz) (l:=0) (h:=((a2.length + a1.length : Nat) : Int)) (m:=(c : Int)) (d:=.rsl 1000 aB.sz 0 (a2.length + a1.length) c) rfl rfl (lb rfl) Tryz.underlying33 dH (sv (d:=.rsl _ _ _ _ _) rfl) rfl ⟨_,(svI rfl)⟩ rfl (by simp) (by omega) (by omega) (by omega) (by omega) (by simp only [Int.toNat_natCast,Int.toNat_zero,Nat.zero_mul,Nat.zero_add,Nat.sub_zero])) <|aA rfl (aH rfl rfl (lb rfl) (sv (d:=.rsl _ _ _ _ _) rfl)) <| aD ?_)
     refine bC ?_
     refine aE (aA rfl (mvL rfl rfl rfl rfl) <| aA rfl (aM rfl rfl (lb rfl) (sv (d:=.rsl _ _ _ _ _) rfl)) <| aA rfl (mvI rfl rfl rfl rfl) <| aA rfl (mvI rfl rfl rfl rfl) <|aA rfl (bM rfl rfl (lb rfl) (svI rfl) (svI rfl) rfl w2) <|aA rfl (dX (sz:=aB.sz) (l:=((i + a1.length : Nat) : Int)) (h:=((a2.length + a1.length : Nat) : Int)) (m:=(c : Int)) rfl rfl (lb rfl) Tryz.underlying33 dH (sv (d:=.rsl _ _ _ _ _) rfl) ⟨_,(svI rfl)⟩ rfl rfl (by simp) (by omega) (by omega) (by omega) (by omega) rfl) <|aA rfl (wM rfl rfl (lb rfl) ex174 Tryz.underlying33 dH (svL rfl) (by intro e; have e9:=congrArg List.length e; rw [List.length_map,List.length_nil] at e9; omega) (sv (d:=.rsl _ _ _ _ _) rfl) rfl (by intro e; have:=congrArg List.length e; rw [hD0] at this; simp only [List.length_nil] at this; have h9 : 0 < (a2.length - i) * aB.sz:=Nat.mul_pos (Nat.sub_pos_of_lt hin) hp; clear hnm hnm2 him; omega)) <|aA rfl (dB rfl rfl (lb rfl) (svB rfl)) <| aD ?_)
     refine qZ rfl rfl ?_
     obtain ⟨es,hes⟩ : ∃ es,es = ((D.flat (a2.map aB.d) ++ J).drop (i * aB.sz)).take ((a2.length + a1.length - i) * aB.sz):=⟨_,rfl⟩
     have hes' : es.take ((a2.length - i) * aB.sz) = D.flat ((a2.drop i).map aB.d):=by
      rw [hes,List.take_take,Nat.min_eq_left (by omega),List.drop_append_of_le_length (by omega),aB.toEnc0.flat_drop,List.take_append_of_le_length (by rw [hXd]; exact Nat.le_refl _),← hXd,List.take_length]
     have hesl : es.length = (a2.length + a1.length - i) * aB.sz:=by
      rw [hes,List.length_take,List.length_drop,hD0]; omega
     have hres:=aAn (J:=J) (Y:=D.flat ((a2.drop i).map aB.d)) hXt hV hJm
     rw [← hXs] at hres
     refine dD rfl [⟨[0],[],[(69,.rsl 1000 aB.sz 0 (a2.length + a1.length) c)],[]⟩,⟨[1],[],[(70,.int .i64 (i : Int))],[]⟩,⟨[7],[],[(71,.int .i64 (a1.length : Int))],[]⟩,⟨[70,71],[],[(72,.int .i64 ((i + a1.length : Nat) : Int))],[]⟩,
      ⟨[69,72],[],[(73,.rsl 1000 aB.sz ((i + a1.length) * aB.sz) (a2.length + a1.length - (i + a1.length)) (c - (i + a1.length)))],[]⟩,⟨[0],[],[(74,.rsl 1000 aB.sz 0 (a2.length + a1.length) c)],[]⟩,⟨[1],[],[(75,.int .i64 (i : Int))],[]⟩,⟨[74,75],[],[(76,.rsl 1000 aB.sz (i * aB.sz) (a2.length + a1.length - i) (c - i))],[]⟩,
      ⟨[73,76],[1000],[(77,.int .i64 ((min (a2.length + a1.length - i) (a2.length + a1.length - (i + a1.length)) : Nat) : Int))],[(1000,.blk 105 (eT (D.flat (a2.map aB.d) ++ J) (i * aB.sz + a1.length * aB.sz) (D.flat ((a2.drop i).map aB.d))))]⟩] rfl ?_ (by kernel_rfl) ?_
     ·refine .cons (lop rfl rfl fun S hA=>(aM rfl rfl (lb rfl) (sv (d:=.rsl _ _ _ _ _) (agr hA rfl rfl)))) ?_
      refine .cons (lop rfl rfl fun S hA=>(aM rfl rfl (lb rfl) (svaI hA rfl rfl))) ?_
      refine .cons (lop rfl rfl fun S hA=>(aM rfl rfl (lb rfl) (svaI hA rfl rfl))) ?_
      refine .cons (lop rfl rfl fun S hA=>(bM rfl rfl (lb rfl) (svaI hA rfl rfl) (svaI hA rfl rfl) rfl w2)) ?_
      refine .cons (lop rfl rfl fun S hA=>(dX (sz:=aB.sz) (l:=((i + a1.length : Nat) : Int)) (h:=((a2.length + a1.length : Nat) : Int)) (m:=(c : Int)) (d:=.rsl 1000 aB.sz ((i + a1.length) * aB.sz) (a2.length + a1.length - (i + a1.length)) (c - (i + a1.length))) rfl rfl (lb rfl) Tryz.underlying33 dH (sv (d:=.rsl _ _ _ _ _) (agr hA rfl rfl)) ⟨_,(svaI hA rfl rfl)⟩ rfl rfl (by simp) (by omega) (by omega) (by omega) (by omega) (by simp only [Int.toNat_natCast,Nat.zero_add]))) ?_
      refine .cons (lop rfl rfl fun S hA=>(aM rfl rfl (lb rfl) (sv (d:=.rsl _ _ _ _ _) (agr hA rfl rfl)))) ?_
      refine .cons (lop rfl rfl fun S hA=>(aM rfl rfl (lb rfl) (svaI hA rfl rfl))) ?_
      refine .cons (lop rfl rfl fun S hA=>(dX (sz:=aB.sz) (l:=(i : Int)) (h:=((a2.length + a1.length : Nat) : Int)) (m:=(c : Int)) (d:=.rsl 1000 aB.sz (i * aB.sz) (a2.length + a1.length - i) (c - i)) rfl rfl (lb rfl) Tryz.underlying33 dH (sv (d:=.rsl _ _ _ _ _) (agr hA rfl rfl)) ⟨_,(svaI hA rfl rfl)⟩ rfl rfl (by simp) (by omega) (by omega) (by omega) (by omega) (by simp only [Int.toNat_natCast,Nat.zero_add]))) ?_
      refine .cons (lop rfl rfl fun S hA=>(mD (sz:=aB.sz) (es:=es) (ds':=eT (D.flat (a2.map aB.d) ++ J) (i * aB.sz + a1.length * aB.sz) (D.flat ((a2.drop i).map aB.d))) rfl rfl (lb rfl) Tryz.underlying33 dH (sv (d:=.rsl _ _ _ _ _) (agr hA rfl rfl)) (agi hA rfl rfl) (hes ▸ xB (sv (d:=.rsl _ _ _ _ _) (agr hA rfl rfl)) (agi hA rfl rfl) (by rw [hD0]; omega)) hesl (by rw [show min (a2.length + a1.length - i) (a2.length + a1.length - (i + a1.length)) = a2.length - i by omega,hes']; exact aB.toEnc0.one _) (by rw [hD0,him,hnm2]; omega) rfl (by rw [show min (a2.length + a1.length - i) (a2.length + a1.length - (i + a1.length)) = a2.length - i by omega,hes',him]))) ?_
      exact .nil
     ·refine aE (aA rfl (aM rfl rfl (lb rfl) (sv (d:=.rsl _ _ _ _ _) rfl)) <| aA rfl (mvI rfl rfl rfl rfl) <|aA rfl (dX (sz:=aB.sz) (l:=(i : Int)) (h:=((a2.length + a1.length : Nat) : Int)) (m:=(c : Int)) (d:=.rsl 1000 aB.sz (i * aB.sz) (a2.length + a1.length - i) (c - i)) rfl rfl (lb rfl) Tryz.underlying33 dH (sv (d:=.rsl _ _ _ _ _) rfl) ⟨_,(svI rfl)⟩ rfl rfl (by simp) (by omega) (by omega) (by omega) (by omega) (by simp only [Int.toNat_natCast,Nat.zero_add])) <|aA rfl (mvL rfl rfl rfl rfl) <|aA rfl (mD (sz:=aB.sz) (ds':=D.flat (r.map aB.d) ++ J.drop (a1.length * aB.sz)) rfl rfl (lb rfl) Tryz.underlying33 dH (sv (d:=.rsl _ _ _ _ _) rfl) rfl (xC aB (ys:=a1) (svL rfl)) hV (qM (aB.toEnc0.one a1) _) (by rw [oZ,hD0]; omega; rw [hD0,hXd]; omega) rfl (by rw [hvt _ (by omega),hres,hR])) <| aD ?_)
      refine aE (aA rfl (aM rfl rfl (lb rfl) (sv (d:=.rsl _ _ _ _ _) rfl)) <| aA rfl (aH rfl rfl (lb rfl) (sv (d:=.rsl _ _ _ _ _) rfl)) <| aD ?_)
      refine oI 6 (id:=1000) rfl rfl (show (D.flat (r.map aB.d)).length = (a2.length + a1.length) * aB.sz by rw [hRl,hrl]) ?_
      refine aT ?_
      refine bI ?_
      refine ⟨.inr rfl,(fun i=>if i = 0 then 1000 else i),⟨.nil,(.cons (EntW.lst rfl) .nil),cK [1000] rfl (by decide),(fun i hi=>by first | rfl | (show (if _ then _ else _) = _; (repeat' split) <;> omega))⟩,(.cons (sv (congrArg (D.osl _ _) hrl.symm)) .nil),rfl⟩

theorem xM (a0 : aW) (a1 : Int) (a2 : Int) (a3 : Int) (r : (aW × aJ × (List UInt8) × Bool)) (h : kB a0 a1 a2 a3 = some r) : cF Tryz.prog 88 [.agg (v2 a0),.int .i64 a1,.int .i64 a2,.int .i64 a3] (retD [.agg (v2 r.1),.agg (v7 r.2.1),.str r.2.2.1,.bool r.2.2.2]):=by
 refine iC (rs:=[.agg (v2 r.1),.agg (v7 r.2.1),.str r.2.2.1,.bool r.2.2.2]) Tryz.func88 rfl Tryz.ntmps88 (nle rfl) rfl fun O hO=>?_
 show IWP _ _ _ _ ⟨[(0,.agg (v2 a0)),(1,.int .i64 a1),(2,.int .i64 a2),(3,.int .i64 a3)],[]⟩ _
 unfold kB at h
 refine aE (aA rfl (bR (cs:=q15) 0 rfl rfl (lb rfl) rfl (svA q15 rfl) rfl rfl) <|aA rfl (bD (cs:=q17) (cs':=(w42 0 [] 0 ([] : List aJ) ([] : List aG) false false false false)) 1 rfl rfl (lb rfl) rfl ti37 rfl rfl (.k (.k (.k (.cons (.nils _) (.cons (.nils _) (.all _))))))) <|aA rfl (bD (cs:=q20) (cs':=(w46 0 0 0 false)) 2 rfl rfl (lb rfl) rfl dH rfl rfl (.all _)) <|aA rfl (aH rfl rfl (lb rfl) (sv (d:=.str []) rfl)) <|aA rfl (aH rfl rfl (lb rfl) (sv (d:=.bool false) rfl)) <|aD ?_)
 obtain ⟨x1,hx1,h⟩:=bF h
 refine aE (aA rfl (lra q15 la37 rfl rfl rfl rfl rfl (nle rfl) rfl) <|aA rfl (dO (r':=.agg (w43 x1.1 x1.2.1 x1.2.2.1 (.osl 3 aB.sz x1.2.2.2.1.length) x1.2.2.2.2.1 x1.2.2.2.2.2.1 x1.2.2.2.2.2.2.1 x1.2.2.2.2.2.2.2.1 x1.2.2.2.2.2.2.2.2)) (H1':=[(3,.blk 105 (D.flat (x1.2.2.2.1.map aB.d)))]) 3 [] rfl rfl (lb rfl) aA7 (.cons (svA q15 rfl) .nil) rfl rfl ⟨rfl,rfl,by decide,rfl,List.forall_mem_nil _⟩ (gM _ _ hx1) rfl rfl (List.forall_mem_cons.2 ⟨⟨rfl,(fB aB)⟩,List.forall_mem_nil _⟩) (by simp only [List.map_cons,List.map_nil,Ent.ren,eD,eQ]; rfl)) <|aA rfl (bD (cs:=q17) (cs':=(w42 0 [] 0 ([] : List aJ) ([] : List aG) false false false false)) 4 rfl rfl (lb rfl) rfl ti37 rfl rfl (.k (.k (.k (.cons (.nils _) (.cons (.nils _) (.all _))))))) <|aA rfl (stA q16 q16 ti37 rfl rfl rfl rfl rfl rfl rfl rfl (nle rfl) rfl) <|aD ?_)
 refine bC ?_
 obtain ⟨x2,hx2,h⟩:=bF h
 obtain ⟨x3,hx3,h⟩:=aQ h
 obtain ⟨x4,hx4,h⟩:=aQ h
 obtain ⟨x5,hx5,h⟩:=bF h
 obtain ⟨x6,hx6,h⟩:=aQ h
 obtain ⟨x7,hx7,h⟩:=aQ h
 refine aE (aA rfl (mvI rfl rfl rfl rfl) <|aA rfl (aU (r:=.bool _) rfl rfl (lb rfl) cl133 (.cons (svI rfl) .nil) rfl (sT _ _ hx2)) <|aA rfl (dB rfl rfl (lb rfl) (svB rfl)) <|aA rfl (mvB rfl rfl rfl rfl) <|aC rfl rfl (.one rfl) rfl (by decide) (fun hb=>(mvI rfl rfl rfl rfl)) <|aC rfl rfl (.one rfl) rfl (by decide) (fun hb=>(aP rfl rfl (lb rfl) (svcI rfl hb) (sv (d:=.int _ 1) rfl) rfl hx3)) <|aA rfl (cQ rfl rfl (lb rfl) (svB rfl) rfl rfl hx4) <|aA rfl (mvB rfl rfl rfl rfl) <|aC rfl rfl (.one rfl) rfl (by decide) (fun hb=>(lra q15 la37 rfl rfl rfl rfl rfl (nle rfl) rfl)) <|aC rfl rfl (.one rfl) rfl (by decide) (fun hb=>(aU (r:=.int _ _) rfl rfl (lb rfl) yG (.cons (svcA (v2 a0) rfl hb) .nil) rfl (iU _ _ (gd_t hx5 hb)))) <|aC rfl rfl (.one rfl) rfl (by decide) (fun hb=>(aP rfl rfl (lb rfl) (svcI rfl hb) (sv (d:=.int _ 0) rfl) rfl hx6)) <|aA rfl (cQ rfl rfl (lb rfl) (svB rfl) rfl rfl hx7) <|aD ?_)
 refine aV (b:=_) rfl (fun hc8=>?_) (fun hc8=>?_)
 ·
  replace h:=cD h hc8
  refine aE (aA rfl (lra q16 la37 rfl rfl rfl rfl rfl (nle rfl) rfl) <|aA rfl (bS (cs:=q20) rfl rfl (lb rfl) Tryz.underlying105 dH xG rfl .nil rfl) <|aA rfl (stA q16 q16 ti37 rfl rfl rfl rfl rfl rfl rfl rfl (nle rfl) rfl) <|aA rfl (stA q20 q20 dH rfl rfl rfl rfl rfl rfl rfl rfl (nle rfl) rfl) <|aA rfl (aH rfl rfl (lb rfl) (sv (d:=.str []) rfl)) <|aA rfl (aH rfl rfl (lb rfl) (sv (d:=.bool false) rfl)) <|aD ?_)
  refine aT ?_
  refine bI ?_
  obtain rfl:=Option.some.inj h
  refine ⟨.inr rfl,_,(.cons (rva la37 rfl rfl (nle rfl) rfl) (.cons (rva qD rfl rfl (nle rfl) rfl) (.cons (sv rfl) (.cons (sv rfl) .nil)))),(.cons (.agg (.k (.k (.k (.cons (FDT aB rfl rfl) (.all _)))))) (.all _))⟩
 ·
  replace h:=cE h hc8
  refine aY ?_
  refine aS ?_
  obtain ⟨x9,hx9,h⟩:=bF h
  refine aE (aA rfl (lra q15 la37 rfl rfl rfl rfl rfl (nle rfl) rfl) <|aA rfl (mvI rfl rfl rfl rfl) <|aA rfl (mvI rfl rfl rfl rfl) <|aA rfl (aU (r:=.tuple q39) rfl rfl (lb rfl) cl125 (.cons (svA q15 rfl) (.cons (svI rfl) (.cons (svI rfl) .nil))) rfl (mX _ _ _ _ hx9)) <|aA rfl (aM rfl rfl (lb rfl) (sv (d:=.tuple q39) rfl)) <|aA rfl (aZ (d:=.agg q20) rfl rfl (lb rfl) (sv (d:=.tuple q39) rfl) rfl) <|aA rfl (aZ (d:=.bool _) rfl rfl (lb rfl) (sv (d:=.tuple q39) rfl) rfl) <|aA rfl (bD (cs:=q20) (cs':=(w46 0 0 0 false)) 5 rfl rfl (lb rfl) rfl dH rfl rfl (.all _)) <|aA rfl (stA q20 q20 dH rfl rfl rfl rfl rfl rfl rfl rfl (nle rfl) rfl) <|aA rfl (asB rfl rfl rfl rfl) <|aD ?_)
  refine bC ?_
  refine aE (aA rfl (mvB rfl rfl rfl rfl) <|aA rfl (dB rfl rfl (lb rfl) (svB rfl)) <|aD ?_)
  refine aV (b:=_) rfl (fun hc10=>?_) (fun hc10=>?_)
  ·
   replace h:=cD h hc10
   refine aE (aA rfl (lra q16 la37 rfl rfl rfl rfl rfl (nle rfl) rfl) <|aA rfl (bS (cs:=q20) rfl rfl (lb rfl) Tryz.underlying105 dH xG rfl .nil rfl) <|aA rfl (stA q16 q16 ti37 rfl rfl rfl rfl rfl rfl rfl rfl (nle rfl) rfl) <|aA rfl (stA q20 q20 dH rfl rfl rfl rfl rfl rfl rfl rfl (nle rfl) rfl) <|aA rfl (aH rfl rfl (lb rfl) (sv (d:=.str []) rfl)) <|aA rfl (aH rfl rfl (lb rfl) (sv (d:=.bool false) rfl)) <|aD ?_)
   refine aT ?_
   refine bI ?_
   obtain rfl:=Option.some.inj h
   refine ⟨.inr rfl,_,(.cons (rva la37 rfl rfl (nle rfl) rfl) (.cons (rva qD rfl rfl (nle rfl) rfl) (.cons (sv rfl) (.cons (sv rfl) .nil)))),(.cons (.agg (.k (.k (.k (.cons (FDT aB rfl rfl) (.all _)))))) (.all _))⟩
  ·
   replace h:=cE h hc10
   refine aY ?_
   refine aS ?_
   refine aE (aA rfl (mvI rfl rfl rfl rfl) <|aA rfl (faR 2 rfl rfl rfl Tryz.underlying105 rfl ti3 (lb rfl) rfl rfl) <|aA rfl (bN (ds':=q20) rfl rfl ti3 (svR rfl) rfl (svI rfl) rfl rfl rfl (nle rfl) rfl) <|aD ?_)
   obtain ⟨x11,hx11,h⟩:=aQ h
   refine aE (aA rfl (faR 2 rfl rfl rfl Tryz.underlying37 rfl ti3 (lb rfl) rfl rfl) <|aA rfl (aF (d:=.int _ _) rfl rfl (lb rfl) Tryz.underlying3 ag3 ti3 (by decide) (svR rfl) rfl (nle rfl) rfl) <|aA rfl (faR 1 rfl rfl rfl Tryz.underlying105 rfl ti3 (lb rfl) rfl rfl) <|aA rfl (aF (d:=.int _ _) rfl rfl (lb rfl) Tryz.underlying3 ag3 ti3 (by decide) (svR rfl) rfl (nle rfl) rfl) <|aA rfl (kO rfl rfl (lb rfl) (svI rfl) (svI rfl) hx11) <|aA rfl (faR 2 rfl rfl rfl Tryz.underlying37 rfl ti3 (lb rfl) rfl rfl) <|aA rfl (bN (ds':=q16) rfl rfl ti3 (svR rfl) rfl (svI rfl) rfl rfl rfl (nle rfl) rfl) <|aD ?_)
   refine kN (α:=(List aG)) (fun z=>⟨[(4,.ref 0 0),(8,.ref 1 0),(9,.ref 2 0),(12,.ref 4 0),(13,.ref 5 0)],[(0,.blk 37 (v2 a0)),(1,.blk 37 (w42 0 [] 0 ([] : List aJ) ([] : List aG) false false false false)),(2,.blk 105 (w46 0 0 0 false)),(4,.blk 37 (w43 x1.1 x1.2.1 x11 (.osl 3 aB.sz x1.2.2.2.1.length) z x1.2.2.2.2.2.1 x1.2.2.2.2.2.2.1 x1.2.2.2.2.2.2.2.1 x1.2.2.2.2.2.2.2.2)),(5,.blk 105 (w46 x9.1.From x9.1.To a1 x9.1.Fin)),(3,.blk 105 (D.flat (x1.2.2.2.1.map aB.d)))]⟩) (fun z=>jQ a0 a1 x1 x9 x11 z = some r) ?_ ?_
   ·
    obtain ⟨x35,hx35,h⟩:=aQ h
    refine aE (aA rfl (faR 0 rfl rfl rfl Tryz.underlying105 rfl ti3 (lb rfl) rfl rfl) <|aA rfl (aF (d:=.int _ _) rfl rfl (lb rfl) Tryz.underlying3 ag3 ti3 (by decide) (svR rfl) rfl (nle rfl) rfl) <|aA rfl (faR 1 rfl rfl rfl Tryz.underlying105 rfl ti3 (lb rfl) rfl rfl) <|aA rfl (aF (d:=.int _ _) rfl rfl (lb rfl) Tryz.underlying3 ag3 ti3 (by decide) (svR rfl) rfl (nle rfl) rfl) <|aA rfl (aP rfl rfl (lb rfl) (svI rfl) (svI rfl) rfl hx35) <|aD ?_)
    refine aV (b:=_) rfl (fun hc36=>?_) (fun hc36=>?_)
    ·
     replace h:=cD h hc36
     obtain ⟨x37,hx37,h⟩:=bF h
     obtain ⟨x38,hx38,h⟩:=bF h
     refine lF rfl [⟨[12],[],[(55,.ref 4 4)],[]⟩,
      ⟨[55],[4],[(56,.slice false (x1.2.2.2.2.1.map aK.d))],[]⟩,
      ⟨[13],[5],[(57,.agg (w46 x9.1.From x9.1.To a1 x9.1.Fin))],[]⟩,
      ⟨[57],[],[(58,.agg [.int .i64 x37.From,.int .i64 x37.To])],[]⟩,
      ⟨[56,58],[],[(59,.slice false (x38.map aK.d))],[]⟩,
      ⟨[12],[],[(60,.ref 4 4)],[]⟩,
      ⟨[59,60],[4],[],[(4,.blk 37 (w43 x1.1 x1.2.1 x11 (.osl 3 aB.sz x1.2.2.2.1.length) x38 x1.2.2.2.2.2.1 x1.2.2.2.2.2.2.1 x1.2.2.2.2.2.2.2.1 x1.2.2.2.2.2.2.2.2))]⟩] rfl ?_ (by kernel_rfl) ?_
     ·refine .cons (lop rfl rfl fun S hA=>(aI rfl rfl (lb rfl) Tryz.underlying37 rfl ti35 (by decide) (svaR hA rfl rfl) (off':=4) rfl)) ?_
      refine .cons (lop rfl rfl fun S hA=>(aF (d:=.slice _ _) rfl rfl (lb rfl) Tryz.underlying35 ag35 ti35 (by decide) (svaR hA rfl rfl) (agi hA rfl rfl) (nle rfl) rfl)) ?_
      refine .cons (lop rfl rfl fun S hA=>(bK (cs:=q20) rfl rfl (lb rfl) Tryz.underlying105 nN dH (by decide) (svaR hA rfl rfl) (agi hA rfl rfl) (nle rfl) rfl)) ?_
      refine .cons (lop rfl rfl fun S hA=>(aU (r:=.agg q27) rfl rfl (lb rfl) aBw (.cons (svaA q20 hA rfl rfl) .nil) rfl (iZ _ _ hx37))) ?_
      refine .cons (lop rfl rfl fun S hA=>(aU (r:=.slice _ _) rfl rfl (lb rfl) cl134 (.cons (svaL hA rfl rfl) (.cons (svaA q27 hA rfl rfl) .nil)) rfl (pH _ _ _ hx38))) ?_
      refine .cons (lop rfl rfl fun S hA=>(aI rfl rfl (lb rfl) Tryz.underlying37 rfl ti35 (by decide) (svaR hA rfl rfl) (off':=4) rfl)) ?_
      refine .cons (lop rfl rfl fun S hA=>(bN (ds':=q16) rfl rfl ti35 (svaR hA rfl rfl) (agi hA rfl rfl) (svaL hA rfl rfl) rfl rfl rfl (nle rfl) rfl)) ?_
      exact .nil
     refine aS ⟨x38,(fun i=>i),⟨(.sames rfl rfl),(.cons (.blk rfl rfl rfl) (.cons (.blk rfl rfl rfl) (.cons (.blk rfl rfl rfl) (.cons (.blk rfl rfl rfl) (.cons (.blk rfl rfl rfl) (.cons (EntW.lst rfl) .nil)))))),cK [0,1,2,4,5,3] rfl (by decide),fun _ _=>rfl⟩,?_⟩
     exact h
    ·
     replace h:=cE h hc36
     refine aY ?_
     refine aS ⟨x1.2.2.2.2.1,(fun i=>i),⟨(.sames rfl rfl),(.cons (.blk rfl rfl rfl) (.cons (.blk rfl rfl rfl) (.cons (.blk rfl rfl rfl) (.cons (.blk rfl rfl rfl) (.cons (.blk rfl rfl rfl) (.cons (EntW.lst rfl) .nil)))))),cK [0,1,2,4,5,3] rfl (by decide),fun _ _=>rfl⟩,?_⟩
     exact h
   ·
    rintro v16 h
    unfold jQ at h
    refine kN (α:=Bool × Bool × Bool) (fun z=>⟨[(4,.ref 0 0),(8,.ref 1 0),(9,.ref 2 0),(12,.ref 4 0),(13,.ref 5 0)],[(0,.blk 37 (v2 a0)),(1,.blk 37 (w42 0 [] 0 ([] : List aJ) ([] : List aG) false false false false)),(2,.blk 105 (w46 0 0 0 false)),(4,.blk 37 (w43 x1.1 x1.2.1 x11 (.osl 3 aB.sz x1.2.2.2.1.length) v16 x1.2.2.2.2.2.1 z.1 z.2.1 x1.2.2.2.2.2.2.2.2)),(5,.blk 105 (w46 x9.1.From x9.1.To a1 z.2.2)),(3,.blk 105 (D.flat (x1.2.2.2.1.map aB.d)))]⟩) (fun z=>hY a0 a1 x1 x9 x11 v16 z.1 z.2.1 z.2.2 = some r) ?_ ?_
    ·
     obtain ⟨x30,hx30,h⟩:=bF h
     obtain ⟨x31,hx31,h⟩:=aQ h
     obtain ⟨x32,hx32,h⟩:=bF h
     obtain ⟨x33,hx33,h⟩:=aQ h
     refine dD rfl [⟨[13],[],[(61,.ref 5 1)],[]⟩,
      ⟨[61],[5],[(62,.int .i64 x9.1.To)],[]⟩,
      ⟨[4],[0],[(63,.agg (v2 a0))],[]⟩,
      ⟨[63],[],[(64,.int .i64 x30)],[]⟩,
      ⟨[62,64],[],[(65,.bool x31)],[]⟩,
      ⟨[65],[],[(66,.bool x31)],[]⟩,
      ⟨[4,66],[0],[(67,.cnd (x31 == true) (.agg (v2 a0)))],[]⟩,
      ⟨[66,67],[],[(68,.cnd (x31 == true) (.bool x32))],[]⟩,
      ⟨[66,68],[],[(69,.bool x33)],[]⟩,
      ⟨[13],[],[(70,.ref 5 3)],[]⟩,
      ⟨[69,70],[5],[],[(5,.blk 105 (w46 x9.1.From x9.1.To a1 x33))]⟩] rfl ?_ (by kernel_rfl) ?_
     ·refine .cons (lop rfl rfl fun S hA=>(aI rfl rfl (lb rfl) Tryz.underlying105 rfl ti3 (by decide) (svaR hA rfl rfl) (off':=1) rfl)) ?_
      refine .cons (lop rfl rfl fun S hA=>(aF (d:=.int _ _) rfl rfl (lb rfl) Tryz.underlying3 ag3 ti3 (by decide) (svaR hA rfl rfl) (agi hA rfl rfl) (nle rfl) rfl)) ?_
      refine .cons (lop rfl rfl fun S hA=>(bK (cs:=q15) rfl rfl (lb rfl) Tryz.underlying37 ag37 ti37 (by decide) (svaR hA rfl rfl) (agi hA rfl rfl) (nle rfl) rfl)) ?_
      refine .cons (lop rfl rfl fun S hA=>(aU (r:=.int _ _) rfl rfl (lb rfl) xA (.cons (svaA q15 hA rfl rfl) .nil) rfl (eZ _ _ hx30))) ?_
      refine .cons (lop rfl rfl fun S hA=>(aP rfl rfl (lb rfl) (svaI hA rfl rfl) (svaI hA rfl rfl) rfl hx31)) ?_
      refine .cons (lop rfl rfl fun S hA=>(aM rfl rfl (lb rfl) (svaB hA rfl rfl))) ?_
      refine .cons (lopg rfl rfl rfl rfl (by decide) (fun S hA=>grd1 hA rfl rfl) (fun S hA hb=>(bK (cs:=q15) rfl rfl (lb rfl) Tryz.underlying37 ag37 ti37 (by decide) (svaR hA rfl rfl) (agi hA rfl rfl) (nle rfl) rfl))) ?_
      refine .cons (lopg rfl rfl rfl rfl (by decide) (fun S hA=>grd1 hA rfl rfl) (fun S hA hb=>(aU (r:=.bool _) rfl rfl (lb rfl) cl136 (.cons (svc (d:=.agg (v2 a0)) (agr hA rfl rfl) hb) .nil) rfl (nP _ _ (gd_t hx32 hb))))) ?_
      refine .cons (lop rfl rfl fun S hA=>(bT rfl rfl (lb rfl) (svaB hA rfl rfl) (agr hA rfl rfl) rfl hx33)) ?_
      refine .cons (lop rfl rfl fun S hA=>(aI rfl rfl (lb rfl) Tryz.underlying105 rfl ti4 (by decide) (svaR hA rfl rfl) (off':=3) rfl)) ?_
      refine .cons (lop rfl rfl fun S hA=>(bN (ds':=q20) rfl rfl ti4 (svaR hA rfl rfl) (agi hA rfl rfl) (svaB hA rfl rfl) rfl rfl rfl (nle rfl) rfl)) ?_
      exact .nil
     refine aE (aA rfl (faR 3 rfl rfl rfl Tryz.underlying105 rfl ti4 (lb rfl) rfl rfl) <|aA rfl (aF (d:=.bool _) rfl rfl (lb rfl) Tryz.underlying4 ag4 ti4 (by decide) (svR rfl) rfl (nle rfl) rfl) <|aD ?_)
     refine aV (b:=_) rfl (fun hc34=>?_) (fun hc34=>?_)
     ·
      replace h:=cD h hc34
      refine bO (aA rfl (faR 6 rfl rfl rfl Tryz.underlying37 rfl ti4 (lb rfl) rfl rfl) <|aA rfl (bN (ds':=q16) rfl rfl ti4 (svR rfl) rfl (sv (d:=.bool true) rfl) rfl rfl rfl (nle rfl) rfl) <|aA rfl (faR 7 rfl rfl rfl Tryz.underlying37 rfl ti4 (lb rfl) rfl rfl) <|aA rfl (bN (ds':=q16) rfl rfl ti4 (svR rfl) rfl (sv (d:=.bool false) rfl) rfl rfl rfl (nle rfl) rfl) <|cL ?_)
      refine aS ⟨(true,false,x33),(fun i=>i),⟨(.sames rfl rfl),(.cons (.blk rfl rfl rfl) (.cons (.blk rfl rfl rfl) (.cons (.blk rfl rfl rfl) (.cons (.blk rfl rfl rfl) (.cons (.blk rfl rfl rfl) (.cons (EntW.lst rfl) .nil)))))),cK [0,1,2,4,5,3] rfl (by decide),fun _ _=>rfl⟩,?_⟩
      exact h
     ·
      replace h:=cE h hc34
      refine aY ?_
      refine aS ⟨(x1.2.2.2.2.2.2.1,x1.2.2.2.2.2.2.2.1,x33),(fun i=>i),⟨(.sames rfl rfl),(.cons (.blk rfl rfl rfl) (.cons (.blk rfl rfl rfl) (.cons (.blk rfl rfl rfl) (.cons (.blk rfl rfl rfl) (.cons (.blk rfl rfl rfl) (.cons (EntW.lst rfl) .nil)))))),cK [0,1,2,4,5,3] rfl (by decide),fun _ _=>rfl⟩,?_⟩
      exact h
    ·
     rintro ⟨v22,v23,v24⟩ h
     unfold hY at h
     obtain ⟨x25,hx25,h⟩:=bF h
     obtain ⟨x26,hx26,h⟩:=bF h
     refine dD rfl [⟨[12],[],[(75,.ref 4 3)],[]⟩,
      ⟨[75],[4],[(76,.osl 3 aB.sz x1.2.2.2.1.length)],[]⟩,
      ⟨[4],[0],[(77,.agg (v2 a0))],[]⟩,
      ⟨[13],[5],[(78,.agg (w46 x9.1.From x9.1.To a1 v24))],[]⟩,
      ⟨[77,78],[],[(79,.int .i64 x25)],[]⟩,
      ⟨[13],[5],[(80,.agg (w46 x9.1.From x9.1.To a1 v24))],[]⟩,
      ⟨[80],[6],[(81,.gsl 6 aB.sz ((([(⟨x9.1.From,x9.1.To,a1,v24⟩ : aJ)] : (List aJ))).map aB.d))],[(6,.tail 105 aB.sz (([(⟨x9.1.From,x9.1.To,a1,v24⟩ : aJ)] : (List aJ))).length)]⟩,
      ⟨[76,79,81],[3,7],[(82,.osl 7 aB.sz x26.length)],[(7,.blk 105 (D.flat (x26.map aB.d))),(3,.none)]⟩,
      ⟨[12],[],[(83,.ref 4 3)],[]⟩,
      ⟨[82,83],[4],[],[(4,.blk 37 (w43 x1.1 x1.2.1 x11 (.osl 7 aB.sz x26.length) v16 x1.2.2.2.2.2.1 v22 v23 x1.2.2.2.2.2.2.2.2))]⟩] rfl ?_ (by kernel_rfl) ?_
     ·refine .cons (lop rfl rfl fun S hA=>(aI rfl rfl (lb rfl) Tryz.underlying37 rfl ti33 (by decide) (svaR hA rfl rfl) (off':=3) rfl)) ?_
      refine .cons (lop rfl rfl fun S hA=>(aF (d:=.osl _ _ _) rfl rfl (lb rfl) Tryz.underlying33 ag33 ti33 (by decide) (svaR hA rfl rfl) (agi hA rfl rfl) (nle rfl) rfl)) ?_
      refine .cons (lop rfl rfl fun S hA=>(bK (cs:=q15) rfl rfl (lb rfl) Tryz.underlying37 ag37 ti37 (by decide) (svaR hA rfl rfl) (agi hA rfl rfl) (nle rfl) rfl)) ?_
      refine .cons (lop rfl rfl fun S hA=>(bK (cs:=q20) rfl rfl (lb rfl) Tryz.underlying105 nN dH (by decide) (svaR hA rfl rfl) (agi hA rfl rfl) (nle rfl) rfl)) ?_
      refine .cons (lop rfl rfl fun S hA=>(aU (r:=.int _ _) rfl rfl (lb rfl) cl138 (.cons (svaA q15 hA rfl rfl) (.cons (svaA q20 hA rfl rfl) .nil)) rfl (pX _ _ _ hx25))) ?_
      refine .cons (lop rfl rfl fun S hA=>(bK (cs:=q20) rfl rfl (lb rfl) Tryz.underlying105 nN dH (by decide) (svaR hA rfl rfl) (agi hA rfl rfl) (nle rfl) rfl)) ?_
      refine .cons (lop rfl rfl fun S hA=>(tE aB ([(⟨x9.1.From,x9.1.To,a1,v24⟩ : aJ)] : (List aJ)) 6 rfl rfl (lb rfl) Tryz.underlying33 dH (agi hA rfl rfl) (.cons (svaA q20 hA rfl rfl) .nil) rfl rfl (by decide))) ?_
      refine .cons (lop rfl rfl fun S hA=>(aAj (r':=.osl 7 aB.sz x26.length) (U:=[(7,.blk 105 (D.flat (x26.map aB.d))),(3,.none)]) 7 1 [3] rfl rfl (lb rfl) cl137 (.cons (sv (d:=.osl _ _ _) (agr hA rfl rfl)) (.cons (svaI hA rfl rfl) (.cons (svg (agr hA rfl rfl)) .nil))) rfl rfl rfl (List.forall_mem_cons.2 ⟨(agi hA rfl rfl),List.forall_mem_nil _⟩) ⟨by decide,rfl,List.forall_mem_cons.2 ⟨⟨rfl,rfl,(pL aB (agi hA rfl rfl)),(fB aB)⟩,List.forall_mem_nil _⟩⟩ (iS _ _ _ _ hx26) rfl rfl (List.forall_mem_cons.2 ⟨⟨rfl,(fB aB)⟩,List.forall_mem_nil _⟩) (by simp only [List.map_cons,List.map_nil,Ent.ren,eD,eQ]; rfl))) ?_
      refine .cons (lop rfl rfl fun S hA=>(aI rfl rfl (lb rfl) Tryz.underlying37 rfl ti33 (by decide) (svaR hA rfl rfl) (off':=3) rfl)) ?_
      refine .cons (lop rfl rfl fun S hA=>(bN (ds':=q16) rfl rfl ti33 (svaR hA rfl rfl) (agi hA rfl rfl) (sv (d:=.osl _ _ _) (agr hA rfl rfl)) rfl rfl rfl (nle rfl) rfl)) ?_
      exact .nil
     obtain ⟨x27,hx27,h⟩:=aQ h
     obtain ⟨x28,hx28,h⟩:=aQ h
     obtain ⟨x29,hx29,h⟩:=bF h
     refine dD rfl [⟨[12],[4],[(84,.agg (w43 x1.1 x1.2.1 x11 (.osl 7 aB.sz x26.length) v16 x1.2.2.2.2.2.1 v22 v23 x1.2.2.2.2.2.2.2.2))],[]⟩,
      ⟨[13],[5],[(85,.agg (w46 x9.1.From x9.1.To a1 v24))],[]⟩,
      ⟨[4],[],[(86,.ref 0 1)],[]⟩,
      ⟨[86],[0],[(87,.str a0.Data)],[]⟩,
      ⟨[13],[],[(88,.ref 5 0)],[]⟩,
      ⟨[88],[5],[(89,.int .i64 x9.1.From)],[]⟩,
      ⟨[4],[],[(90,.ref 0 0)],[]⟩,
      ⟨[90],[0],[(91,.int .i64 a0.Base)],[]⟩,
      ⟨[89,91],[],[(92,.int .i64 x27)],[]⟩,
      ⟨[13],[],[(93,.ref 5 1)],[]⟩,
      ⟨[93],[5],[(94,.int .i64 x9.1.To)],[]⟩,
      ⟨[4],[],[(95,.ref 0 0)],[]⟩,
      ⟨[95],[0],[(96,.int .i64 a0.Base)],[]⟩,
      ⟨[94,96],[],[(97,.int .i64 x28)],[]⟩,
      ⟨[87,92,97],[],[(98,.str x29)],[]⟩,
      ⟨[8,84],[1],[],[(1,.blk 37 (w43 x1.1 x1.2.1 x11 (.osl 7 aB.sz x26.length) v16 x1.2.2.2.2.2.1 v22 v23 x1.2.2.2.2.2.2.2.2))]⟩,
      ⟨[9,85],[2],[],[(2,.blk 105 (w46 x9.1.From x9.1.To a1 v24))]⟩,
      ⟨[98],[],[(10,.str x29)],[]⟩,
      ⟨[],[],[(11,.bool true)],[]⟩] rfl ?_ (by kernel_rfl) ?_
     ·refine .cons (lop rfl rfl fun S hA=>(bK (cs:=q16) rfl rfl (lb rfl) Tryz.underlying37 ag37 ti37 (by decide) (svaR hA rfl rfl) (agi hA rfl rfl) (nle rfl) rfl)) ?_
      refine .cons (lop rfl rfl fun S hA=>(bK (cs:=q20) rfl rfl (lb rfl) Tryz.underlying105 nN dH (by decide) (svaR hA rfl rfl) (agi hA rfl rfl) (nle rfl) rfl)) ?_
      refine .cons (lop rfl rfl fun S hA=>(aI rfl rfl (lb rfl) Tryz.underlying37 rfl ti9 (by decide) (svaR hA rfl rfl) (off':=1) rfl)) ?_
      refine .cons (lop rfl rfl fun S hA=>(aF (d:=.str _) rfl rfl (lb rfl) Tryz.underlying9 ag9 ti9 (by decide) (svaR hA rfl rfl) (agi hA rfl rfl) (nle rfl) rfl)) ?_
      refine .cons (lop rfl rfl fun S hA=>(aI rfl rfl (lb rfl) Tryz.underlying105 rfl ti3 (by decide) (svaR hA rfl rfl) (off':=0) rfl)) ?_
      refine .cons (lop rfl rfl fun S hA=>(aF (d:=.int _ _) rfl rfl (lb rfl) Tryz.underlying3 ag3 ti3 (by decide) (svaR hA rfl rfl) (agi hA rfl rfl) (nle rfl) rfl)) ?_
      refine .cons (lop rfl rfl fun S hA=>(aI rfl rfl (lb rfl) Tryz.underlying37 rfl ti3 (by decide) (svaR hA rfl rfl) (off':=0) rfl)) ?_
      refine .cons (lop rfl rfl fun S hA=>(aF (d:=.int _ _) rfl rfl (lb rfl) Tryz.underlying3 ag3 ti3 (by decide) (svaR hA rfl rfl) (agi hA rfl rfl) (nle rfl) rfl)) ?_
      refine .cons (lop rfl rfl fun S hA=>(bM rfl rfl (lb rfl) (svaI hA rfl rfl) (svaI hA rfl rfl) rfl hx27)) ?_
      refine .cons (lop rfl rfl fun S hA=>(aI rfl rfl (lb rfl) Tryz.underlying105 rfl ti3 (by decide) (svaR hA rfl rfl) (off':=1) rfl)) ?_
      refine .cons (lop rfl rfl fun S hA=>(aF (d:=.int _ _) rfl rfl (lb rfl) Tryz.underlying3 ag3 ti3 (by decide) (svaR hA rfl rfl) (agi hA rfl rfl) (nle rfl) rfl)) ?_
      refine .cons (lop rfl rfl fun S hA=>(aI rfl rfl (lb rfl) Tryz.underlying37 rfl ti3 (by decide) (svaR hA rfl rfl) (off':=0) rfl)) ?_
      refine .cons (lop rfl rfl fun S hA=>(aF (d:=.int _ _) rfl rfl (lb rfl) Tryz.underlying3 ag3 ti3 (by decide) (svaR hA rfl rfl) (agi hA rfl rfl) (nle rfl) rfl)) ?_
      refine .cons (lop rfl rfl fun S hA=>(bM rfl rfl (lb rfl) (svaI hA rfl rfl) (svaI hA rfl rfl) rfl hx28)) ?_
      refine .cons (lop rfl rfl fun S hA=>(jL rfl rfl (lb rfl) Tryz.underlying9 (sv (d:=.str _) (agr hA rfl rfl)) ⟨_,(svaI hA rfl rfl)⟩ ⟨_,(svaI hA rfl rfl)⟩ hx29)) ?_
      refine .cons (lop rfl rfl fun S hA=>(bN (ds':=q16) rfl rfl ti37 (svaR hA rfl rfl) (agi hA rfl rfl) (svaA q16 hA rfl rfl) rfl rfl rfl (nle rfl) rfl)) ?_
      refine .cons (lop rfl rfl fun S hA=>(bN (ds':=q20) rfl rfl dH (svaR hA rfl rfl) (agi hA rfl rfl) (svaA q20 hA rfl rfl) rfl rfl rfl (nle rfl) rfl)) ?_
      refine .cons (lop rfl rfl fun S hA=>(aH rfl rfl (lb rfl) (sv (d:=.str _) (agr hA rfl rfl)))) ?_
      refine .cons (lop rfl rfl fun S hA=>(aH rfl rfl (lb rfl) (sv (d:=.bool true) rfl))) ?_
      exact .nil
     refine aT ?_
     obtain rfl:=Option.some.inj h
     refine ⟨.inr rfl,_,(.cons (rva la37 rfl rfl (nle rfl) rfl) (.cons (rva qD rfl rfl (nle rfl) rfl) (.cons (sv rfl) (.cons (sv rfl) .nil)))),(.cons (.agg (.k (.k (.k (.cons (FDT aB rfl rfl) (.all _)))))) (.all _))⟩

theorem sR (a0 : aR) (a1 : Int) (a2 : Int) (a3 : Int) (r : (aR × aJ × (List UInt8) × Bool)) (h : kP a0 a1 a2 a3 = some r) : cF Tryz.prog 34 [.agg (v1 a0),.int .i64 a1,.int .i64 a2,.int .i64 a3] (retD [.agg (v1 r.1),.agg (v7 r.2.1),.str r.2.2.1,.bool r.2.2.2]):=by
 refine bA (rs:=[.agg (v1 r.1),.agg (v7 r.2.1),.str r.2.2.1,.bool r.2.2.2]) Tryz.func34 rfl Tryz.ntmps34 (nle rfl) rfl fun O hO=>?_
 show IWP _ _ _ _ ⟨[(0,.agg (v1 a0)),(1,.int .i64 a1),(2,.int .i64 a2),(3,.int .i64 a3)],[]⟩ _
 unfold kP at h
 refine aE (aA rfl (bR (cs:=q13) 0 rfl rfl (lb rfl) rfl (svA q13 rfl) rfl rfl) <|aA rfl (bD (cs:=q14) (cs':=(w41 0 0 [] 0 ([] : List aJ) ([] : List aG) false false false false 0 [] ([] : List aN) 0 0 0 0 0 0 0 0 0 0 0)) 1 rfl rfl (lb rfl) rfl ti46 rfl rfl (.k4 (.cons (.nils _) (.cons (.nils _) (.k4 (.k (.k (.cons (.nils _) (.all _))))))))) <|aA rfl (bD (cs:=q20) (cs':=(w46 0 0 0 false)) 2 rfl rfl (lb rfl) rfl dH rfl rfl (.all _)) <|aA rfl (aH rfl rfl (lb rfl) (sv (d:=.str []) rfl)) <|aA rfl (aH rfl rfl (lb rfl) (sv (d:=.bool false) rfl)) <|aD ?_)
 refine bC ?_
 obtain ⟨x1,hx1,h⟩:=aQ h
 obtain ⟨x2,hx2,h⟩:=bF h
 obtain ⟨x3,hx3,h⟩:=aQ h
 obtain ⟨x4,hx4,h⟩:=aQ h
 refine aE (aA rfl (mvI rfl rfl rfl rfl) <|aA rfl (aP rfl rfl (lb rfl) (svI rfl) (sv (d:=.int _ 0) rfl) rfl hx1) <|aA rfl (mvB rfl rfl rfl rfl) <|aC rfl rfl (.one rfl) rfl (by decide) (fun hb=>(lra q13 la46 rfl rfl rfl rfl rfl (nle rfl) rfl)) <|aC rfl rfl (.one rfl) rfl (by decide) (fun hb=>(aU (r:=.int _ _) rfl rfl (lb rfl) cl39 (.cons (svcA (v1 a0) rfl hb) .nil) rfl (eY _ _ (gd_t hx2 hb)))) <|aC rfl rfl (.one rfl) rfl (by decide) (fun hb=>(aP rfl rfl (lb rfl) (svcI rfl hb) (sv (d:=.int _ 0) rfl) rfl hx3)) <|aA rfl (cQ rfl rfl (lb rfl) (svB rfl) rfl rfl hx4) <|aD ?_)
 refine aV (b:=_) rfl (fun hc5=>?_) (fun hc5=>?_)
 ·
  replace h:=cD h hc5
  refine aE (aA rfl (lra q13 la46 rfl rfl rfl rfl rfl (nle rfl) rfl) <|aA rfl (bS (cs:=q20) rfl rfl (lb rfl) Tryz.underlying105 dH xG rfl .nil rfl) <|aA rfl (stA q13 q13 ti46 rfl rfl rfl rfl rfl rfl rfl rfl (nle rfl) rfl) <|aA rfl (stA q20 q20 dH rfl rfl rfl rfl rfl rfl rfl rfl (nle rfl) rfl) <|aA rfl (aH rfl rfl (lb rfl) (sv (d:=.str []) rfl)) <|aA rfl (aH rfl rfl (lb rfl) (sv (d:=.bool false) rfl)) <|aD ?_)
  refine aT ?_
  refine bI ?_
  obtain rfl:=Option.some.inj h
  refine ⟨.inr rfl,(.cons (rva la46 rfl rfl (nle rfl) rfl) (.cons (rva qD rfl rfl (nle rfl) rfl) (.cons (sv rfl) (.cons (sv rfl) .nil))))⟩
 ·
  replace h:=cE h hc5
  refine aY ?_
  refine aS ?_
  obtain ⟨x6,hx6,h⟩:=bF h
  obtain ⟨x7,hx7,h⟩:=bF h
  refine dD rfl [⟨[4],[],[(26,.ref 0 1)],[]⟩,
   ⟨[26],[0],[(27,.agg (v2 a0.Send))],[]⟩,
   ⟨[1],[],[(28,.int .i64 a1)],[]⟩,
   ⟨[2],[],[(29,.int .i64 a2)],[]⟩,
   ⟨[4],[0],[(30,.agg (v1 a0))],[]⟩,
   ⟨[3],[],[(31,.int .i64 a3)],[]⟩,
   ⟨[30,31],[],[(32,.int .i64 x6)],[]⟩,
   ⟨[27,28,29,32],[],[(33,.tuple [.agg (v2 x7.1),.agg (v7 x7.2.1),.str x7.2.2.1,.bool x7.2.2.2])],[]⟩,
   ⟨[33],[],[(25,.tuple [.agg (v2 x7.1),.agg (v7 x7.2.1),.str x7.2.2.1,.bool x7.2.2.2])],[]⟩,
   ⟨[25],[],[(34,.agg (v2 x7.1))],[]⟩,
   ⟨[25],[],[(35,.agg (v7 x7.2.1))],[]⟩,
   ⟨[25],[],[(36,.str x7.2.2.1)],[]⟩,
   ⟨[25],[],[(37,.bool x7.2.2.2)],[]⟩,
   ⟨[],[3],[(12,.ref 3 0)],[(3,.blk 37 (w42 0 [] 0 ([] : List aJ) ([] : List aG) false false false false))]⟩,
   ⟨[],[4],[(13,.ref 4 0)],[(4,.blk 105 (w46 0 0 0 false))]⟩,
   ⟨[12,34],[3],[],[(3,.blk 37 (v2 x7.1))]⟩,
   ⟨[13,35],[4],[],[(4,.blk 105 (v7 x7.2.1))]⟩,
   ⟨[36],[],[(14,.str x7.2.2.1)],[]⟩,
   ⟨[37],[],[(15,.bool x7.2.2.2)],[]⟩] rfl ?_ (by kernel_rfl) ?_
  ·refine .cons (lop rfl rfl fun S hA=>(aI rfl rfl (lb rfl) Tryz.underlying46 rfl ti37 (by decide) (svaR hA rfl rfl) (off':=1) rfl)) ?_
   refine .cons (lop rfl rfl fun S hA=>(bK (cs:=q15) rfl rfl (lb rfl) Tryz.underlying37 ag37 ti37 (by decide) (svaR hA rfl rfl) (agi hA rfl rfl) (nle rfl) rfl)) ?_
   refine .cons (lop rfl rfl fun S hA=>(aM rfl rfl (lb rfl) (svaI hA rfl rfl))) ?_
   refine .cons (lop rfl rfl fun S hA=>(aM rfl rfl (lb rfl) (svaI hA rfl rfl))) ?_
   refine .cons (lop rfl rfl fun S hA=>(bK (cs:=q13) rfl rfl (lb rfl) Tryz.underlying46 ag46 ti46 (by decide) (svaR hA rfl rfl) (agi hA rfl rfl) (nle rfl) rfl)) ?_
   refine .cons (lop rfl rfl fun S hA=>(aM rfl rfl (lb rfl) (svaI hA rfl rfl))) ?_
   refine .cons (lop rfl rfl fun S hA=>(aU (r:=.int _ _) rfl rfl (lb rfl) cl76 (.cons (svaA q13 hA rfl rfl) (.cons (svaI hA rfl rfl) .nil)) rfl (mA _ _ _ hx6))) ?_
   refine .cons (lop rfl rfl fun S hA=>(aU (r:=.tuple q30) rfl rfl (lb rfl) cl88 (.cons (svaA q15 hA rfl rfl) (.cons (svaI hA rfl rfl) (.cons (svaI hA rfl rfl) (.cons (svaI hA rfl rfl) .nil)))) rfl (xM _ _ _ _ _ hx7))) ?_
   refine .cons (lop rfl rfl fun S hA=>(aM rfl rfl (lb rfl) (sv (d:=.tuple q30) (agr hA rfl rfl)))) ?_
   refine .cons (lop rfl rfl fun S hA=>(aZ (d:=.agg q15) rfl rfl (lb rfl) (sv (d:=.tuple q30) (agr hA rfl rfl)) rfl)) ?_
   refine .cons (lop rfl rfl fun S hA=>(aZ (d:=.agg q20) rfl rfl (lb rfl) (sv (d:=.tuple q30) (agr hA rfl rfl)) rfl)) ?_
   refine .cons (lop rfl rfl fun S hA=>(aZ (d:=.str _) rfl rfl (lb rfl) (sv (d:=.tuple q30) (agr hA rfl rfl)) rfl)) ?_
   refine .cons (lop rfl rfl fun S hA=>(aZ (d:=.bool _) rfl rfl (lb rfl) (sv (d:=.tuple q30) (agr hA rfl rfl)) rfl)) ?_
   refine .cons (lop rfl rfl fun S hA=>(bD (cs:=q17) (cs':=(w42 0 [] 0 ([] : List aJ) ([] : List aG) false false false false)) 3 rfl rfl (lb rfl) (agi hA rfl rfl) ti37 rfl rfl (.k (.k (.k (.cons (.nils _) (.cons (.nils _) (.all _)))))))) ?_
   refine .cons (lop rfl rfl fun S hA=>(bD (cs:=q20) (cs':=(w46 0 0 0 false)) 4 rfl rfl (lb rfl) (agi hA rfl rfl) dH rfl rfl (.all _))) ?_
   refine .cons (lop rfl rfl fun S hA=>(bN (ds':=q15) rfl rfl ti37 (svaR hA rfl rfl) (agi hA rfl rfl) (svaA q15 hA rfl rfl) rfl rfl rfl (nle rfl) rfl)) ?_
   refine .cons (lop rfl rfl fun S hA=>(bN (ds':=q20) rfl rfl dH (svaR hA rfl rfl) (agi hA rfl rfl) (svaA q20 hA rfl rfl) rfl rfl rfl (nle rfl) rfl)) ?_
   refine .cons (lop rfl rfl fun S hA=>(aH rfl rfl (lb rfl) (sv (d:=.str _) (agr hA rfl rfl)))) ?_
   refine .cons (lop rfl rfl fun S hA=>(aH rfl rfl (lb rfl) (svaB hA rfl rfl))) ?_
   exact .nil
  refine aE (aA rfl (lra q15 la37 rfl rfl rfl rfl rfl (nle rfl) rfl) <|aA rfl (faR 1 rfl rfl rfl Tryz.underlying46 rfl ti37 (lb rfl) rfl rfl) <|aA rfl (stA q15 q13 ti37 rfl rfl rfl rfl rfl rfl rfl rfl (nle rfl) rfl) <|aD ?_)
  refine aE (aA rfl (faR 2 rfl rfl rfl Tryz.underlying37 rfl ti3 (lb rfl) rfl rfl) <|aA rfl (aF (d:=.int _ _) rfl rfl (lb rfl) Tryz.underlying3 ag3 ti3 (by decide) (svR rfl) rfl (nle rfl) rfl) <|aA rfl (faR 14 rfl rfl rfl Tryz.underlying46 rfl ti44 (lb rfl) rfl rfl) <|aA rfl (faR 16 rfl rfl rfl Tryz.underlying44 rfl ti3 (lb rfl) rfl rfl) <|aA rfl (bN (ds':=q13) rfl rfl ti3 (svR rfl) rfl (svI rfl) rfl rfl rfl (nle rfl) rfl) <|aD ?_)
  refine dD rfl [⟨[4],[0],[(44,.agg (w41 a0.ID x7.1.Base x7.1.Data x7.1.Next x7.1.Pieces x7.1.Lost x7.1.Closed x7.1.Sent x7.1.Again x7.1.Done a0.Recv.Recv.Base a0.Recv.Recv.Ready a0.Recv.Recv.Parts a0.Recv.End a0.Out.Window a0.Out.Limit x7.1.Next a0.Out.Read a0.In.Window a0.In.Limit a0.In.Used a0.In.Read a0.Mine a0.Hers))],[]⟩,
   ⟨[13],[4],[(45,.agg (v7 x7.2.1))],[]⟩,
   ⟨[14],[],[(46,.str x7.2.2.1)],[]⟩,
   ⟨[15],[],[(47,.bool x7.2.2.2)],[]⟩,
   ⟨[8,44],[1],[],[(1,.blk 46 (w41 a0.ID x7.1.Base x7.1.Data x7.1.Next x7.1.Pieces x7.1.Lost x7.1.Closed x7.1.Sent x7.1.Again x7.1.Done a0.Recv.Recv.Base a0.Recv.Recv.Ready a0.Recv.Recv.Parts a0.Recv.End a0.Out.Window a0.Out.Limit x7.1.Next a0.Out.Read a0.In.Window a0.In.Limit a0.In.Used a0.In.Read a0.Mine a0.Hers))]⟩,
   ⟨[9,45],[2],[],[(2,.blk 105 (v7 x7.2.1))]⟩,
   ⟨[46],[],[(10,.str x7.2.2.1)],[]⟩,
   ⟨[47],[],[(11,.bool x7.2.2.2)],[]⟩] rfl ?_ (by kernel_rfl) ?_
  ·refine .cons (lop rfl rfl fun S hA=>(bK (cs:=q13) rfl rfl (lb rfl) Tryz.underlying46 ag46 ti46 (by decide) (svaR hA rfl rfl) (agi hA rfl rfl) (nle rfl) rfl)) ?_
   refine .cons (lop rfl rfl fun S hA=>(bK (cs:=q20) rfl rfl (lb rfl) Tryz.underlying105 nN dH (by decide) (svaR hA rfl rfl) (agi hA rfl rfl) (nle rfl) rfl)) ?_
   refine .cons (lop rfl rfl fun S hA=>(aM rfl rfl (lb rfl) (sv (d:=.str _) (agr hA rfl rfl)))) ?_
   refine .cons (lop rfl rfl fun S hA=>(aM rfl rfl (lb rfl) (svaB hA rfl rfl))) ?_
   refine .cons (lop rfl rfl fun S hA=>(bN (ds':=q13) rfl rfl ti46 (svaR hA rfl rfl) (agi hA rfl rfl) (svaA q13 hA rfl rfl) rfl rfl rfl (nle rfl) rfl)) ?_
   refine .cons (lop rfl rfl fun S hA=>(bN (ds':=q20) rfl rfl dH (svaR hA rfl rfl) (agi hA rfl rfl) (svaA q20 hA rfl rfl) rfl rfl rfl (nle rfl) rfl)) ?_
   refine .cons (lop rfl rfl fun S hA=>(aH rfl rfl (lb rfl) (sv (d:=.str _) (agr hA rfl rfl)))) ?_
   refine .cons (lop rfl rfl fun S hA=>(aH rfl rfl (lb rfl) (svaB hA rfl rfl))) ?_
   exact .nil
  refine aT ?_
  obtain rfl:=Option.some.inj h
  refine ⟨.inr rfl,(.cons (rva la46 rfl rfl (nle rfl) rfl) (.cons (rva qD rfl rfl (nle rfl) rfl) (.cons (sv rfl) (.cons (sv rfl) .nil))))⟩

theorem tQ (a0 : bE) (a1 : Int) (r : (bE × Int × Bool)) (h : kX a0 a1 = some r) : cF Tryz.prog 41 [.agg (v6 a0),.int .i64 a1] (retD [.agg (v6 r.1),.int .i64 r.2.1,.bool r.2.2]):=by
 refine bA (rs:=[.agg (v6 r.1),.int .i64 r.2.1,.bool r.2.2]) Tryz.func41 rfl Tryz.ntmps41 (nle rfl) rfl fun O hO=>?_
 show IWP _ _ _ _ ⟨[(0,.agg (v6 a0)),(1,.int .i64 a1)],[]⟩ _
 unfold kX at h
 refine aE (aA rfl (bR (cs:=q18) 0 rfl rfl (lb rfl) rfl (svA q18 rfl) rfl rfl) <|aA rfl (bD (cs:=q18) (cs':=(w45 0 0 0 0)) 1 rfl rfl (lb rfl) rfl ti44 rfl rfl (.all _)) <|aA rfl (aH rfl rfl (lb rfl) (sv (d:=.int _ 0) rfl)) <|aA rfl (aH rfl rfl (lb rfl) (sv (d:=.bool false) rfl)) <|aD ?_)
 refine bC ?_
 obtain ⟨x1,hx1,h⟩:=aQ h
 obtain ⟨x2,hx2,h⟩:=aQ h
 obtain ⟨x3,hx3,h⟩:=aQ h
 obtain ⟨x4,hx4,h⟩:=bF h
 obtain ⟨x5,hx5,h⟩:=aQ h
 obtain ⟨x6,hx6,h⟩:=aQ h
 refine aE (aA rfl (mvI rfl rfl rfl rfl) <|aA rfl (aP rfl rfl (lb rfl) (svI rfl) (sv (d:=.int _ 0) rfl) rfl hx1) <|aA rfl (mvB rfl rfl rfl rfl) <|aC rfl rfl (.one rfl) rfl (by decide) (fun hb=>(mvI rfl rfl rfl rfl)) <|aC rfl rfl (.one rfl) rfl (by decide) (fun hb=>(faR 1 rfl rfl rfl Tryz.underlying44 rfl ti3 (lb rfl) rfl rfl)) <|aC rfl rfl (.one rfl) rfl (by decide) (fun hb=>(aF (d:=.int _ _) rfl rfl (lb rfl) Tryz.underlying3 ag3 ti3 (by decide) (svcR rfl hb) rfl (nle rfl) rfl)) <|aC rfl rfl (.one rfl) rfl (by decide) (fun hb=>(aP rfl rfl (lb rfl) (svcI rfl hb) (svcI rfl hb) rfl hx2)) <|aA rfl (cQ rfl rfl (lb rfl) (svB rfl) rfl rfl hx3) <|aA rfl (mvB rfl rfl rfl rfl) <|aC rfl rfl (.one rfl) rfl (by decide) (fun hb=>(lra q18 la44 rfl rfl rfl rfl rfl (nle rfl) rfl)) <|aC rfl rfl (.one rfl) rfl (by decide) (fun hb=>(aU (r:=.int _ _) rfl rfl (lb rfl) cl95 (.cons (svcA (v6 a0) rfl hb) .nil) rfl (gV _ _ (gd_t hx4 hb)))) <|aC rfl rfl (.one rfl) rfl (by decide) (fun hb=>(aP rfl rfl (lb rfl) (svcI rfl hb) (sv (d:=.int _ 0) rfl) rfl hx5)) <|aA rfl (cQ rfl rfl (lb rfl) (svB rfl) rfl rfl hx6) <|aD ?_)
 refine aV (b:=_) rfl (fun hc7=>?_) (fun hc7=>?_)
 ·
  replace h:=cD h hc7
  refine aE (aA rfl (lra q18 la44 rfl rfl rfl rfl rfl (nle rfl) rfl) <|aA rfl (stA q18 q18 ti44 rfl rfl rfl rfl rfl rfl rfl rfl (nle rfl) rfl) <|aA rfl (aH rfl rfl (lb rfl) (sv (d:=.int _ 0) rfl)) <|aA rfl (aH rfl rfl (lb rfl) (sv (d:=.bool false) rfl)) <|aD ?_)
  refine aT ?_
  refine bI ?_
  obtain rfl:=Option.some.inj h
  refine ⟨.inr rfl,(.cons (rva la44 rfl rfl (nle rfl) rfl) (.cons (sv rfl) (.cons (sv rfl) .nil)))⟩
 ·
  replace h:=cE h hc7
  refine aY ?_
  refine aS ?_
  refine aE (aA rfl (faR 2 rfl rfl rfl Tryz.underlying44 rfl ti3 (lb rfl) rfl rfl) <|aA rfl (aF (d:=.int _ _) rfl rfl (lb rfl) Tryz.underlying3 ag3 ti3 (by decide) (svR rfl) rfl (nle rfl) rfl) <|aA rfl (asI rfl rfl rfl rfl) <|aD ?_)
  obtain ⟨x8,hx8,h⟩:=aQ h
  refine aE (aA rfl (mvI rfl rfl rfl rfl) <|aA rfl (mvI rfl rfl rfl rfl) <|aA rfl (kO rfl rfl (lb rfl) (svI rfl) (svI rfl) hx8) <|aA rfl (faR 2 rfl rfl rfl Tryz.underlying44 rfl ti3 (lb rfl) rfl rfl) <|aA rfl (bN (ds':=q18) rfl rfl ti3 (svR rfl) rfl (svI rfl) rfl rfl rfl (nle rfl) rfl) <|aD ?_)
  obtain ⟨x9,hx9,h⟩:=aQ h
  refine dD rfl [⟨[2],[0],[(28,.agg (w45 a0.Window a0.Limit x8 a0.Read))],[]⟩,
   ⟨[2],[],[(29,.ref 0 2)],[]⟩,
   ⟨[29],[0],[(30,.int .i64 x8)],[]⟩,
   ⟨[7],[],[(31,.int .i64 a0.Used)],[]⟩,
   ⟨[30,31],[],[(32,.int .i64 x9)],[]⟩,
   ⟨[4,28],[1],[],[(1,.blk 44 (w45 a0.Window a0.Limit x8 a0.Read))]⟩,
   ⟨[32],[],[(5,.int .i64 x9)],[]⟩,
   ⟨[],[],[(6,.bool true)],[]⟩] rfl ?_ (by kernel_rfl) ?_
  ·refine .cons (lop rfl rfl fun S hA=>(bK (cs:=q18) rfl rfl (lb rfl) Tryz.underlying44 ag44 ti44 (by decide) (svaR hA rfl rfl) (agi hA rfl rfl) (nle rfl) rfl)) ?_
   refine .cons (lop rfl rfl fun S hA=>(aI rfl rfl (lb rfl) Tryz.underlying44 rfl ti3 (by decide) (svaR hA rfl rfl) (off':=2) rfl)) ?_
   refine .cons (lop rfl rfl fun S hA=>(aF (d:=.int _ _) rfl rfl (lb rfl) Tryz.underlying3 ag3 ti3 (by decide) (svaR hA rfl rfl) (agi hA rfl rfl) (nle rfl) rfl)) ?_
   refine .cons (lop rfl rfl fun S hA=>(aM rfl rfl (lb rfl) (svaI hA rfl rfl))) ?_
   refine .cons (lop rfl rfl fun S hA=>(bM rfl rfl (lb rfl) (svaI hA rfl rfl) (svaI hA rfl rfl) rfl hx9)) ?_
   refine .cons (lop rfl rfl fun S hA=>(bN (ds':=q18) rfl rfl ti44 (svaR hA rfl rfl) (agi hA rfl rfl) (svaA q18 hA rfl rfl) rfl rfl rfl (nle rfl) rfl)) ?_
   refine .cons (lop rfl rfl fun S hA=>(aH rfl rfl (lb rfl) (svaI hA rfl rfl))) ?_
   refine .cons (lop rfl rfl fun S hA=>(aH rfl rfl (lb rfl) (sv (d:=.bool true) rfl))) ?_
   exact .nil
  refine aT ?_
  obtain rfl:=Option.some.inj h
  refine ⟨.inr rfl,(.cons (rva la44 rfl rfl (nle rfl) rfl) (.cons (sv rfl) (.cons (sv rfl) .nil)))⟩

theorem lT (a0 : fI) (r : Bool) (h : fW a0 = some r) : cF Tryz.prog 144 [.agg (v3 a0)] (.bool r):=by
 refine bA (rs:=[.bool r]) Tryz.func144 rfl Tryz.ntmps144 (nle rfl) rfl fun O hO=>?_
 show IWP _ _ _ _ ⟨[(0,.agg (v3 a0))],[]⟩ _
 unfold fW at h
 refine aE (aA rfl (bR (cs:=q19) 0 rfl rfl (lb rfl) rfl (svA q19 rfl) rfl rfl) <|aA rfl (aH rfl rfl (lb rfl) (sv (d:=.bool false) rfl)) <|aD ?_)
 obtain ⟨x1,hx1,h⟩:=aQ h
 refine aE (aA rfl (faR 3 rfl rfl rfl Tryz.underlying173 rfl ti3 (lb rfl) rfl rfl) <|aA rfl (aF (d:=.int _ _) rfl rfl (lb rfl) Tryz.underlying3 ag3 ti3 (by decide) (svR rfl) rfl (nle rfl) rfl) <|aA rfl (aP rfl rfl (lb rfl) (svI rfl) (sv (d:=.int _ 0) rfl) rfl hx1) <|aA rfl (asB rfl rfl rfl rfl) <|aD ?_)
 refine aT ?_
 obtain rfl:=Option.some.inj h
 refine ⟨.inr rfl,(.cons (sv rfl) .nil)⟩

theorem oV (a0 : fI) (a1 : Int) (a2 : Bool) (r : Bool) (h : gK a0 a1 a2 = some r) : cF Tryz.prog 98 [.agg (v3 a0),.int .i64 a1,.bool a2] (.bool r):=by
 refine bA (rs:=[.bool r]) Tryz.func98 rfl Tryz.ntmps98 (nle rfl) rfl fun O hO=>?_
 show IWP _ _ _ _ ⟨[(0,.agg (v3 a0)),(1,.int .i64 a1),(2,.bool a2)],[]⟩ _
 unfold gK at h
 refine aE (aA rfl (bR (cs:=q19) 0 rfl rfl (lb rfl) rfl (svA q19 rfl) rfl rfl) <|aA rfl (aH rfl rfl (lb rfl) (sv (d:=.bool false) rfl)) <|aD ?_)
 refine bC ?_
 obtain ⟨x1,hx1,h⟩:=bF h
 refine aE (aA rfl (lra q19 aBZ rfl rfl rfl rfl rfl (nle rfl) rfl) <|aA rfl (aU (r:=.bool _) rfl rfl (lb rfl) cl144 (.cons (svA q19 rfl) .nil) rfl (lT _ _ hx1)) <|aD ?_)
 refine aV (b:=_) rfl (fun hc2=>?_) (fun hc2=>?_)
 ·
  replace h:=cD h hc2
  obtain ⟨x3,hx3,h⟩:=aQ h
  obtain ⟨x4,hx4,h⟩:=aQ h
  obtain ⟨x5,hx5,h⟩:=aQ h
  obtain ⟨x6,hx6,h⟩:=aQ h
  refine aE (aA rfl (mvI rfl rfl rfl rfl) <|aA rfl (faR 3 rfl rfl rfl Tryz.underlying173 rfl ti3 (lb rfl) rfl rfl) <|aA rfl (aF (d:=.int _ _) rfl rfl (lb rfl) Tryz.underlying3 ag3 ti3 (by decide) (svR rfl) rfl (nle rfl) rfl) <|aA rfl (aP rfl rfl (lb rfl) (svI rfl) (svI rfl) rfl hx3) <|aA rfl (mvB rfl rfl rfl rfl) <|aC rfl rfl (.one rfl) rfl (by decide) (fun hb=>(mvB rfl rfl rfl rfl)) <|aC rfl rfl (.one rfl) rfl (by decide) (fun hb=>(aM rfl rfl (lb rfl) (svcB rfl hb))) <|aC rfl rfl (.two rfl) rfl (by decide) (fun hb=>(mvI rfl rfl rfl rfl)) <|aC rfl rfl (.two rfl) rfl (by decide) (fun hb=>(faR 3 rfl rfl rfl Tryz.underlying173 rfl ti3 (lb rfl) rfl rfl)) <|aC rfl rfl (.two rfl) rfl (by decide) (fun hb=>(aF (d:=.int _ _) rfl rfl (lb rfl) Tryz.underlying3 ag3 ti3 (by decide) (svcR rfl hb) rfl (nle rfl) rfl)) <|aC rfl rfl (.two rfl) rfl (by decide) (fun hb=>(aP rfl rfl (lb rfl) (svcI rfl hb) (svcI rfl hb) rfl hx4)) <|aC rfl rfl (.one rfl) rfl (by decide) (fun hb=>(jH rfl rfl (lb rfl) hb (svcB rfl hb) rfl rfl hx5)) <|aA rfl (cQ rfl rfl (lb rfl) (svB rfl) rfl rfl hx6) <|aA rfl (asB rfl rfl rfl rfl) <|aD ?_)
  refine aT ?_
  refine bI ?_
  obtain rfl:=Option.some.inj h
  refine ⟨.inr rfl,(.cons (sv rfl) .nil)⟩
 ·
  replace h:=cE h hc2
  refine aY ?_
  refine aS ?_
  obtain ⟨x7,hx7,h⟩:=bF h
  obtain ⟨x8,hx8,h⟩:=aQ h
  obtain ⟨x9,hx9,h⟩:=aQ h
  refine aE (aA rfl (mvB rfl rfl rfl rfl) <|aA rfl (mvB rfl rfl rfl rfl) <|aC rfl rfl (.one rfl) rfl (by decide) (fun hb=>(mvI rfl rfl rfl rfl)) <|aC rfl rfl (.one rfl) rfl (by decide) (fun hb=>(lra q19 aBZ rfl rfl rfl rfl rfl (nle rfl) rfl)) <|aC rfl rfl (.one rfl) rfl (by decide) (fun hb=>(aU (r:=.int _ _) rfl rfl (lb rfl) cl145 (.cons (svcA (v3 a0) rfl hb) .nil) rfl (mB _ _ (gd_t hx7 hb)))) <|aC rfl rfl (.one rfl) rfl (by decide) (fun hb=>(aP rfl rfl (lb rfl) (svcI rfl hb) (svcI rfl hb) rfl hx8)) <|aA rfl (bT rfl rfl (lb rfl) (svB rfl) rfl rfl hx9) <|aA rfl (asB rfl rfl rfl rfl) <|aD ?_)
  refine aT ?_
  obtain rfl:=Option.some.inj h
  refine ⟨.inr rfl,(.cons (sv rfl) .nil)⟩

theorem fS (a0 : (List aN)) (r : (List aN)) (h : dC a0 = some r) : cF Tryz.prog 146 [.slice false (a0.map aL.d)] (.slice false (r.map aL.d)):=by
 refine bA (rs:=[.slice false (r.map aL.d)]) Tryz.func146 rfl Tryz.ntmps146 (nle rfl) rfl fun O hO=>?_
 show IWP _ _ _ _ ⟨[(0,.slice false (a0.map aL.d))],[]⟩ _
 unfold dC at h
 refine aE (aA rfl (aH rfl rfl (lb rfl) (sv (d:=.nils) rfl)) <|aD ?_)
 refine bC ?_
 refine aE (aA rfl (mvL rfl rfl rfl rfl) <|tH rfl rfl rfl (by decide) Tryz.underlying38 (svL rfl) rfl <| fun bn1 hbn1 =>
  aD ?_)
 refine aV (b:=_) rfl (fun hc2=>?_) (fun hc2=>?_)
 ·
  replace h:=yI h (mapE (hbn1 hc2))
  refine aE (aA rfl (aH rfl rfl (lb rfl) (sv (d:=.nils) rfl)) <|aD ?_)
  refine aT ?_
  refine bI ?_
  obtain rfl:=Option.some.inj h
  refine ⟨.inr rfl,(.cons (aAC rfl rfl) .nil)⟩
 ·
  replace h:=yJ h
  refine aY ?_
  refine aS ?_
  obtain ⟨x3,hx3,h⟩:=bF h
  refine aE (aA rfl (tE aL ([] : (List aN)) 0 rfl rfl (lb rfl) Tryz.underlying38 fN rfl .nil rfl rfl (by decide)) <|aA rfl (mvL rfl rfl rfl rfl) <|aA rfl (yS aL 1 rfl rfl (lb rfl) Tryz.underlying38 fN rfl rfl rfl rfl (svL rfl) hx3) <|aA rfl (aH rfl rfl (lb rfl) (sv (d:=.gsl _ _ _) rfl)) <|aD ?_)
  refine aT ?_
  obtain rfl:=Option.some.inj h
  refine ⟨.inr rfl,(.cons (aB2 rfl rfl) .nil)⟩

theorem rG (a0 : bJ) (r : Int) (h : mS a0 = some r) : cF Tryz.prog 148 [.agg (v5 a0)] (.int .i64 r):=by
 refine bA (rs:=[.int .i64 r]) Tryz.func148 rfl Tryz.ntmps148 (nle rfl) rfl fun O hO=>?_
 show IWP _ _ _ _ ⟨[(0,.agg (v5 a0))],[]⟩ _
 unfold mS at h
 refine aE (aA rfl (bR (cs:=q23) 0 rfl rfl (lb rfl) rfl (svA q23 rfl) rfl rfl) <|aA rfl (aH rfl rfl (lb rfl) (sv (d:=.int _ 0) rfl)) <|aD ?_)
 refine aE (aA rfl (faR 1 rfl rfl rfl Tryz.underlying40 rfl ti9 (lb rfl) rfl rfl) <|aA rfl (aF (d:=.str _) rfl rfl (lb rfl) Tryz.underlying9 ag9 ti9 (by decide) (svR rfl) rfl (nle rfl) rfl) <|aA rfl (cT rfl rfl (lb rfl) Tryz.underlying9 (sv (d:=.str _) rfl) rfl) <|aA rfl (asI rfl rfl rfl rfl) <|aD ?_)
 refine bC ?_
 refine aE (aA rfl (faR 2 rfl rfl rfl Tryz.underlying40 rfl ti38 (lb rfl) rfl rfl) <|aA rfl (lrL la38 rfl rfl rfl rfl rfl (nle rfl) rfl) <|aA rfl (dL aL (l:=a0.Parts) rfl rfl (lb rfl) Tryz.underlying38 (svL rfl)) <|aA rfl (aM rfl rfl (lb rfl) (sv (d:=.int _ 0) rfl)) <|aD ?_)
 refine bZ ?_
 refine dW (α:=Nat × Int × Int) (fun z=>⟨[(3,.int .i64 z.2.1),(10,.slice false (a0.Parts.map aL.d)),(11,.int .i64 (a0.Parts.length : Int)),(12,.int .i64 z.2.2)],[]⟩) (fun z=>gJ a0 z.1 z.2.1 z.2.2 = some r) (fun z=>z.1) (fuel,(a0.Ready.length : Int),0) (fun i=>i) ⟨(.sames rfl rfl),.nil,cK [] rfl (by decide),fun _ _=>rfl⟩ ?_ ?_
 ·exact h
 ·
  rintro ⟨n0,v6,v7⟩ h
  cases n0 with
  | zero=>exact absurd h (by unfold gJ; exact nofun)
  | succ n0 =>
   unfold gJ at h
   obtain ⟨x13,hx13,h⟩:=aQ h
   refine aE (aA rfl (aP rfl rfl (lb rfl) (svI rfl) (svI rfl) rfl hx13) <|aD ?_)
   refine bC ?_
   refine aV (b:=_) rfl (fun hc14=>?_) (fun hc14=>?_)
   ·
    replace h:=cD h hc14
    refine aY ?_
    refine aS ?_
    refine bC ?_
    refine bZ ?_
    obtain ⟨x15,hx15,h⟩:=bF h
    refine aE (aA rfl (dY aL (cs:=q29) rfl rfl (lb rfl) Tryz.underlying38 fN (svL rfl) (svI rfl) hx15 rfl rfl) <|aA rfl (dE (cs:=q29) rfl rfl (lb rfl) Tryz.underlying228 qN fN (by decide) (sv (d:=.fptr q29) rfl) (nle rfl) rfl) <|aA rfl (bD (cs:=q29) (cs':=[.int .i64 0,.str []]) 0 rfl rfl (lb rfl) rfl fN rfl rfl (.all _)) <|aA rfl (stA q29 q29 fN rfl rfl rfl rfl rfl rfl rfl rfl (nle rfl) rfl) <|aD ?_)
    obtain ⟨x16,hx16,h⟩:=aQ h
    refine bO (aA rfl (mvI rfl rfl rfl rfl) <|aA rfl (faR 1 rfl rfl rfl Tryz.underlying228 rfl ti9 (lb rfl) rfl rfl) <|aA rfl (aF (d:=.str _) rfl rfl (lb rfl) Tryz.underlying9 ag9 ti9 (by decide) (svR rfl) rfl (nle rfl) rfl) <|aA rfl (cT rfl rfl (lb rfl) Tryz.underlying9 (sv (d:=.str _) rfl) rfl) <|aA rfl (bM rfl rfl (lb rfl) (svI rfl) (svI rfl) rfl hx16) <|aA rfl (asI rfl rfl rfl rfl) <|cL ?_)
    refine cO ?_
    refine aS ?_
    obtain ⟨x17,hx17,h⟩:=aQ h
    refine bO (aA rfl (bM rfl rfl (lb rfl) (svI rfl) (sv (d:=.int _ 1) rfl) rfl hx17) <|aA rfl (mvI rfl rfl rfl rfl) <|cL ?_)
    refine aS ⟨(n0,x16,x17),(fun i=>i),⟨(.sames rfl rfl),.nil,cK [] rfl (by decide),fun _ _=>rfl⟩,?_,?_⟩
    exact h
    exact Nat.lt_succ_self _
   ·
    replace h:=cE h hc14
    refine eE ?_
    refine cU ?_
    refine cU ?_
    refine eG ?_
    refine aS ?_
    refine aE (aA rfl (mvI rfl rfl rfl rfl) <|aA rfl (asI rfl rfl rfl rfl) <|aD ?_)
    refine aT ?_
    obtain rfl:=Option.some.inj h
    refine ⟨.inr rfl,(.cons (sv rfl) .nil)⟩

theorem tP (a0 : (List aN)) (a1 : aN) (r : (List aN)) (h : kR a0 a1 = some r) : FnH Tryz.prog 149 [.slice false (a0.map aL.d), .agg [.int .i64 a1.At, .str a1.Data]] [] (.osl 0 aL.sz r.length) [(0, .blk 228 (D.flat (r.map aL.d)))] := by
 refine fE (rs:=[.osl 0 aL.sz r.length]) Tryz.func149 rfl Tryz.ntmps149 (nle rfl) fun O hO=>?_
 show IWP _ _ _ _ ⟨[(0,.slice false (a0.map aL.d)),(1,.agg [.int .i64 a1.At,.str a1.Data])],[]⟩ _
 unfold kR at h
 refine aE (aA rfl (bR (cs:=q29) 0 rfl rfl (lb rfl) rfl (svA q29 rfl) rfl rfl) <|aA rfl (aH rfl rfl (lb rfl) (sv (d:=.nils) rfl)) <|aD ?_)
 refine aAa ?_
 refine aE (aA rfl (aH rfl rfl (lb rfl) (sv (d:=.nils) rfl)) <|aD ?_)
 refine aE (aA rfl (aH rfl rfl (lb rfl) (sv (d:=.int _ 0) rfl)) <|aD ?_)
 refine bC ?_
 refine bZ ?_
 refine dW (α:=Nat × (List aN) × Int) (fun z=>⟨[(0,.slice false (a0.map aL.d)),(3,.ref 0 0),(5,.osl 22 aL.sz z.2.1.length),(6,.int .i64 z.2.2)],[(0,.blk 228 [.int .i64 a1.At,.str a1.Data]),(22,.blk 228 (D.flat (z.2.1.map aL.d)))]⟩) (fun z=>fJ a0 a1 z.1 z.2.1 z.2.2 = some r) (fun z=>z.1) (fuel,([] : (List aN)),0) (fun i=>if i = 22 then 73 else i) ⟨(.s rfl rfl (.s rfl rfl (.cons (.nilo rfl) (.sames rfl rfl)))),(.cons (.blk rfl rfl rfl) (.cons (.nilb rfl) .nil)),cK [0,73] rfl (by decide),(fun i hi=>by first | rfl | (show (if _ then _ else _) = _; (repeat' split) <;> omega))⟩ ?_ ?_
 ·exact h
 ·
  rintro ⟨n0,v10,v11⟩ h
  cases n0 with
  | zero=>exact absurd h (by unfold fJ; exact nofun)
  | succ n0 =>
   unfold fJ at h
   refine bC ?_
   obtain ⟨x21,hx21,h⟩:=aQ h
   obtain ⟨x22,hx22,h⟩:=bF h
   obtain ⟨x23,hx23,h⟩:=bF h
   obtain ⟨x24,hx24,h⟩:=aQ h
   obtain ⟨x25,hx25,h⟩:=aQ h
   refine dD rfl [⟨[6],[],[(8,.int .i64 v11)],[]⟩,
    ⟨[0],[],[(9,.slice false (a0.map aL.d))],[]⟩,
    ⟨[9],[],[(10,.int .i64 (a0.length : Int))],[]⟩,
    ⟨[8,10],[],[(11,.bool x21)],[]⟩,
    ⟨[11],[],[(12,.bool x21)],[]⟩,
    ⟨[0,12],[],[(13,.cnd (x21 == true) (.slice false (a0.map aL.d)))],[]⟩,
    ⟨[6,12],[],[(14,.cnd (x21 == true) (.int .i64 v11))],[]⟩,
    ⟨[12,13,14],[],[(15,.cnd (x21 == true) (.fptr [.int .i64 x22.At,.str x22.Data]))],[]⟩,
    ⟨[12,15],[],[(16,.cnd (x21 == true) (.agg [.int .i64 x22.At,.str x22.Data]))],[]⟩,
    ⟨[12,16],[],[(17,.cnd (x21 == true) (.int .i64 x23))],[]⟩,
    ⟨[3,12],[],[(18,.cnd (x21 == true) (.ref 0 0))],[]⟩,
    ⟨[12,18],[0],[(19,.cnd (x21 == true) (.int .i64 a1.At))],[]⟩,
    ⟨[12,17,19],[],[(20,.cnd (x21 == true) (.bool x24))],[]⟩,
    ⟨[12,20],[],[(21,.bool x25)],[]⟩] rfl ?_ (by kernel_rfl) ?_
   ·refine .cons (lop rfl rfl fun S hA=>(aM rfl rfl (lb rfl) (svaI hA rfl rfl))) ?_
    refine .cons (lop rfl rfl fun S hA=>(aM rfl rfl (lb rfl) (svaL hA rfl rfl))) ?_
    refine .cons (lop rfl rfl fun S hA=>(dL aL (l:=a0) rfl rfl (lb rfl) Tryz.underlying38 (svaL hA rfl rfl))) ?_
    refine .cons (lop rfl rfl fun S hA=>(aP rfl rfl (lb rfl) (svaI hA rfl rfl) (svaI hA rfl rfl) rfl hx21)) ?_
    refine .cons (lop rfl rfl fun S hA=>(aM rfl rfl (lb rfl) (svaB hA rfl rfl))) ?_
    refine .cons (lopg rfl rfl rfl rfl (by decide) (fun S hA=>grd1 hA rfl rfl) (fun S hA hb=>(aM rfl rfl (lb rfl) (svaL hA rfl rfl)))) ?_
    refine .cons (lopg rfl rfl rfl rfl (by decide) (fun S hA=>grd1 hA rfl rfl) (fun S hA hb=>(aM rfl rfl (lb rfl) (svaI hA rfl rfl)))) ?_
    refine .cons (lopg rfl rfl rfl rfl (by decide) (fun S hA=>grd1 hA rfl rfl) (fun S hA hb=>(dY aL (cs:=q29) rfl rfl (lb rfl) Tryz.underlying38 fN (svc (d:=.slice _ _) (agr hA rfl rfl) hb) (svc (d:=.int _ _) (agr hA rfl rfl) hb) (gd_t hx22 hb) rfl rfl))) ?_
    refine .cons (lopg rfl rfl rfl rfl (by decide) (fun S hA=>grd1 hA rfl rfl) (fun S hA hb=>(dE (cs:=q29) rfl rfl (lb rfl) Tryz.underlying228 qN fN (by decide) (svc (d:=.fptr q29) (agr hA rfl rfl) hb) (nle rfl) rfl))) ?_
    refine .cons (lopg rfl rfl rfl rfl (by decide) (fun S hA=>grd1 hA rfl rfl) (fun S hA hb=>(aU (r:=.int _ _) rfl rfl (lb rfl) zY (.cons (svc (d:=.agg [.int .i64 x22.At,.str x22.Data]) (agr hA rfl rfl) hb) .nil) rfl (gE _ _ (gd_t hx23 hb))))) ?_
    refine .cons (lopg rfl rfl rfl rfl (by decide) (fun S hA=>grd1 hA rfl rfl) (fun S hA hb=>(aI rfl rfl (lb rfl) Tryz.underlying228 rfl ti3 (by decide) (svaR hA rfl rfl) (off':=0) rfl))) ?_
    refine .cons (lopg rfl rfl rfl rfl (by decide) (fun S hA=>grd1 hA rfl rfl) (fun S hA hb=>(aF (d:=.int _ _) rfl rfl (lb rfl) Tryz.underlying3 ag3 ti3 (by decide) (svc (d:=.ref _ _) (agr hA rfl rfl) hb) (agi hA rfl rfl) (nle rfl) rfl))) ?_
    refine .cons (lopg rfl rfl rfl rfl (by decide) (fun S hA=>grd1 hA rfl rfl) (fun S hA hb=>(aP rfl rfl (lb rfl) (svc (d:=.int _ _) (agr hA rfl rfl) hb) (svc (d:=.int _ _) (agr hA rfl rfl) hb) rfl hx24))) ?_
    refine .cons (lop rfl rfl fun S hA=>(bT rfl rfl (lb rfl) (svaB hA rfl rfl) (agr hA rfl rfl) rfl hx25)) ?_
    exact .nil
   refine aV (b:=_) rfl (fun hc26=>?_) (fun hc26=>?_)
   ·
    replace h:=cD h hc26
    refine aY ?_
    refine aS ?_
    refine bC ?_
    refine bZ ?_
    obtain ⟨x27,hx27,h⟩:=bF h
    obtain ⟨x28,hx28,h⟩:=bF h
    refine bO (aA rfl (aM rfl rfl (lb rfl) (sv (d:=.osl _ _ _) rfl)) <|aA rfl (mvL rfl rfl rfl rfl) <|aA rfl (mvI rfl rfl rfl rfl) <|aA rfl (dY aL (cs:=q29) rfl rfl (lb rfl) Tryz.underlying38 fN (svL rfl) (svI rfl) hx27 rfl rfl) <|aA rfl (dE (cs:=q29) rfl rfl (lb rfl) Tryz.underlying228 qN fN (by decide) (sv (d:=.fptr q29) rfl) (nle rfl) rfl) <|aA rfl (pK aL.toEnc0 ([x27] : (List aN)) 23 rfl rfl (lb rfl) Tryz.underlying38 fN rfl (.cons (svA q29 rfl) .nil) rfl rfl (by decide)) <|aA rfl (mE aL.toEnc0 24 rfl rfl (lb rfl) Tryz.underlying38 fN rfl rfl rfl rfl rfl (zF aL.toEnc0 rfl rfl rfl) hx28) <|aA rfl (aH rfl rfl (lb rfl) (sv (d:=.osl _ _ _) rfl)) <|cL ?_)
    refine cO ?_
    refine aS ?_
    obtain ⟨x29,hx29,h⟩:=aQ h
    refine bO (aA rfl (mvI rfl rfl rfl rfl) <|aA rfl (bM rfl rfl (lb rfl) (svI rfl) (sv (d:=.int _ 1) rfl) rfl hx29) <|aA rfl (asI rfl rfl rfl rfl) <|cL ?_)
    refine aS ⟨(n0,x28,x29),(fun i=>if i = 22 then 24 else i),⟨(.sames rfl rfl),(.cons (.blk rfl rfl rfl) (.cons (EntW.lst rfl) .nil)),cK [0,24] rfl (by decide),(fun i hi=>by first | rfl | (show (if _ then _ else _) = _; (repeat' split) <;> omega))⟩,?_,?_⟩
    exact h
    exact Nat.lt_succ_self _
   ·
    replace h:=cE h hc26
    refine eE ?_
    refine cU ?_
    refine cU ?_
    refine eG ?_
    refine aS ?_
    refine bC ?_
    refine aAc ?_
    refine aS ?_
    refine kN (α:=Int × Int × (List UInt8)) (fun z=>⟨[(0,.slice false (a0.map aL.d)),(3,.ref 0 0),(5,.osl 22 aL.sz v10.length),(6,.int .i64 z.1)],[(0,.blk 228 [.int .i64 z.2.1,.str z.2.2]),(22,.blk 228 (D.flat (v10.map aL.d)))]⟩) (fun z=>hM a0 v10 z.1 z.2.1 z.2.2 = some r) ?_ ?_
    ·
     refine bZ ?_
     refine dW (α:=Nat × Int × Int × (List UInt8)) (fun z=>⟨[(0,.slice false (a0.map aL.d)),(3,.ref 0 0),(5,.osl 22 aL.sz v10.length),(6,.int .i64 z.2.1)],[(0,.blk 228 [.int .i64 z.2.2.1,.str z.2.2.2]),(22,.blk 228 (D.flat (v10.map aL.d)))]⟩) (fun z=>eM a0 v10 z.1 z.2.1 z.2.2.1 z.2.2.2 = some r) (fun z=>z.1) (fuel,v11,a1.At,a1.Data) (fun i=>i) ⟨(.sames rfl rfl),(.cons (.blk rfl rfl rfl) (.cons (EntW.lst rfl) .nil)),cK [0,22] rfl (by decide),fun _ _=>rfl⟩ ?_ ?_
     ·exact h
     ·
      rintro ⟨n3,v131,v132,v133⟩ h
      cases n3 with
      | zero=>exact absurd h (by unfold eM; exact nofun)
      | succ n3 =>
       unfold eM at h
       refine bC ?_
       obtain ⟨x157,hx157,h⟩:=aQ h
       refine aE (aA rfl (mvI rfl rfl rfl rfl) <|aA rfl (mvL rfl rfl rfl rfl) <|aA rfl (dL aL (l:=a0) rfl rfl (lb rfl) Tryz.underlying38 (svL rfl)) <|aA rfl (aP rfl rfl (lb rfl) (svI rfl) (svI rfl) rfl hx157) <|aD ?_)
       refine aV (b:=_) rfl (fun hc158=>?_) (fun hc158=>?_)
       ·
        replace h:=cD h hc158
        refine aY ?_
        refine aS ?_
        refine bC ?_
        refine bZ ?_
        obtain ⟨x159,hx159,h⟩:=bF h
        refine aE (aA rfl (mvL rfl rfl rfl rfl) <|aA rfl (mvI rfl rfl rfl rfl) <|aA rfl (dY aL (cs:=q29) rfl rfl (lb rfl) Tryz.underlying38 fN (svL rfl) (svI rfl) hx159 rfl rfl) <|aA rfl (dE (cs:=q29) rfl rfl (lb rfl) Tryz.underlying228 qN fN (by decide) (sv (d:=.fptr q29) rfl) (nle rfl) rfl) <|aA rfl (bD (cs:=q29) (cs':=[.int .i64 0,.str []]) 23 rfl rfl (lb rfl) rfl fN rfl rfl (.all _)) <|aA rfl (stA q29 q29 fN rfl rfl rfl rfl rfl rfl rfl rfl (nle rfl) rfl) <|aD ?_)
        refine bZ ?_
        obtain ⟨x160,hx160,h⟩:=bF h
        obtain ⟨x161,hx161,h⟩:=aQ h
        refine dD rfl [⟨[7],[],[(67,.ref 23 0)],[]⟩,
         ⟨[67],[23],[(68,.int .i64 x159.At)],[]⟩,
         ⟨[3],[0],[(69,.agg [.int .i64 v132,.str v133])],[]⟩,
         ⟨[69],[],[(70,.int .i64 x160)],[]⟩,
         ⟨[68,70],[],[(71,.bool x161)],[]⟩,
         ⟨[71],[],[(66,.bool x161)],[]⟩] rfl ?_ (by kernel_rfl) ?_
        ·refine .cons (lop rfl rfl fun S hA=>(aI rfl rfl (lb rfl) Tryz.underlying228 rfl ti3 (by decide) (svaR hA rfl rfl) (off':=0) rfl)) ?_
         refine .cons (lop rfl rfl fun S hA=>(aF (d:=.int _ _) rfl rfl (lb rfl) Tryz.underlying3 ag3 ti3 (by decide) (svaR hA rfl rfl) (agi hA rfl rfl) (nle rfl) rfl)) ?_
         refine .cons (lop rfl rfl fun S hA=>(bK (cs:=q29) rfl rfl (lb rfl) Tryz.underlying228 qN fN (by decide) (svaR hA rfl rfl) (agi hA rfl rfl) (nle rfl) rfl)) ?_
         refine .cons (lop rfl rfl fun S hA=>(aU (r:=.int _ _) rfl rfl (lb rfl) zY (.cons (svaA q29 hA rfl rfl) .nil) rfl (gE _ _ hx160))) ?_
         refine .cons (lop rfl rfl fun S hA=>(aP rfl rfl (lb rfl) (svaI hA rfl rfl) (svaI hA rfl rfl) rfl hx161)) ?_
         refine .cons (lop rfl rfl fun S hA=>(aH rfl rfl (lb rfl) (svaB hA rfl rfl))) ?_
         exact .nil
        refine aV (b:=_) rfl (fun hc162=>?_) (fun hc162=>?_)
        ·
         replace h:=cD h hc162
         refine eE ?_
         refine zA rfl ?_
         refine zA rfl ?_
         refine cU ?_
         refine cU ?_
         refine eG ?_
         refine aS ⟨(v131,v132,v133),(fun i=>i),⟨(.sames rfl rfl),(.cons (.blk rfl rfl rfl) (.cons (EntW.lst rfl) .nil)),cK [0,22] rfl (by decide),fun _ _=>rfl⟩,?_⟩
         exact h
        ·
         replace h:=cE h hc162
         obtain ⟨x163,hx163,h⟩:=aQ h
         refine aE (aA rfl (faR 0 rfl rfl rfl Tryz.underlying228 rfl ti3 (lb rfl) rfl rfl) <|aA rfl (aF (d:=.int _ _) rfl rfl (lb rfl) Tryz.underlying3 ag3 ti3 (by decide) (svR rfl) rfl (nle rfl) rfl) <|aA rfl (faR 0 rfl rfl rfl Tryz.underlying228 rfl ti3 (lb rfl) rfl rfl) <|aA rfl (aF (d:=.int _ _) rfl rfl (lb rfl) Tryz.underlying3 ag3 ti3 (by decide) (svR rfl) rfl (nle rfl) rfl) <|aA rfl (aP rfl rfl (lb rfl) (svI rfl) (svI rfl) rfl hx163) <|aA rfl (asB rfl rfl rfl rfl) <|aD ?_)
         refine aV (b:=_) rfl (fun hc164=>?_) (fun hc164=>?_)
         ·
          replace h:=cD h hc164
          obtain ⟨x165,hx165,h⟩:=bF h
          obtain ⟨x166,hx166,h⟩:=aQ h
          obtain ⟨x167,hx167,h⟩:=aQ h
          obtain ⟨x168,hx168,h⟩:=bF h
          obtain ⟨x169,hx169,h⟩:=bF h
          refine lF rfl [⟨[7],[],[(78,.ref 23 0)],[]⟩,
           ⟨[78],[23],[(79,.int .i64 x159.At)],[]⟩,
           ⟨[7],[],[(80,.ref 23 1)],[]⟩,
           ⟨[80],[23],[(81,.str x159.Data)],[]⟩,
           ⟨[3],[],[(82,.ref 0 1)],[]⟩,
           ⟨[82],[0],[(83,.str v133)],[]⟩,
           ⟨[3],[],[(84,.ref 0 1)],[]⟩,
           ⟨[84],[0],[(85,.str v133)],[]⟩,
           ⟨[85],[],[(86,.int .i64 (v133.length : Int))],[]⟩,
           ⟨[7],[23],[(87,.agg [.int .i64 x159.At,.str x159.Data])],[]⟩,
           ⟨[87],[],[(88,.int .i64 x165)],[]⟩,
           ⟨[3],[],[(89,.ref 0 0)],[]⟩,
           ⟨[89],[0],[(90,.int .i64 v132)],[]⟩,
           ⟨[88,90],[],[(91,.int .i64 x166)],[]⟩,
           ⟨[86,91],[],[(92,.int .i64 x167)],[]⟩,
           ⟨[83,92],[],[(93,.str x168)],[]⟩,
           ⟨[81,93],[],[(94,.str x169)],[]⟩,
           ⟨[79,94],[],[(95,.agg [.int .i64 x159.At,.str x169])],[]⟩,
           ⟨[3,95],[0],[],[(0,.blk 228 [.int .i64 x159.At,.str x169])]⟩] rfl ?_ (by kernel_rfl) ?_
          ·refine .cons (lop rfl rfl fun S hA=>(aI rfl rfl (lb rfl) Tryz.underlying228 rfl ti3 (by decide) (svaR hA rfl rfl) (off':=0) rfl)) ?_
           refine .cons (lop rfl rfl fun S hA=>(aF (d:=.int _ _) rfl rfl (lb rfl) Tryz.underlying3 ag3 ti3 (by decide) (svaR hA rfl rfl) (agi hA rfl rfl) (nle rfl) rfl)) ?_
           refine .cons (lop rfl rfl fun S hA=>(aI rfl rfl (lb rfl) Tryz.underlying228 rfl ti9 (by decide) (svaR hA rfl rfl) (off':=1) rfl)) ?_
           refine .cons (lop rfl rfl fun S hA=>(aF (d:=.str _) rfl rfl (lb rfl) Tryz.underlying9 ag9 ti9 (by decide) (svaR hA rfl rfl) (agi hA rfl rfl) (nle rfl) rfl)) ?_
           refine .cons (lop rfl rfl fun S hA=>(aI rfl rfl (lb rfl) Tryz.underlying228 rfl ti9 (by decide) (svaR hA rfl rfl) (off':=1) rfl)) ?_
           refine .cons (lop rfl rfl fun S hA=>(aF (d:=.str _) rfl rfl (lb rfl) Tryz.underlying9 ag9 ti9 (by decide) (svaR hA rfl rfl) (agi hA rfl rfl) (nle rfl) rfl)) ?_
           refine .cons (lop rfl rfl fun S hA=>(aI rfl rfl (lb rfl) Tryz.underlying228 rfl ti9 (by decide) (svaR hA rfl rfl) (off':=1) rfl)) ?_
           refine .cons (lop rfl rfl fun S hA=>(aF (d:=.str _) rfl rfl (lb rfl) Tryz.underlying9 ag9 ti9 (by decide) (svaR hA rfl rfl) (agi hA rfl rfl) (nle rfl) rfl)) ?_
           refine .cons (lop rfl rfl fun S hA=>(cT rfl rfl (lb rfl) Tryz.underlying9 (sv (d:=.str _) (agr hA rfl rfl)) rfl)) ?_
           refine .cons (lop rfl rfl fun S hA=>(bK (cs:=q29) rfl rfl (lb rfl) Tryz.underlying228 qN fN (by decide) (svaR hA rfl rfl) (agi hA rfl rfl) (nle rfl) rfl)) ?_
           refine .cons (lop rfl rfl fun S hA=>(aU (r:=.int _ _) rfl rfl (lb rfl) zY (.cons (svaA q29 hA rfl rfl) .nil) rfl (gE _ _ hx165))) ?_
           refine .cons (lop rfl rfl fun S hA=>(aI rfl rfl (lb rfl) Tryz.underlying228 rfl ti3 (by decide) (svaR hA rfl rfl) (off':=0) rfl)) ?_
           refine .cons (lop rfl rfl fun S hA=>(aF (d:=.int _ _) rfl rfl (lb rfl) Tryz.underlying3 ag3 ti3 (by decide) (svaR hA rfl rfl) (agi hA rfl rfl) (nle rfl) rfl)) ?_
           refine .cons (lop rfl rfl fun S hA=>(bM rfl rfl (lb rfl) (svaI hA rfl rfl) (svaI hA rfl rfl) rfl hx166)) ?_
           refine .cons (lop rfl rfl fun S hA=>(jD rfl rfl (lb rfl) (svaI hA rfl rfl) (svaI hA rfl rfl) hx167)) ?_
           refine .cons (lop rfl rfl fun S hA=>(jL rfl rfl (lb rfl) Tryz.underlying9 (sv (d:=.str _) (agr hA rfl rfl)) ⟨_,(svaI hA rfl rfl)⟩ rfl hx168)) ?_
           refine .cons (lop rfl rfl fun S hA=>(nM rfl rfl (lb rfl) (sv (d:=.str _) (agr hA rfl rfl)) (sv (d:=.str _) (agr hA rfl rfl)) hx169)) ?_
           refine .cons (lop rfl rfl fun S hA=>(bS (cs:=q29) rfl rfl (lb rfl) Tryz.underlying228 fN pl228 rfl (.cons (svaI hA rfl rfl) (.cons (sv (d:=.str _) (agr hA rfl rfl)) .nil)) rfl)) ?_
           refine .cons (lop rfl rfl fun S hA=>(bN (ds':=q29) rfl rfl fN (svaR hA rfl rfl) (agi hA rfl rfl) (svaA q29 hA rfl rfl) rfl rfl rfl (nle rfl) rfl)) ?_
           exact .nil
          refine cO ?_
          refine cO ?_
          refine aS ?_
          obtain ⟨x170,hx170,h⟩:=aQ h
          refine bO (aA rfl (mvI rfl rfl rfl rfl) <|aA rfl (bM rfl rfl (lb rfl) (svI rfl) (sv (d:=.int _ 1) rfl) rfl hx170) <|aA rfl (asI rfl rfl rfl rfl) <|cL ?_)
          refine aS ⟨(n3,x170,x159.At,x169),(fun i=>i),⟨(.sames rfl rfl),(.cons (.blk rfl rfl rfl) (.cons (EntW.lst rfl) .nil)),cK [0,22] rfl (by decide),fun _ _=>rfl⟩,?_,?_⟩
          exact h
          exact Nat.lt_succ_self _
         ·
          replace h:=cE h hc164
          obtain ⟨x171,hx171,h⟩:=aQ h
          obtain ⟨x172,hx172,h⟩:=bF h
          obtain ⟨x173,hx173,h⟩:=bF h
          obtain ⟨x174,hx174,h⟩:=bF h
          obtain ⟨x175,hx175,h⟩:=aQ h
          obtain ⟨x176,hx176,h⟩:=aQ h
          obtain ⟨x177,hx177,h⟩:=bF h
          obtain ⟨x178,hx178,h⟩:=bF h
          refine lF rfl [⟨[3],[],[(41,.ref 0 1)],[]⟩,
           ⟨[41],[0],[(42,.str v133)],[]⟩,
           ⟨[7],[],[(43,.ref 23 0)],[]⟩,
           ⟨[43],[23],[(44,.int .i64 x159.At)],[]⟩,
           ⟨[3],[],[(45,.ref 0 0)],[]⟩,
           ⟨[45],[0],[(46,.int .i64 v132)],[]⟩,
           ⟨[44,46],[],[(47,.int .i64 x171)],[]⟩,
           ⟨[42,47],[],[(48,.str x172)],[]⟩,
           ⟨[7],[],[(49,.ref 23 1)],[]⟩,
           ⟨[49],[23],[(50,.str x159.Data)],[]⟩,
           ⟨[48,50],[],[(51,.str x173)],[]⟩,
           ⟨[3],[],[(52,.ref 0 1)],[]⟩,
           ⟨[52],[0],[(53,.str v133)],[]⟩,
           ⟨[3],[],[(54,.ref 0 1)],[]⟩,
           ⟨[54],[0],[(55,.str v133)],[]⟩,
           ⟨[55],[],[(56,.int .i64 (v133.length : Int))],[]⟩,
           ⟨[7],[23],[(57,.agg [.int .i64 x159.At,.str x159.Data])],[]⟩,
           ⟨[57],[],[(58,.int .i64 x174)],[]⟩,
           ⟨[3],[],[(59,.ref 0 0)],[]⟩,
           ⟨[59],[0],[(60,.int .i64 v132)],[]⟩,
           ⟨[58,60],[],[(61,.int .i64 x175)],[]⟩,
           ⟨[56,61],[],[(62,.int .i64 x176)],[]⟩,
           ⟨[53,62],[],[(63,.str x177)],[]⟩,
           ⟨[51,63],[],[(64,.str x178)],[]⟩,
           ⟨[3],[],[(65,.ref 0 1)],[]⟩,
           ⟨[64,65],[0],[],[(0,.blk 228 [.int .i64 v132,.str x178])]⟩] rfl ?_ (by kernel_rfl) ?_
          ·refine .cons (lop rfl rfl fun S hA=>(aI rfl rfl (lb rfl) Tryz.underlying228 rfl ti9 (by decide) (svaR hA rfl rfl) (off':=1) rfl)) ?_
           refine .cons (lop rfl rfl fun S hA=>(aF (d:=.str _) rfl rfl (lb rfl) Tryz.underlying9 ag9 ti9 (by decide) (svaR hA rfl rfl) (agi hA rfl rfl) (nle rfl) rfl)) ?_
           refine .cons (lop rfl rfl fun S hA=>(aI rfl rfl (lb rfl) Tryz.underlying228 rfl ti3 (by decide) (svaR hA rfl rfl) (off':=0) rfl)) ?_
           refine .cons (lop rfl rfl fun S hA=>(aF (d:=.int _ _) rfl rfl (lb rfl) Tryz.underlying3 ag3 ti3 (by decide) (svaR hA rfl rfl) (agi hA rfl rfl) (nle rfl) rfl)) ?_
           refine .cons (lop rfl rfl fun S hA=>(aI rfl rfl (lb rfl) Tryz.underlying228 rfl ti3 (by decide) (svaR hA rfl rfl) (off':=0) rfl)) ?_
           refine .cons (lop rfl rfl fun S hA=>(aF (d:=.int _ _) rfl rfl (lb rfl) Tryz.underlying3 ag3 ti3 (by decide) (svaR hA rfl rfl) (agi hA rfl rfl) (nle rfl) rfl)) ?_
           refine .cons (lop rfl rfl fun S hA=>(bM rfl rfl (lb rfl) (svaI hA rfl rfl) (svaI hA rfl rfl) rfl hx171)) ?_
           refine .cons (lop rfl rfl fun S hA=>(jL rfl rfl (lb rfl) Tryz.underlying9 (sv (d:=.str _) (agr hA rfl rfl)) rfl ⟨_,(svaI hA rfl rfl)⟩ hx172)) ?_
           refine .cons (lop rfl rfl fun S hA=>(aI rfl rfl (lb rfl) Tryz.underlying228 rfl ti9 (by decide) (svaR hA rfl rfl) (off':=1) rfl)) ?_
           refine .cons (lop rfl rfl fun S hA=>(aF (d:=.str _) rfl rfl (lb rfl) Tryz.underlying9 ag9 ti9 (by decide) (svaR hA rfl rfl) (agi hA rfl rfl) (nle rfl) rfl)) ?_
           refine .cons (lop rfl rfl fun S hA=>(nM rfl rfl (lb rfl) (sv (d:=.str _) (agr hA rfl rfl)) (sv (d:=.str _) (agr hA rfl rfl)) hx173)) ?_
           refine .cons (lop rfl rfl fun S hA=>(aI rfl rfl (lb rfl) Tryz.underlying228 rfl ti9 (by decide) (svaR hA rfl rfl) (off':=1) rfl)) ?_
           refine .cons (lop rfl rfl fun S hA=>(aF (d:=.str _) rfl rfl (lb rfl) Tryz.underlying9 ag9 ti9 (by decide) (svaR hA rfl rfl) (agi hA rfl rfl) (nle rfl) rfl)) ?_
           refine .cons (lop rfl rfl fun S hA=>(aI rfl rfl (lb rfl) Tryz.underlying228 rfl ti9 (by decide) (svaR hA rfl rfl) (off':=1) rfl)) ?_
           refine .cons (lop rfl rfl fun S hA=>(aF (d:=.str _) rfl rfl (lb rfl) Tryz.underlying9 ag9 ti9 (by decide) (svaR hA rfl rfl) (agi hA rfl rfl) (nle rfl) rfl)) ?_
           refine .cons (lop rfl rfl fun S hA=>(cT rfl rfl (lb rfl) Tryz.underlying9 (sv (d:=.str _) (agr hA rfl rfl)) rfl)) ?_
           refine .cons (lop rfl rfl fun S hA=>(bK (cs:=q29) rfl rfl (lb rfl) Tryz.underlying228 qN fN (by decide) (svaR hA rfl rfl) (agi hA rfl rfl) (nle rfl) rfl)) ?_
           refine .cons (lop rfl rfl fun S hA=>(aU (r:=.int _ _) rfl rfl (lb rfl) zY (.cons (svaA q29 hA rfl rfl) .nil) rfl (gE _ _ hx174))) ?_
           refine .cons (lop rfl rfl fun S hA=>(aI rfl rfl (lb rfl) Tryz.underlying228 rfl ti3 (by decide) (svaR hA rfl rfl) (off':=0) rfl)) ?_
           refine .cons (lop rfl rfl fun S hA=>(aF (d:=.int _ _) rfl rfl (lb rfl) Tryz.underlying3 ag3 ti3 (by decide) (svaR hA rfl rfl) (agi hA rfl rfl) (nle rfl) rfl)) ?_
           refine .cons (lop rfl rfl fun S hA=>(bM rfl rfl (lb rfl) (svaI hA rfl rfl) (svaI hA rfl rfl) rfl hx175)) ?_
           refine .cons (lop rfl rfl fun S hA=>(jD rfl rfl (lb rfl) (svaI hA rfl rfl) (svaI hA rfl rfl) hx176)) ?_
           refine .cons (lop rfl rfl fun S hA=>(jL rfl rfl (lb rfl) Tryz.underlying9 (sv (d:=.str _) (agr hA rfl rfl)) ⟨_,(svaI hA rfl rfl)⟩ rfl hx177)) ?_
           refine .cons (lop rfl rfl fun S hA=>(nM rfl rfl (lb rfl) (sv (d:=.str _) (agr hA rfl rfl)) (sv (d:=.str _) (agr hA rfl rfl)) hx178)) ?_
           refine .cons (lop rfl rfl fun S hA=>(aI rfl rfl (lb rfl) Tryz.underlying228 rfl ti9 (by decide) (svaR hA rfl rfl) (off':=1) rfl)) ?_
           refine .cons (lop rfl rfl fun S hA=>(bN (ds':=q29) rfl rfl ti9 (svaR hA rfl rfl) (agi hA rfl rfl) (sv (d:=.str _) (agr hA rfl rfl)) rfl rfl rfl (nle rfl) rfl)) ?_
           exact .nil
          refine cO ?_
          refine cO ?_
          refine aS ?_
          obtain ⟨x179,hx179,h⟩:=aQ h
          refine bO (aA rfl (mvI rfl rfl rfl rfl) <|aA rfl (bM rfl rfl (lb rfl) (svI rfl) (sv (d:=.int _ 1) rfl) rfl hx179) <|aA rfl (asI rfl rfl rfl rfl) <|cL ?_)
          refine aS ⟨(n3,x179,v132,x178),(fun i=>i),⟨(.sames rfl rfl),(.cons (.blk rfl rfl rfl) (.cons (EntW.lst rfl) .nil)),cK [0,22] rfl (by decide),fun _ _=>rfl⟩,?_,?_⟩
          exact h
          exact Nat.lt_succ_self _
       ·
        replace h:=cE h hc158
        refine eE ?_
        refine cU ?_
        refine cU ?_
        refine eG ?_
        refine aS ⟨(v131,v132,v133),(fun i=>i),⟨(.sames rfl rfl),(.cons (.blk rfl rfl rfl) (.cons (EntW.lst rfl) .nil)),cK [0,22] rfl (by decide),fun _ _=>rfl⟩,?_⟩
        exact h
    ·
     rintro ⟨v102,v103,v104⟩ h
     unfold hM at h
     obtain ⟨x105,hx105,h⟩:=bF h
     obtain ⟨x106,hx106,h⟩:=bF h
     obtain ⟨x107,hx107,h⟩:=bF h
     refine dD rfl [⟨[5],[],[(96,.osl 22 aL.sz v10.length)],[]⟩,
      ⟨[3],[0],[(97,.agg [.int .i64 v103,.str v104])],[]⟩,
      ⟨[97],[23],[(98,.osl 23 aL.sz (([(⟨v103,v104⟩ : aN)] : (List aN)).length))],[(23,.blk 228 (D.flat ((([(⟨v103,v104⟩ : aN)] : (List aN))).map aL.d)))]⟩,
      ⟨[96,98],[22,23,24],[(99,.osl 24 aL.sz x105.length)],[(24,.blk 228 (D.flat (x105.map aL.d))),(22,.none)]⟩,
      ⟨[0],[],[(100,.slice false (a0.map aL.d))],[]⟩,
      ⟨[6],[],[(101,.int .i64 v102)],[]⟩,
      ⟨[100,101],[],[(102,.slice false (x106.map aL.d))],[]⟩,
      ⟨[99,102],[24,25],[(103,.osl 25 aL.sz x107.length)],[(25,.blk 228 (D.flat (x107.map aL.d))),(24,.none)]⟩,
      ⟨[103],[],[(4,.osl 25 aL.sz x107.length)],[]⟩] rfl ?_ (by kernel_rfl) ?_
     ·refine .cons (lop rfl rfl fun S hA=>(aM rfl rfl (lb rfl) (sv (d:=.osl _ _ _) (agr hA rfl rfl)))) ?_
      refine .cons (lop rfl rfl fun S hA=>(bK (cs:=q29) rfl rfl (lb rfl) Tryz.underlying228 qN fN (by decide) (svaR hA rfl rfl) (agi hA rfl rfl) (nle rfl) rfl)) ?_
      refine .cons (lop rfl rfl fun S hA=>(pK aL.toEnc0 ([(⟨v103,v104⟩ : aN)] : (List aN)) 23 rfl rfl (lb rfl) Tryz.underlying38 fN (agi hA rfl rfl) (.cons (svaA q29 hA rfl rfl) .nil) rfl rfl (by decide))) ?_
      refine .cons (lop rfl rfl fun S hA=>(mE aL.toEnc0 24 rfl rfl (lb rfl) Tryz.underlying38 fN rfl (agr hA rfl rfl) rfl (agi hA rfl rfl) (agi hA rfl rfl) (zF aL.toEnc0 (agr hA rfl rfl) rfl (agi hA rfl rfl)) hx105)) ?_
      refine .cons (lop rfl rfl fun S hA=>(aM rfl rfl (lb rfl) (svaL hA rfl rfl))) ?_
      refine .cons (lop rfl rfl fun S hA=>(aM rfl rfl (lb rfl) (svaI hA rfl rfl))) ?_
      refine .cons (lop rfl rfl fun S hA=>(yR aL rfl rfl (lb rfl) Tryz.underlying38 fN (svaL hA rfl rfl) ⟨_,(svaI hA rfl rfl)⟩ rfl hx106)) ?_
      refine .cons (lop rfl rfl fun S hA=>(mE aL.toEnc0 25 rfl rfl (lb rfl) Tryz.underlying38 fN rfl (agr hA rfl rfl) rfl (agi hA rfl rfl) (agi hA rfl rfl) (xC aL (ys:=x106) (svaL hA rfl rfl)) hx107)) ?_
      refine .cons (lop rfl rfl fun S hA=>(aH rfl rfl (lb rfl) (sv (d:=.osl _ _ _) (agr hA rfl rfl)))) ?_
      exact .nil
     refine aT ?_
     refine aBM ?_
     obtain rfl:=Option.some.inj h
     refine ⟨.inr rfl,(fun i=>if i = 0 then 25 else i),⟨.nil,(.cons (EntW.lst rfl) .nil),cK [25] rfl (by decide),(fun i hi=>by first | rfl | (show (if _ then _ else _) = _; (repeat' split) <;> omega))⟩,(.cons (sv rfl) .nil),rfl⟩

set_option maxRecDepth 8000 in
set_option maxHeartbeats 4000000 in
theorem iT (a0 : Int) (a1 : Int) (a2 : List aN) (r : List aN) (h : dS a0 a1 a2 = some r) : FnH Tryz.prog 151 [.osl 1000 aL.sz a2.length,.int .i64 a0,.int .i64 a1] [(1000,.blk 228 (D.flat (a2.map aL.d)))] (.osl 0 aL.sz r.length) [(0,.blk 228 (D.flat (r.map aL.d)))]:=by
 replace h : delS a2 a0 a1 = some r:=h
 obtain ⟨i,j,rfl,rfl,hij,hj,hr⟩:=delS_e h
 have hX:=aL.toEnc0.flat_len a2
 refine fE (rs:=[.osl 0 aL.sz r.length]) Tryz.func151 rfl Tryz.ntmps151 (nle rfl) fun O hO=>?_
 show IWP _ _ _ _ ⟨[(0,.osl 1000 aL.sz a2.length),(1,.int .i64 (i : Int)),(2,.int .i64 (j : Int))],[(1000,.blk 228 (D.flat (a2.map aL.d)))]⟩ _
 refine uZ 0 (id:=1000) (sz:=aL.sz) (n:=a2.length) rfl rfl hX (fun hn=>?_) (fun c hc hcm=>?_)
 ·obtain rfl:=List.length_eq_zero_iff.1 hn
  obtain rfl : j = 0:=by simpa using hj
  obtain rfl : i = 0:=by omega
  refine aE (aA rfl (aH rfl rfl (lb rfl) (sv (d:=.nils) rfl)) <| aD ?_)
  refine aE (aA rfl (aM rfl rfl (lb rfl) (sv (d:=.nils) rfl)) <| aA rfl (mvI rfl rfl rfl rfl) <| aA rfl (mvI rfl rfl rfl rfl) <| aA rfl (aM rfl rfl (lb rfl) (sv (d:=.nils) rfl)) <|aA rfl (dL aL (l:=[]) (b:=false) rfl rfl (lb rfl) Tryz.underlying38 (svn rfl)) <|aA rfl (tB rfl rfl (lb rfl) Tryz.underlying38 fN (sv (d:=.nils) rfl) (svI rfl) (svI rfl) (svI rfl)) <| aD ?_)
  refine bC ?_
  refine aE (aA rfl (mvI rfl rfl rfl rfl) <| aA rfl (mvI rfl rfl rfl rfl) <| aA rfl (aP rfl rfl (lb rfl) (svI rfl) (svI rfl) rfl rfl) <| aD ?_)
  refine qZ rfl rfl ?_
  have hr' : [] = r:=by simpa using hr
  subst hr'
  refine aE (aA rfl (aM rfl rfl (lb rfl) (sv (d:=.nils) rfl)) <| aA rfl (aH rfl rfl (lb rfl) (sv (d:=.nils) rfl)) <| aD ?_)
  refine aT ?_
  refine bI ?_
  refine ⟨.inr rfl,(fun i=>if i = 0 then 50 else i),⟨.nil,(.cons (.nilb rfl) .nil),cK [50] rfl (by decide),(fun i hi=>by first | rfl | (show (if _ then _ else _) = _; (repeat' split) <;> omega))⟩,(.cons (svno rfl) .nil),rfl⟩
 ·refine aE (aA rfl (aH rfl rfl (lb rfl) (sv (d:=.nils) rfl)) <| aD ?_)
  refine aE (aA rfl (aM rfl rfl (lb rfl) (sv (d:=.rsl _ _ _ _ _) rfl)) <| aA rfl (mvI rfl rfl rfl rfl) <| aA rfl (mvI rfl rfl rfl rfl) <| aA rfl (aM rfl rfl (lb rfl) (sv (d:=.rsl _ _ _ _ _) rfl)) <|aA rfl (nL rfl rfl (lb rfl) Tryz.underlying38 (sv (d:=.rsl _ _ _ _ _) rfl) rfl) <|aA rfl (dX (sz:=aL.sz) (l:=(i : Int)) (h:=(j : Int)) (m:=(a2.length : Int)) rfl rfl (lb rfl) Tryz.underlying38 fN (sv (d:=.rsl _ _ _ _ _) rfl) ⟨_,(svI rfl)⟩ ⟨_,(svI rfl)⟩ ⟨_,(svI rfl)⟩ (by simp) (by omega) (by omega) (by omega) (by omega) rfl) <| aD ?_)
  refine bC ?_
  refine aE (aA rfl (mvI rfl rfl rfl rfl) <| aA rfl (mvI rfl rfl rfl rfl) <| aA rfl (aP rfl rfl (lb rfl) (svI rfl) (svI rfl) rfl rfl) <| aD ?_)
  refine aV (b:=_) rfl (fun h1=>?_) (fun h1=>?_)
  ·have h2:=of_decide_eq_true h1
   obtain rfl : i = j:=by omega
   have hr' : a2 = r:=by simpa using hr
   subst hr'
   refine aE (aA rfl (aM rfl rfl (lb rfl) (sv (d:=.rsl _ _ _ _ _) rfl)) <| aA rfl (aH rfl rfl (lb rfl) (sv (d:=.rsl _ _ _ _ _) rfl)) <| aD ?_)
   refine oI 6 (id:=1000) rfl rfl hX ?_
   refine aT ?_
   refine bI ?_
   refine ⟨.inr rfl,(fun i=>if i = 0 then 1000 else i),⟨.nil,(.cons (EntW.lst rfl) .nil),cK [1000] rfl (by decide),(fun i hi=>by first | rfl | (show (if _ then _ else _) = _; (repeat' split) <;> omega))⟩,(.cons (sv rfl) .nil),rfl⟩
  ·have h2:=of_decide_eq_false h1
   have hlt : i < j:=by omega
   obtain ⟨J,hJ⟩ : ∃ J,J = List.replicate ((c - a2.length) * aL.sz) D.dead:=⟨_,rfl⟩
   have hXd : (D.flat ((a2.drop j).map aL.d)).length = (a2.length - j) * aL.sz:=by rw [aL.toEnc0.flat_len,List.length_drop]
   have hXt : (D.flat ((a2.take i).map aL.d)).length = i * aL.sz:=by rw [aL.toEnc0.flat_len,List.length_take,Nat.min_eq_left (by omega)]
   have hrl : r.length = i + (a2.length - j):=by rw [← hr,List.length_append,List.length_take,List.length_drop,Nat.min_eq_left (by omega)]
   have hR : D.flat (r.map aL.d) = D.flat ((a2.take i).map aL.d) ++ D.flat ((a2.drop j).map aL.d):=by rw [← hr,aL.toEnc0.flat_append]
   have hRl : (D.flat (r.map aL.d)).length = (i + (a2.length - j)) * aL.sz:=by rw [aL.toEnc0.flat_len,hrl]
   have hfitj : j * aL.sz + (a2.length - j) * aL.sz = a2.length * aL.sz:=by rw [← Nat.add_mul]; congr 1; omega
   have hfiti : (i + (a2.length - j)) * aL.sz ≤ a2.length * aL.sz:=Nat.mul_le_mul_right _ (by omega)
   rw [← hJ]
   have hD0 : (D.flat (a2.map aL.d) ++ J).length = a2.length * aL.sz + J.length:=by rw [List.length_append,hX]
   obtain ⟨es,hes⟩ : ∃ es,es = ((D.flat (a2.map aL.d) ++ J).drop (j * aL.sz)).take ((a2.length - j) * aL.sz):=⟨_,rfl⟩
   have hes' : es = D.flat ((a2.drop j).map aL.d):=by
    rw [hes,List.drop_append_of_le_length (by rw [hX]; exact Nat.mul_le_mul_right _ hj),aL.toEnc0.flat_drop,List.take_append_of_le_length (by rw [hXd]; exact Nat.le_refl _),← hXd,List.take_length]
   obtain ⟨Z,hZ⟩ : ∃ Z,eT (D.flat (a2.map aL.d) ++ J) (i * aL.sz) es = D.flat (r.map aL.d) ++ Z:=by
    refine ⟨(D.flat ((a2.drop i).map aL.d) ++ J).drop es.length,?_⟩
    rw [oR aL.toEnc0 a2 i,List.append_assoc,tZ hXt,hR,hes',List.append_assoc]
   have hZl : (D.flat (r.map aL.d) ++ Z).length = a2.length * aL.sz + J.length:=by
    rw [← hZ,oZ (by rw [hD0,hes',hXd,← Nat.add_mul]; omega),hD0]
   refine aY ?_
   refine aS ?_
   refine aE (aA rfl (aM rfl rfl (lb rfl) (sv (d:=.rsl _ _ _ _ _) rfl)) <| aA rfl (nL rfl rfl (lb rfl) Tryz.underlying38 (sv (d:=.rsl _ _ _ _ _) rfl) rfl) <| aA rfl (asI rfl rfl rfl rfl) <| aD ?_)
   refine dD rfl [⟨[0],[],[(20,.rsl 1000 aL.sz 0 a2.length c)],[]⟩,⟨[1],[],[(21,.int .i64 (i : Int))],[]⟩,⟨[20,21],[],[(22,.rsl 1000 aL.sz 0 i c)],[]⟩,⟨[0],[],[(23,.rsl 1000 aL.sz 0 a2.length c)],[]⟩,⟨[2],[],[(24,.int .i64 (j : Int))],[]⟩,
    ⟨[23,24],[],[(25,.rsl 1000 aL.sz (j * aL.sz) (a2.length - j) (c - j))],[]⟩,⟨[22,25],[1000],[(26,.rsl 1000 aL.sz 0 (i + (a2.length - j)) c)],[(1000,.blk 228 (D.flat (r.map aL.d) ++ Z))]⟩,⟨[26],[],[(0,.rsl 1000 aL.sz 0 (i + (a2.length - j)) c)],[]⟩] rfl ?_ (by kernel_rfl) ?_
   ·refine .cons (lop rfl rfl fun S hA=>(aM rfl rfl (lb rfl) (sv (d:=.rsl _ _ _ _ _) (agr hA rfl rfl)))) ?_
    refine .cons (lop rfl rfl fun S hA=>(aM rfl rfl (lb rfl) (svaI hA rfl rfl))) ?_
    refine .cons (lop rfl rfl fun S hA=>(dX (sz:=aL.sz) (l:=0) (h:=(i : Int)) (m:=(c : Int)) (d:=.rsl 1000 aL.sz 0 i c) rfl rfl (lb rfl) Tryz.underlying38 fN (sv (d:=.rsl _ _ _ _ _) (agr hA rfl rfl)) rfl ⟨_,(svaI hA rfl rfl)⟩ rfl (by simp) (by omega) (by omega) (by omega) (by omega) (by simp only [Int.toNat_natCast,Int.toNat_zero,Nat.zero_mul,Nat.zero_add,Nat.sub_zero]))) ?_
    refine .cons (lop rfl rfl fun S hA=>(aM rfl rfl (lb rfl) (sv (d:=.rsl _ _ _ _ _) (agr hA rfl rfl)))) ?_
    refine .cons (lop rfl rfl fun S hA=>(aM rfl rfl (lb rfl) (svaI hA rfl rfl))) ?_
    refine .cons (lop rfl rfl fun S hA=>(dX (sz:=aL.sz) (l:=(j : Int)) (h:=(a2.length : Int)) (m:=(c : Int)) (d:=.rsl 1000 aL.sz (j * aL.sz) (a2.length - j) (c - j)) rfl rfl (lb rfl) Tryz.underlying38 fN (sv (d:=.rsl _ _ _ _ _) (agr hA rfl rfl)) ⟨_,(svaI hA rfl rfl)⟩ rfl rfl (by simp) (by omega) (by omega) (by omega) (by omega) (by simp only [Int.toNat_natCast,Nat.zero_add]))) ?_
    refine .cons (lop rfl rfl fun S hA=>(wR (sz:=aL.sz) (m:=a2.length - j) (es:=es) (ds':=D.flat (r.map aL.d) ++ Z) (d:=.rsl 1000 aL.sz 0 (i + (a2.length - j)) c) rfl rfl (lb rfl) Tryz.underlying38 fN (sv (d:=.rsl _ _ _ _ _) (agr hA rfl rfl)) (agi hA rfl rfl) (hes ▸ xB (sv (d:=.rsl _ _ _ _ _) (agr hA rfl rfl)) (agi hA rfl rfl) (by rw [hD0,hfitj]; exact Nat.le_add_right _ _)) (by rw [hes',hXd]) (by rw [hes']; exact aL.toEnc0.one _) (by omega) (by rw [hD0]; exact Nat.le_trans hfiti (Nat.le_add_right _ _)) hZ rfl)) ?_
    refine .cons (lop rfl rfl fun S hA=>(aH rfl rfl (lb rfl) (sv (d:=.rsl _ _ _ _ _) (agr hA rfl rfl)))) ?_
    exact .nil
   ·refine aE (aA rfl (aM rfl rfl (lb rfl) (sv (d:=.rsl _ _ _ _ _) rfl)) <| aA rfl (aM rfl rfl (lb rfl) (sv (d:=.rsl _ _ _ _ _) rfl)) <| aA rfl (nL rfl rfl (lb rfl) Tryz.underlying38 (sv (d:=.rsl _ _ _ _ _) rfl) rfl) <| aA rfl (mvI rfl rfl rfl rfl) <|aA rfl (dX (sz:=aL.sz) (l:=((i + (a2.length - j) : Nat) : Int)) (h:=(a2.length : Int)) (m:=(c : Int)) (d:=.rsl 1000 aL.sz ((i + (a2.length - j)) * aL.sz) (a2.length - (i + (a2.length - j))) (c - (i + (a2.length - j)))) rfl rfl (lb rfl) Tryz.underlying38 fN (sv (d:=.rsl _ _ _ _ _) rfl) ⟨_,(svI rfl)⟩ ⟨_,(svI rfl)⟩ rfl (by simp) (by omega) (by omega) (by omega) (by omega) (by simp only [Int.toNat_natCast,Nat.zero_add])) <|aA rfl (qG (sz:=aL.sz) rfl rfl Tryz.underlying38 fN rfl rfl (sv (d:=.rsl _ _ _ _ _) rfl) rfl (by rw [hZl,← Nat.add_mul,show i + (a2.length - j) + (a2.length - (i + (a2.length - j))) = a2.length by omega]; exact Nat.le_add_right _ _) (tZ hRl)) <| aD ?_)
    refine aE (aA rfl (aM rfl rfl (lb rfl) (sv (d:=.rsl _ _ _ _ _) rfl)) <| aA rfl (aH rfl rfl (lb rfl) (sv (d:=.rsl _ _ _ _ _) rfl)) <| aD ?_)
    refine oI 6 (id:=1000) rfl rfl hRl ?_
    refine aT ?_
    refine ⟨.inr rfl,(fun i=>if i = 0 then 1000 else i),⟨.nil,(.cons (EntW.lst rfl) .nil),cK [1000] rfl (by decide),(fun i hi=>by first | rfl | (show (if _ then _ else _) = _; (repeat' split) <;> omega))⟩,(.cons (sv (congrArg (D.osl _ _) hrl.symm)) .nil),rfl⟩

theorem xQ (a0 : bJ) (a1 : Int) (a2 : (List UInt8)) (r : (bJ × Int)) (h : oB a0 a1 a2 = some r) : cF Tryz.prog 99 [.agg (v5 a0), .int .i64 a1, .str a2] (retD [.agg (v5 r.1), .int .i64 r.2]) := by
 refine iC (rs:=[.agg (v5 r.1),.int .i64 r.2]) Tryz.func99 rfl Tryz.ntmps99 (nle rfl) rfl fun O hO=>?_
 show IWP _ _ _ _ ⟨[(0,.agg (v5 a0)),(1,.int .i64 a1),(2,.str a2)],[]⟩ _
 unfold oB at h
 refine aE (aA rfl (bR (cs:=q23) 0 rfl rfl (lb rfl) rfl (svA q23 rfl) rfl rfl) <|aA rfl (bD (cs:=q26) (cs':=[.int .i64 0,.str [],.slice false (([] : List aN).map aL.d)]) 1 rfl rfl (lb rfl) rfl ti40 rfl rfl (.k (.k (.cons (.nils _) .nil)))) <|aA rfl (aH rfl rfl (lb rfl) (sv (d:=.int _ 0) rfl)) <|aD ?_)
 obtain ⟨x1,hx1,h⟩:=bF h
 refine aE (aA rfl (faR 2 rfl rfl rfl Tryz.underlying40 rfl ti38 (lb rfl) rfl rfl) <|aA rfl (lrL la38 rfl rfl rfl rfl rfl (nle rfl) rfl) <|aA rfl (aU (r:=.slice _ _) rfl rfl (lb rfl) cl146 (.cons (svL rfl) .nil) rfl (fS _ _ hx1)) <|aA rfl (faR 2 rfl rfl rfl Tryz.underlying40 rfl ti38 (lb rfl) rfl rfl) <|aA rfl (bN (ds':=q23) rfl rfl ti38 (svR rfl) rfl (svL rfl) rfl rfl rfl (nle rfl) rfl) <|aD ?_)
 refine bC ?_
 obtain ⟨x2,hx2,h⟩:=aQ h
 obtain ⟨x3,hx3,h⟩:=aQ h
 obtain ⟨x4,hx4,h⟩:=aQ h
 obtain ⟨x5,hx5,h⟩:=bF h
 obtain ⟨x6,hx6,h⟩:=aQ h
 obtain ⟨x7,hx7,h⟩:=aQ h
 refine aE (aA rfl (mvI rfl rfl rfl rfl) <|aA rfl (aP rfl rfl (lb rfl) (svI rfl) (sv (d:=.int _ 0) rfl) rfl hx2) <|aA rfl (mvB rfl rfl rfl rfl) <|aC rfl rfl (.one rfl) rfl (by decide) (fun hb=>(mvI rfl rfl rfl rfl)) <|aC rfl rfl (.one rfl) rfl (by decide) (fun hb=>(aP rfl rfl (lb rfl) (svcI rfl hb) (sv (d:=.int _ 1099511627776) rfl) rfl hx3)) <|aA rfl (cQ rfl rfl (lb rfl) (svB rfl) rfl rfl hx4) <|aA rfl (mvB rfl rfl rfl rfl) <|aC rfl rfl (.one rfl) rfl (by decide) (fun hb=>(lra q23 la40 rfl rfl rfl rfl rfl (nle rfl) rfl)) <|aC rfl rfl (.one rfl) rfl (by decide) (fun hb=>(aU (r:=.int _ _) rfl rfl (lb rfl) cl143 (.cons (svc (d:=.agg [.int .i64 a0.Base,.str a0.Ready,.slice false (x1.map aL.d)]) rfl hb) .nil) rfl (nJ _ _ (gd_t hx5 hb)))) <|aC rfl rfl (.one rfl) rfl (by decide) (fun hb=>(aP rfl rfl (lb rfl) (svcI rfl hb) (sv (d:=.int _ 0) rfl) rfl hx6)) <|aA rfl (cQ rfl rfl (lb rfl) (svB rfl) rfl rfl hx7) <|aD ?_)
 refine aV (b:=_) rfl (fun hc8=>?_) (fun hc8=>?_)
 ·
  replace h:=cD h hc8
  refine aE (aA rfl (lra q23 la40 rfl rfl rfl rfl rfl (nle rfl) rfl) <|aA rfl (stA q23 q23 ti40 rfl rfl rfl rfl rfl rfl rfl rfl (nle rfl) rfl) <|aA rfl (aH rfl rfl (lb rfl) (sv (d:=.int _ 0) rfl)) <|aD ?_)
  refine aT ?_
  refine bI ?_
  obtain rfl:=Option.some.inj h
  refine ⟨.inr rfl,_,(.cons (rva la40 rfl rfl (nle rfl) rfl) (.cons (sv rfl) .nil)),(.all _)⟩
 ·
  replace h:=cE h hc8
  refine aY ?_
  refine aS ?_
  obtain ⟨x9,hx9,h⟩:=bF h
  refine aE (aA rfl (lra q23 la40 rfl rfl rfl rfl rfl (nle rfl) rfl) <|aA rfl (aU (r:=.int _ _) rfl rfl (lb rfl) cl147 (.cons (svA q23 rfl) .nil) rfl (pZ _ _ hx9)) <|aA rfl (asI rfl rfl rfl rfl) <|aD ?_)
  refine bC ?_
  obtain ⟨x10,hx10,h⟩:=aQ h
  refine aE (aA rfl (mvI rfl rfl rfl rfl) <|aA rfl (mvI rfl rfl rfl rfl) <|aA rfl (aP rfl rfl (lb rfl) (svI rfl) (svI rfl) rfl hx10) <|aD ?_)
  refine aV (b:=_) rfl (fun hc11=>?_) (fun hc11=>?_)
  ·
   replace h:=cD h hc11
   refine aE (aA rfl (lra q23 la40 rfl rfl rfl rfl rfl (nle rfl) rfl) <|aA rfl (stA q23 q23 ti40 rfl rfl rfl rfl rfl rfl rfl rfl (nle rfl) rfl) <|aA rfl (aH rfl rfl (lb rfl) (sv (d:=.int _ 0) rfl)) <|aD ?_)
   refine aT ?_
   refine bI ?_
   obtain rfl:=Option.some.inj h
   refine ⟨.inr rfl,_,(.cons (rva la40 rfl rfl (nle rfl) rfl) (.cons (sv rfl) .nil)),(.all _)⟩
  ·
   replace h:=cE h hc11
   refine aY ?_
   refine aS ?_
   obtain ⟨x12,hx12,h⟩:=aQ h
   obtain ⟨x13,hx13,h⟩:=aQ h
   obtain ⟨x14,hx14,h⟩:=bF h
   refine aE (aA rfl (aM rfl rfl (lb rfl) (sv (d:=.str _) rfl)) <|aA rfl (aM rfl rfl (lb rfl) (sv (d:=.str _) rfl)) <|aA rfl (cT rfl rfl (lb rfl) Tryz.underlying9 (sv (d:=.str _) rfl) rfl) <|aA rfl (mvI rfl rfl rfl rfl) <|aA rfl (mvI rfl rfl rfl rfl) <|aA rfl (bM rfl rfl (lb rfl) (svI rfl) (svI rfl) rfl hx12) <|aA rfl (jD rfl rfl (lb rfl) (svI rfl) (svI rfl) hx13) <|aA rfl (jL rfl rfl (lb rfl) Tryz.underlying9 (sv (d:=.str _) rfl) rfl ⟨_,(svI rfl)⟩ hx14) <|aA rfl (aH rfl rfl (lb rfl) (sv (d:=.str _) rfl)) <|aD ?_)
   refine kN (α:=Int × (List UInt8)) (fun z=>⟨[(1,.int .i64 z.1),(2,.str z.2),(3,.ref 0 0),(6,.ref 1 0)],[(0,.blk 40 [.int .i64 a0.Base,.str a0.Ready,.slice false (x1.map aL.d)]),(1,.blk 40 [.int .i64 0,.str [],.slice false (([] : List aN).map aL.d)])]⟩) (fun z=>iB a0 x1 z.1 z.2 = some r) ?_ ?_
   ·
    obtain ⟨x45,hx45,h⟩:=aQ h
    refine aE (aA rfl (mvI rfl rfl rfl rfl) <|aA rfl (faR 0 rfl rfl rfl Tryz.underlying40 rfl ti3 (lb rfl) rfl rfl) <|aA rfl (aF (d:=.int _ _) rfl rfl (lb rfl) Tryz.underlying3 ag3 ti3 (by decide) (svR rfl) rfl (nle rfl) rfl) <|aA rfl (aP rfl rfl (lb rfl) (svI rfl) (svI rfl) rfl hx45) <|aD ?_)
    refine aV (b:=_) rfl (fun hc46=>?_) (fun hc46=>?_)
    ·
     replace h:=cD h hc46
     obtain ⟨x47,hx47,h⟩:=aQ h
     obtain ⟨x48,hx48,h⟩:=aQ h
     obtain ⟨x49,hx49,h⟩:=bF h
     refine aE (aA rfl (aM rfl rfl (lb rfl) (sv (d:=.str _) rfl)) <|aA rfl (aM rfl rfl (lb rfl) (sv (d:=.str _) rfl)) <|aA rfl (cT rfl rfl (lb rfl) Tryz.underlying9 (sv (d:=.str _) rfl) rfl) <|aA rfl (faR 0 rfl rfl rfl Tryz.underlying40 rfl ti3 (lb rfl) rfl rfl) <|aA rfl (aF (d:=.int _ _) rfl rfl (lb rfl) Tryz.underlying3 ag3 ti3 (by decide) (svR rfl) rfl (nle rfl) rfl) <|aA rfl (mvI rfl rfl rfl rfl) <|aA rfl (bM rfl rfl (lb rfl) (svI rfl) (svI rfl) rfl hx47) <|aA rfl (jD rfl rfl (lb rfl) (svI rfl) (svI rfl) hx48) <|aA rfl (jL rfl rfl (lb rfl) Tryz.underlying9 (sv (d:=.str _) rfl) ⟨_,(svI rfl)⟩ rfl hx49) <|aA rfl (aH rfl rfl (lb rfl) (sv (d:=.str _) rfl)) <|aD ?_)
     refine bO (aA rfl (faR 0 rfl rfl rfl Tryz.underlying40 rfl ti3 (lb rfl) rfl rfl) <|aA rfl (aF (d:=.int _ _) rfl rfl (lb rfl) Tryz.underlying3 ag3 ti3 (by decide) (svR rfl) rfl (nle rfl) rfl) <|aA rfl (asI rfl rfl rfl rfl) <|cL ?_)
     refine aS ⟨(a0.Base,x49),(fun i=>i),⟨(.sames rfl rfl),(.cons (.blk rfl rfl rfl) (.cons (.blk rfl rfl rfl) .nil)),cK [0,1] rfl (by decide),fun _ _=>rfl⟩,?_⟩
     exact h
    ·
     replace h:=cE h hc46
     refine aY ?_
     refine aS ⟨(a1,x14),(fun i=>i),⟨(.sames rfl rfl),(.cons (.blk rfl rfl rfl) (.cons (.blk rfl rfl rfl) .nil)),cK [0,1] rfl (by decide),fun _ _=>rfl⟩,?_⟩
     exact h
   ·
    rintro ⟨v20,v21⟩ h
    unfold iB at h
    refine bC ?_
    obtain ⟨x22,hx22,h⟩:=aQ h
    refine aE (aA rfl (aM rfl rfl (lb rfl) (sv (d:=.str _) rfl)) <|aA rfl (jC rfl rfl (lb rfl) (sv (d:=.str _) rfl) (sv (d:=.str []) rfl) rfl hx22) <|aD ?_)
    refine aV (b:=_) rfl (fun hc23=>?_) (fun hc23=>?_)
    ·
     replace h:=cD h hc23
     refine aE (aA rfl (lra q23 la40 rfl rfl rfl rfl rfl (nle rfl) rfl) <|aA rfl (stA q23 q23 ti40 rfl rfl rfl rfl rfl rfl rfl rfl (nle rfl) rfl) <|aA rfl (aH rfl rfl (lb rfl) (sv (d:=.int _ 0) rfl)) <|aD ?_)
     refine aT ?_
     refine bI ?_
     obtain rfl:=Option.some.inj h
     refine ⟨.inr rfl,_,(.cons (rva la40 rfl rfl (nle rfl) rfl) (.cons (sv rfl) .nil)),(.all _)⟩
    ·
     replace h:=cE h hc23
     refine aY ?_
     refine aS ?_
     obtain ⟨x24,hx24,h⟩:=bF h
     refine aE (aA rfl (lra q23 la40 rfl rfl rfl rfl rfl (nle rfl) rfl) <|aA rfl (aU (r:=.int _ _) rfl rfl (lb rfl) cl148 (.cons (svA q23 rfl) .nil) rfl (rG _ _ hx24)) <|aA rfl (asI rfl rfl rfl rfl) <|aD ?_)
     obtain ⟨x25,hx25,h⟩:=bF h
     refine aE (aA rfl (faR 2 rfl rfl rfl Tryz.underlying40 rfl ti38 (lb rfl) rfl rfl) <|aA rfl (lrL la38 rfl rfl rfl rfl rfl (nle rfl) rfl) <|aA rfl (mvI rfl rfl rfl rfl) <|aA rfl (aM rfl rfl (lb rfl) (sv (d:=.str _) rfl)) <|aA rfl (bS (cs:=q29) rfl rfl (lb rfl) Tryz.underlying228 fN pl228 rfl (.cons (svI rfl) (.cons (sv (d:=.str _) rfl) .nil)) rfl) <|aA rfl (dO (r':=.osl 2 aL.sz x25.length) (H1':=[(2,.blk 228 (D.flat (x25.map aL.d)))]) 2 [] rfl rfl (lb rfl) cl149 (.cons (svL rfl) (.cons (svA q29 rfl) .nil)) rfl rfl ⟨rfl,rfl,by decide,rfl,List.forall_mem_nil _⟩ (tP _ _ _ hx25) rfl rfl (List.forall_mem_cons.2 ⟨⟨rfl,(fB aL)⟩,List.forall_mem_nil _⟩) (by simp only [List.map_cons,List.map_nil,Ent.ren,eD,eQ]; rfl)) <|aA rfl (faR 2 rfl rfl rfl Tryz.underlying40 rfl ti38 (lb rfl) rfl rfl) <|aA rfl (bN (ds':=q24) rfl rfl ti38 (svR rfl) rfl (sv (d:=.osl _ _ _) rfl) rfl rfl rfl (nle rfl) rfl) <|aD ?_)
     refine kN (α:=Int × (List UInt8) × (List aN)) (fun z=>⟨[(3,.ref 0 0),(6,.ref 1 0),(9,.int .i64 x24)],[(0,.blk 40 [.int .i64 z.1,.str z.2.1,.osl 4 aL.sz z.2.2.length]),(1,.blk 40 [.int .i64 0,.str [],.slice false (([] : List aN).map aL.d)]),(4,.blk 228 (D.flat (z.2.2.map aL.d)))]⟩) (fun z=>jS x24 z.1 z.2.1 z.2.2 = some r) ?_ ?_
     ·
      obtain ⟨x38,hx38,h⟩:=bF h
      obtain ⟨x39,hx39,h⟩:=bF h
      refine aE (aA rfl (faR 2 rfl rfl rfl Tryz.underlying40 rfl ti38 (lb rfl) rfl rfl) <|aA rfl (aF (d:=.osl _ _ _) rfl rfl (lb rfl) Tryz.underlying38 ag38 ti38 (by decide) (svR rfl) rfl (nle rfl) rfl) <|aA rfl (kD aL.toEnc0 rfl rfl (lb rfl) Tryz.underlying38 fN (sv (d:=.osl _ _ _) rfl) rfl (sv (d:=.int _ 0) rfl) hx38) <|aA rfl (nA aL.toEnc0 (cs:=q29) rfl rfl (lb rfl) Tryz.underlying228 qN fN (by decide) (svR rfl) rfl hx39 (nle rfl) rfl) <|aA rfl (bD (cs:=q29) (cs':=[.int .i64 0,.str []]) 3 rfl rfl (lb rfl) rfl fN rfl rfl (.all _)) <|aA rfl (stA q29 q29 fN rfl rfl rfl rfl rfl rfl rfl rfl (nle rfl) rfl) <|aD ?_)
      obtain ⟨x40,hx40,h⟩:=aQ h
      refine aE (aA rfl (faR 0 rfl rfl rfl Tryz.underlying228 rfl ti3 (lb rfl) rfl rfl) <|aA rfl (aF (d:=.int _ _) rfl rfl (lb rfl) Tryz.underlying3 ag3 ti3 (by decide) (svR rfl) rfl (nle rfl) rfl) <|aA rfl (faR 0 rfl rfl rfl Tryz.underlying40 rfl ti3 (lb rfl) rfl rfl) <|aA rfl (aF (d:=.int _ _) rfl rfl (lb rfl) Tryz.underlying3 ag3 ti3 (by decide) (svR rfl) rfl (nle rfl) rfl) <|aA rfl (aP rfl rfl (lb rfl) (svI rfl) (svI rfl) rfl hx40) <|aD ?_)
      refine aV (b:=_) rfl (fun hc41=>?_) (fun hc41=>?_)
      ·
       replace h:=cD h hc41
       obtain ⟨x42,hx42,h⟩:=bF h
       obtain ⟨x43,hx43,h⟩:=bF h
       refine dD rfl [⟨[10],[3],[(77,.agg [.int .i64 x39.At,.str x39.Data])],[]⟩,
        ⟨[77],[],[(78,.int .i64 x42)],[]⟩,
        ⟨[3],[],[(79,.ref 0 1)],[]⟩,
        ⟨[79],[0],[(80,.str a0.Ready)],[]⟩,
        ⟨[10],[],[(81,.ref 3 1)],[]⟩,
        ⟨[81],[3],[(82,.str x39.Data)],[]⟩,
        ⟨[80,82],[],[(83,.str x43)],[]⟩,
        ⟨[3],[],[(84,.ref 0 0)],[]⟩,
        ⟨[78,84],[0],[],[(0,.blk 40 [.int .i64 x42,.str a0.Ready,.osl 2 aL.sz x25.length])]⟩,
        ⟨[3],[],[(85,.ref 0 1)],[]⟩,
        ⟨[83,85],[0],[],[(0,.blk 40 [.int .i64 x42,.str x43,.osl 2 aL.sz x25.length])]⟩] rfl ?_ (by kernel_rfl) ?_
       ·refine .cons (lop rfl rfl fun S hA=>(bK (cs:=q29) rfl rfl (lb rfl) Tryz.underlying228 qN fN (by decide) (svaR hA rfl rfl) (agi hA rfl rfl) (nle rfl) rfl)) ?_
        refine .cons (lop rfl rfl fun S hA=>(aU (r:=.int _ _) rfl rfl (lb rfl) zY (.cons (svaA q29 hA rfl rfl) .nil) rfl (gE _ _ hx42))) ?_
        refine .cons (lop rfl rfl fun S hA=>(aI rfl rfl (lb rfl) Tryz.underlying40 rfl ti9 (by decide) (svaR hA rfl rfl) (off':=1) rfl)) ?_
        refine .cons (lop rfl rfl fun S hA=>(aF (d:=.str _) rfl rfl (lb rfl) Tryz.underlying9 ag9 ti9 (by decide) (svaR hA rfl rfl) (agi hA rfl rfl) (nle rfl) rfl)) ?_
        refine .cons (lop rfl rfl fun S hA=>(aI rfl rfl (lb rfl) Tryz.underlying228 rfl ti9 (by decide) (svaR hA rfl rfl) (off':=1) rfl)) ?_
        refine .cons (lop rfl rfl fun S hA=>(aF (d:=.str _) rfl rfl (lb rfl) Tryz.underlying9 ag9 ti9 (by decide) (svaR hA rfl rfl) (agi hA rfl rfl) (nle rfl) rfl)) ?_
        refine .cons (lop rfl rfl fun S hA=>(nM rfl rfl (lb rfl) (sv (d:=.str _) (agr hA rfl rfl)) (sv (d:=.str _) (agr hA rfl rfl)) hx43)) ?_
        refine .cons (lop rfl rfl fun S hA=>(aI rfl rfl (lb rfl) Tryz.underlying40 rfl ti3 (by decide) (svaR hA rfl rfl) (off':=0) rfl)) ?_
        refine .cons (lop rfl rfl fun S hA=>(bN (ds':=q24) rfl rfl ti3 (svaR hA rfl rfl) (agi hA rfl rfl) (svaI hA rfl rfl) rfl rfl rfl (nle rfl) rfl)) ?_
        refine .cons (lop rfl rfl fun S hA=>(aI rfl rfl (lb rfl) Tryz.underlying40 rfl ti9 (by decide) (svaR hA rfl rfl) (off':=1) rfl)) ?_
        refine .cons (lop rfl rfl fun S hA=>(bN (ds':=q24) rfl rfl ti9 (svaR hA rfl rfl) (agi hA rfl rfl) (sv (d:=.str _) (agr hA rfl rfl)) rfl rfl rfl (nle rfl) rfl)) ?_
        exact .nil
       obtain ⟨x44,hx44,h⟩:=bF h
       refine bO (aA rfl (faR 2 rfl rfl rfl Tryz.underlying40 rfl ti38 (lb rfl) rfl rfl) <|aA rfl (aF (d:=.osl _ _ _) rfl rfl (lb rfl) Tryz.underlying38 ag38 ti38 (by decide) (svR rfl) rfl (nle rfl) rfl) <|aA rfl (dO (r':=.osl 4 aL.sz x44.length) (H1':=[(4,.blk 228 (D.flat (x44.map aL.d)))]) 4 [2] rfl rfl (lb rfl) cl151 (.cons (sv (d:=.osl _ _ _) rfl) (.cons (sv (d:=.int _ 0) rfl) (.cons (sv (d:=.int _ 1) rfl) .nil))) rfl rfl ⟨rfl,rfl,by decide,rfl,List.forall_mem_cons.2 ⟨⟨rfl,rfl,(pL aL rfl),(fB aL)⟩,List.forall_mem_nil _⟩⟩ (iT _ _ _ _ hx44) rfl rfl (List.forall_mem_cons.2 ⟨⟨rfl,(fB aL)⟩,List.forall_mem_nil _⟩) (by simp only [List.map_cons,List.map_nil,Ent.ren,eD,eQ]; rfl)) <|aA rfl (faR 2 rfl rfl rfl Tryz.underlying40 rfl ti38 (lb rfl) rfl rfl) <|aA rfl (bN (ds':=q24) rfl rfl ti38 (svR rfl) rfl (sv (d:=.osl _ _ _) rfl) rfl rfl rfl (nle rfl) rfl) <|cL ?_)
       refine aS ⟨(x42,x43,x44),(fun i=>i),⟨(.sames rfl rfl),(.cons (.blk rfl rfl rfl) (.cons (.blk rfl rfl rfl) (.cons (EntW.lst rfl) .nil))),cK [0,1,4] rfl (by decide),fun _ _=>rfl⟩,?_⟩
       exact h
      ·
       replace h:=cE h hc41
       refine aY ?_
       refine aS ⟨(a0.Base,a0.Ready,x25),(fun i=>if i = 4 then 2 else i),⟨(.sames rfl rfl),(.cons (.blk rfl rfl rfl) (.cons (.blk rfl rfl rfl) (.cons (EntW.lst rfl) .nil))),cK [0,1,2] rfl (by decide),(fun i hi=>by first | rfl | (show (if _ then _ else _) = _; (repeat' split) <;> omega))⟩,?_⟩
       exact h
     ·
      rintro ⟨v33,v34,v35⟩ h
      unfold jS at h
      obtain ⟨x36,hx36,h⟩:=bF h
      obtain ⟨x37,hx37,h⟩:=aQ h
      refine dD rfl [⟨[3],[0],[(90,.agg [.int .i64 v33,.str v34,.osl 4 aL.sz v35.length])],[]⟩,
       ⟨[3],[0],[(91,.agg [.int .i64 v33,.str v34,.osl 4 aL.sz v35.length])],[]⟩,
       ⟨[91],[4],[(92,.int .i64 x36)],[]⟩,
       ⟨[9],[],[(93,.int .i64 x24)],[]⟩,
       ⟨[92,93],[],[(94,.int .i64 x37)],[]⟩,
       ⟨[6,90],[1],[],[(1,.blk 40 [.int .i64 v33,.str v34,.osl 4 aL.sz v35.length])]⟩,
       ⟨[94],[],[(7,.int .i64 x37)],[]⟩] rfl ?_ (by kernel_rfl) ?_
      ·refine .cons (lop rfl rfl fun S hA=>(bK (cs:=q24) rfl rfl (lb rfl) Tryz.underlying40 ag40 ti40 (by decide) (svaR hA rfl rfl) (agi hA rfl rfl) (nle rfl) rfl)) ?_
       refine .cons (lop rfl rfl fun S hA=>(bK (cs:=q24) rfl rfl (lb rfl) Tryz.underlying40 ag40 ti40 (by decide) (svaR hA rfl rfl) (agi hA rfl rfl) (nle rfl) rfl)) ?_
       refine .cons (lop rfl rfl fun S hA=>(oL (r:=.int .i64 x36) rfl rfl (lb rfl) cl148 (.cons (svaA q24 hA rfl rfl) .nil) (.cons (.agg (.k (.k (.cons (FDT aL (agi hA rfl rfl) rfl) .nil)))) .nil) rfl rfl (rG _ _ hx36))) ?_
       refine .cons (lop rfl rfl fun S hA=>(aM rfl rfl (lb rfl) (svaI hA rfl rfl))) ?_
       refine .cons (lop rfl rfl fun S hA=>(bM rfl rfl (lb rfl) (svaI hA rfl rfl) (svaI hA rfl rfl) rfl hx37)) ?_
       refine .cons (lop rfl rfl fun S hA=>(bN (ds':=q24) rfl rfl ti40 (svaR hA rfl rfl) (agi hA rfl rfl) (svaA q24 hA rfl rfl) rfl rfl rfl (nle rfl) rfl)) ?_
       refine .cons (lop rfl rfl fun S hA=>(aH rfl rfl (lb rfl) (svaI hA rfl rfl))) ?_
       exact .nil
      refine aT ?_
      obtain rfl:=Option.some.inj h
      refine ⟨.inr rfl,_,(.cons (rva la40 rfl rfl (nle rfl) rfl) (.cons (sv rfl) .nil)),(.cons (.agg (.k (.k (.cons (FDT aL rfl rfl) .nil)))) (.all _))⟩

theorem zK (a0 : bV) (a1 : Int) (a2 : (List UInt8)) (a3 : Bool) (r : (bV × Int × Int)) (h : pU a0 a1 a2 a3 = some r) : cF Tryz.prog 42 [.agg (v4 a0),.int .i64 a1,.str a2,.bool a3] (retD [.agg (v4 r.1),.int .i64 r.2.1,.int .u32 r.2.2]):=by
 refine bA (rs:=[.agg (v4 r.1),.int .i64 r.2.1,.int .u32 r.2.2]) Tryz.func42 rfl Tryz.ntmps42 (nle rfl) rfl fun O hO=>?_
 show IWP _ _ _ _ ⟨[(0,.agg (v4 a0)),(1,.int .i64 a1),(2,.str a2),(3,.bool a3)],[]⟩ _
 unfold pU at h
 refine aE (aA rfl (bR (cs:=q19) 0 rfl rfl (lb rfl) rfl (svA q19 rfl) rfl rfl) <|aA rfl (bD (cs:=q22) (cs':=(w44 0 [] ([] : List aN) 0)) 1 rfl rfl (lb rfl) rfl ti42 rfl rfl (.k (.k (.cons (.nils _) (.all _))))) <|aA rfl (aH rfl rfl (lb rfl) (sv (d:=.int _ 0) rfl)) <|aA rfl (aH rfl rfl (lb rfl) (sv (d:=.int _ 0) rfl)) <|aD ?_)
 refine bC ?_
 obtain ⟨x1,hx1,h⟩:=aQ h
 obtain ⟨x2,hx2,h⟩:=aQ h
 obtain ⟨x3,hx3,h⟩:=aQ h
 obtain ⟨x4,hx4,h⟩:=aQ h
 obtain ⟨x5,hx5,h⟩:=bF h
 obtain ⟨x6,hx6,h⟩:=aQ h
 obtain ⟨x7,hx7,h⟩:=aQ h
 refine aE (aA rfl (mvI rfl rfl rfl rfl) <|aA rfl (aP rfl rfl (lb rfl) (svI rfl) (sv (d:=.int _ 0) rfl) rfl hx1) <|aA rfl (mvB rfl rfl rfl rfl) <|aC rfl rfl (.one rfl) rfl (by decide) (fun hb=>(mvI rfl rfl rfl rfl)) <|aC rfl rfl (.one rfl) rfl (by decide) (fun hb=>(aM rfl rfl (lb rfl) (sv (d:=.str _) rfl))) <|aC rfl rfl (.one rfl) rfl (by decide) (fun hb=>(cT rfl rfl (lb rfl) Tryz.underlying9 (svc (d:=.str _) rfl hb) rfl)) <|aC rfl rfl (.one rfl) rfl (by decide) (fun hb=>(bM rfl rfl (lb rfl) (sv (d:=.int _ 1099511627776) rfl) (svcI rfl hb) rfl hx2)) <|aC rfl rfl (.one rfl) rfl (by decide) (fun hb=>(aP rfl rfl (lb rfl) (svcI rfl hb) (svcI rfl hb) rfl hx3)) <|aA rfl (cQ rfl rfl (lb rfl) (svB rfl) rfl rfl hx4) <|aA rfl (mvB rfl rfl rfl rfl) <|aC rfl rfl (.one rfl) rfl (by decide) (fun hb=>(lra q19 la42 rfl rfl rfl rfl rfl (nle rfl) rfl)) <|aC rfl rfl (.one rfl) rfl (by decide) (fun hb=>(aU (r:=.int _ _) rfl rfl (lb rfl) cl96 (.cons (svcA (v4 a0) rfl hb) .nil) rfl (oG _ _ (gd_t hx5 hb)))) <|aC rfl rfl (.one rfl) rfl (by decide) (fun hb=>(aP rfl rfl (lb rfl) (svcI rfl hb) (sv (d:=.int _ 0) rfl) rfl hx6)) <|aA rfl (cQ rfl rfl (lb rfl) (svB rfl) rfl rfl hx7) <|aD ?_)
 refine aV (b:=_) rfl (fun hc8=>?_) (fun hc8=>?_)
 ·
  replace h:=cD h hc8
  refine aE (aA rfl (lra q19 la42 rfl rfl rfl rfl rfl (nle rfl) rfl) <|aA rfl (stA q19 q19 ti42 rfl rfl rfl rfl rfl rfl rfl rfl (nle rfl) rfl) <|aA rfl (aH rfl rfl (lb rfl) (sv (d:=.int _ 0) rfl)) <|aA rfl (aH rfl rfl (lb rfl) (sv (d:=.int _ 2) rfl)) <|aD ?_)
  refine aT ?_
  refine bI ?_
  obtain rfl:=Option.some.inj h
  refine ⟨.inr rfl,(.cons (rva la42 rfl rfl (nle rfl) rfl) (.cons (sv rfl) (.cons (sv rfl) .nil)))⟩
 ·
  replace h:=cE h hc8
  refine aY ?_
  refine aS ?_
  obtain ⟨x9,hx9,h⟩:=aQ h
  refine aE (aA rfl (mvI rfl rfl rfl rfl) <|aA rfl (aM rfl rfl (lb rfl) (sv (d:=.str _) rfl)) <|aA rfl (cT rfl rfl (lb rfl) Tryz.underlying9 (sv (d:=.str _) rfl) rfl) <|aA rfl (bM rfl rfl (lb rfl) (svI rfl) (svI rfl) rfl hx9) <|aA rfl (asI rfl rfl rfl rfl) <|aD ?_)
  refine bC ?_
  obtain ⟨x10,hx10,h⟩:=bF h
  obtain ⟨x11,hx11,h⟩:=bF h
  refine aE (aA rfl (lra q19 la42 rfl rfl rfl rfl rfl (nle rfl) rfl) <|aA rfl (aU (r:=.agg q19) rfl rfl (lb rfl) cl97 (.cons (svA q19 rfl) .nil) rfl (pG _ _ hx10)) <|aA rfl (mvI rfl rfl rfl rfl) <|aA rfl (mvB rfl rfl rfl rfl) <|aA rfl (aU (r:=.bool _) rfl rfl (lb rfl) cl98 (.cons (svA q19 rfl) (.cons (svI rfl) (.cons (svB rfl) .nil))) rfl (oV _ _ _ _ hx11)) <|aD ?_)
  refine aV (b:=_) rfl (fun hc12=>?_) (fun hc12=>?_)
  ·
   replace h:=cD h hc12
   refine aE (aA rfl (lra q19 la42 rfl rfl rfl rfl rfl (nle rfl) rfl) <|aA rfl (stA q19 q19 ti42 rfl rfl rfl rfl rfl rfl rfl rfl (nle rfl) rfl) <|aA rfl (aH rfl rfl (lb rfl) (sv (d:=.int _ 0) rfl)) <|aA rfl (aH rfl rfl (lb rfl) (sv (d:=.int _ 5) rfl)) <|aD ?_)
   refine aT ?_
   refine bI ?_
   obtain rfl:=Option.some.inj h
   refine ⟨.inr rfl,(.cons (rva la42 rfl rfl (nle rfl) rfl) (.cons (sv rfl) (.cons (sv rfl) .nil)))⟩
  ·
   replace h:=cE h hc12
   refine aY ?_
   refine aS ?_
   obtain ⟨x13,hx13,h⟩:=bF h
   refine aE (aA rfl (faR 0 rfl rfl rfl Tryz.underlying42 rfl ti40 (lb rfl) rfl rfl) <|aA rfl (lra q23 la40 rfl rfl rfl rfl rfl (nle rfl) rfl) <|aA rfl (mvI rfl rfl rfl rfl) <|aA rfl (aM rfl rfl (lb rfl) (sv (d:=.str _) rfl)) <|aA rfl (aU (r:=.tuple [.agg q23,.int _ _]) rfl rfl (lb rfl) cl99 (.cons (svA q23 rfl) (.cons (svI rfl) (.cons (sv (d:=.str _) rfl) .nil))) rfl (xQ _ _ _ _ hx13)) <|aA rfl (aM rfl rfl (lb rfl) (sv (d:=.tuple [.agg q23,.int _ _]) rfl)) <|aA rfl (aZ (d:=.agg q23) rfl rfl (lb rfl) (sv (d:=.tuple [.agg q23,.int _ _]) rfl) rfl) <|aA rfl (aZ (d:=.int _ _) rfl rfl (lb rfl) (sv (d:=.tuple [.agg q23,.int _ _]) rfl) rfl) <|aA rfl (bD (cs:=q26) (cs':=[.int .i64 0,.str [],.slice false (([] : List aN).map aL.d)]) 2 rfl rfl (lb rfl) rfl ti40 rfl rfl (.k (.k (.cons (.nils _) .nil)))) <|aA rfl (stA q23 q23 ti40 rfl rfl rfl rfl rfl rfl rfl rfl (nle rfl) rfl) <|aA rfl (asI rfl rfl rfl rfl) <|aD ?_)
   refine aE (aA rfl (lra q23 la40 rfl rfl rfl rfl rfl (nle rfl) rfl) <|aA rfl (faR 0 rfl rfl rfl Tryz.underlying42 rfl ti40 (lb rfl) rfl rfl) <|aA rfl (stA q23 q19 ti40 rfl rfl rfl rfl rfl rfl rfl rfl (nle rfl) rfl) <|aD ?_)
   refine kN (α:=Int) (fun z=>⟨[(4,.ref 0 0),(8,.ref 1 0),(13,.int .i64 x13.2)],[(0,.blk 42 (w44 x13.1.Base x13.1.Ready x13.1.Parts z)),(1,.blk 42 (w44 0 [] ([] : List aN) 0))]⟩) (fun z=>nH x13 z = some r) ?_ ?_
   ·
    refine aE (aA rfl (mvB rfl rfl rfl rfl) <|aD ?_)
    refine aV (b:=_) rfl (fun hc16=>?_) (fun hc16=>?_)
    ·
     replace h:=cD h hc16
     refine bO (aA rfl (mvI rfl rfl rfl rfl) <|aA rfl (faR 3 rfl rfl rfl Tryz.underlying42 rfl ti3 (lb rfl) rfl rfl) <|aA rfl (bN (ds':=q19) rfl rfl ti3 (svR rfl) rfl (svI rfl) rfl rfl rfl (nle rfl) rfl) <|cL ?_)
     refine aS ⟨x9,(fun i=>i),⟨(.sames rfl rfl),(.cons (.blk rfl rfl rfl) (.cons (.blk rfl rfl rfl) .nil)),cK [0,1] rfl (by decide),fun _ _=>rfl⟩,?_⟩
     exact h
    ·
     replace h:=cE h hc16
     refine aY ?_
     refine aS ⟨a0.End,(fun i=>i),⟨(.sames rfl rfl),(.cons (.blk rfl rfl rfl) (.cons (.blk rfl rfl rfl) .nil)),cK [0,1] rfl (by decide),fun _ _=>rfl⟩,?_⟩
     exact h
   ·
    rintro v15 h
    unfold nH at h
    refine aE (aA rfl (lra q19 la42 rfl rfl rfl rfl rfl (nle rfl) rfl) <|aA rfl (mvI rfl rfl rfl rfl) <|aA rfl (stA q19 q19 ti42 rfl rfl rfl rfl rfl rfl rfl rfl (nle rfl) rfl) <|aA rfl (asI rfl rfl rfl rfl) <|aA rfl (aH rfl rfl (lb rfl) (sv (d:=.int _ 0) rfl)) <|aD ?_)
    refine aT ?_
    obtain rfl:=Option.some.inj h
    refine ⟨.inr rfl,(.cons (rva la42 rfl rfl (nle rfl) rfl) (.cons (sv rfl) (.cons (sv rfl) .nil)))⟩

theorem lD (a0 : aR) (a1 : Int) (a2 : (List UInt8)) (a3 : Bool) (r : (aR × Int × Int)) (h : fD a0 a1 a2 a3 = some r) : cF Tryz.prog 12 [.agg (v1 a0),.int .i64 a1,.str a2,.bool a3] (retD [.agg (v1 r.1),.int .i64 r.2.1,.int .u32 r.2.2]):=by
 refine bA (rs:=[.agg (v1 r.1),.int .i64 r.2.1,.int .u32 r.2.2]) Tryz.func12 rfl Tryz.ntmps12 (nle rfl) rfl fun O hO=>?_
 show IWP _ _ _ _ ⟨[(0,.agg (v1 a0)),(1,.int .i64 a1),(2,.str a2),(3,.bool a3)],[]⟩ _
 unfold fD at h
 refine aE (aA rfl (bR (cs:=q13) 0 rfl rfl (lb rfl) rfl (svA q13 rfl) rfl rfl) <|aA rfl (bD (cs:=q14) (cs':=(w41 0 0 [] 0 ([] : List aJ) ([] : List aG) false false false false 0 [] ([] : List aN) 0 0 0 0 0 0 0 0 0 0 0)) 1 rfl rfl (lb rfl) rfl ti46 rfl rfl (.k4 (.cons (.nils _) (.cons (.nils _) (.k4 (.k (.k (.cons (.nils _) (.all _))))))))) <|aA rfl (aH rfl rfl (lb rfl) (sv (d:=.int _ 0) rfl)) <|aA rfl (aH rfl rfl (lb rfl) (sv (d:=.int _ 0) rfl)) <|aD ?_)
 refine bC ?_
 obtain ⟨x1,hx1,h⟩:=bF h
 obtain ⟨x2,hx2,h⟩:=aQ h
 obtain ⟨x3,hx3,h⟩:=aQ h
 obtain ⟨x4,hx4,h⟩:=aQ h
 obtain ⟨x5,hx5,h⟩:=aQ h
 refine aE (aA rfl (lra q13 la46 rfl rfl rfl rfl rfl (nle rfl) rfl) <|aA rfl (aU (r:=.int _ _) rfl rfl (lb rfl) cl39 (.cons (svA q13 rfl) .nil) rfl (eY _ _ hx1)) <|aA rfl (aP rfl rfl (lb rfl) (svI rfl) (sv (d:=.int _ 0) rfl) rfl hx2) <|aA rfl (mvB rfl rfl rfl rfl) <|aC rfl rfl (.one rfl) rfl (by decide) (fun hb=>(aM rfl rfl (lb rfl) (sv (d:=.str _) rfl))) <|aC rfl rfl (.one rfl) rfl (by decide) (fun hb=>(jC rfl rfl (lb rfl) (svc (d:=.str _) rfl hb) (sv (d:=.str []) rfl) rfl hx3)) <|aC rfl rfl (.one rfl) rfl (by decide) (fun hb=>(aM rfl rfl (lb rfl) (svcB rfl hb))) <|aC rfl rfl (.two rfl) rfl (by decide) (fun hb=>(mvB rfl rfl rfl rfl)) <|aC rfl rfl (.two rfl) rfl (by decide) (fun hb=>(dB rfl rfl (lb rfl) (svcB rfl hb))) <|aC rfl rfl (.one rfl) rfl (by decide) (fun hb=>(jH rfl rfl (lb rfl) hb (svcB rfl hb) rfl rfl hx4)) <|aA rfl (cQ rfl rfl (lb rfl) (svB rfl) rfl rfl hx5) <|aD ?_)
 refine aV (b:=_) rfl (fun hc6=>?_) (fun hc6=>?_)
 ·
  replace h:=cD h hc6
  refine aE (aA rfl (lra q13 la46 rfl rfl rfl rfl rfl (nle rfl) rfl) <|aA rfl (stA q13 q13 ti46 rfl rfl rfl rfl rfl rfl rfl rfl (nle rfl) rfl) <|aA rfl (aH rfl rfl (lb rfl) (sv (d:=.int _ 0) rfl)) <|aA rfl (aH rfl rfl (lb rfl) (sv (d:=.int _ 0) rfl)) <|aD ?_)
  refine aT ?_
  refine bI ?_
  obtain rfl:=Option.some.inj h
  refine ⟨.inr rfl,(.cons (rva la46 rfl rfl (nle rfl) rfl) (.cons (sv rfl) (.cons (sv rfl) .nil)))⟩
 ·
  replace h:=cE h hc6
  refine aY ?_
  refine aS ?_
  refine bC ?_
  obtain ⟨x7,hx7,h⟩:=bF h
  refine aE (aA rfl (mvI rfl rfl rfl rfl) <|aA rfl (aU (r:=.bool _) rfl rfl (lb rfl) cl40 (.cons (svI rfl) (.cons (sv (d:=.int _ 0) rfl) (.cons (sv (d:=.int _ 1099511627776) rfl) .nil))) rfl (oD _ _ _ _ hx7)) <|aA rfl (dB rfl rfl (lb rfl) (svB rfl)) <|aD ?_)
  refine aV (b:=_) rfl (fun hc8=>?_) (fun hc8=>?_)
  ·
   replace h:=cD h hc8
   refine aE (aA rfl (lra q13 la46 rfl rfl rfl rfl rfl (nle rfl) rfl) <|aA rfl (stA q13 q13 ti46 rfl rfl rfl rfl rfl rfl rfl rfl (nle rfl) rfl) <|aA rfl (aH rfl rfl (lb rfl) (sv (d:=.int _ 0) rfl)) <|aA rfl (aH rfl rfl (lb rfl) (sv (d:=.int _ 3) rfl)) <|aD ?_)
   refine aT ?_
   refine bI ?_
   obtain rfl:=Option.some.inj h
   refine ⟨.inr rfl,(.cons (rva la46 rfl rfl (nle rfl) rfl) (.cons (sv rfl) (.cons (sv rfl) .nil)))⟩
  ·
   replace h:=cE h hc8
   refine aY ?_
   refine aS ?_
   obtain ⟨x9,hx9,h⟩:=aQ h
   obtain ⟨x10,hx10,h⟩:=bF h
   refine aE (aA rfl (faR 18 rfl rfl rfl Tryz.underlying46 rfl ti44 (lb rfl) rfl rfl) <|aA rfl (lra q18 la44 rfl rfl rfl rfl rfl (nle rfl) rfl) <|aA rfl (mvI rfl rfl rfl rfl) <|aA rfl (aM rfl rfl (lb rfl) (sv (d:=.str _) rfl)) <|aA rfl (cT rfl rfl (lb rfl) Tryz.underlying9 (sv (d:=.str _) rfl) rfl) <|aA rfl (bM rfl rfl (lb rfl) (svI rfl) (svI rfl) rfl hx9) <|aA rfl (aU (r:=.tuple q35) rfl rfl (lb rfl) cl41 (.cons (svA q18 rfl) (.cons (svI rfl) .nil)) rfl (tQ _ _ _ hx10)) <|aA rfl (aM rfl rfl (lb rfl) (sv (d:=.tuple q35) rfl)) <|aA rfl (aZ (d:=.agg q18) rfl rfl (lb rfl) (sv (d:=.tuple q35) rfl) rfl) <|aA rfl (aZ (d:=.int _ _) rfl rfl (lb rfl) (sv (d:=.tuple q35) rfl) rfl) <|aA rfl (aZ (d:=.bool _) rfl rfl (lb rfl) (sv (d:=.tuple q35) rfl) rfl) <|aA rfl (bD (cs:=q18) (cs':=(w45 0 0 0 0)) 2 rfl rfl (lb rfl) rfl ti44 rfl rfl (.all _)) <|aA rfl (stA q18 q18 ti44 rfl rfl rfl rfl rfl rfl rfl rfl (nle rfl) rfl) <|aA rfl (asI rfl rfl rfl rfl) <|aA rfl (asB rfl rfl rfl rfl) <|aD ?_)
   refine bC ?_
   refine aE (aA rfl (mvB rfl rfl rfl rfl) <|aA rfl (dB rfl rfl (lb rfl) (svB rfl)) <|aD ?_)
   refine aV (b:=_) rfl (fun hc11=>?_) (fun hc11=>?_)
   ·
    replace h:=cD h hc11
    refine aE (aA rfl (lra q13 la46 rfl rfl rfl rfl rfl (nle rfl) rfl) <|aA rfl (stA q13 q13 ti46 rfl rfl rfl rfl rfl rfl rfl rfl (nle rfl) rfl) <|aA rfl (aH rfl rfl (lb rfl) (sv (d:=.int _ 0) rfl)) <|aA rfl (aH rfl rfl (lb rfl) (sv (d:=.int _ 3) rfl)) <|aD ?_)
    refine aT ?_
    refine bI ?_
    obtain rfl:=Option.some.inj h
    refine ⟨.inr rfl,(.cons (rva la46 rfl rfl (nle rfl) rfl) (.cons (sv rfl) (.cons (sv rfl) .nil)))⟩
   ·
    replace h:=cE h hc11
    refine aY ?_
    refine aS ?_
    obtain ⟨x12,hx12,h⟩:=bF h
    refine aE (aA rfl (faR 10 rfl rfl rfl Tryz.underlying46 rfl ti42 (lb rfl) rfl rfl) <|aA rfl (lra q19 la42 rfl rfl rfl rfl rfl (nle rfl) rfl) <|aA rfl (mvI rfl rfl rfl rfl) <|aA rfl (aM rfl rfl (lb rfl) (sv (d:=.str _) rfl)) <|aA rfl (mvB rfl rfl rfl rfl) <|aA rfl (aU (r:=.tuple q33) rfl rfl (lb rfl) cl42 (.cons (svA q19 rfl) (.cons (svI rfl) (.cons (sv (d:=.str _) rfl) (.cons (svB rfl) .nil)))) rfl (zK _ _ _ _ _ hx12)) <|aA rfl (aM rfl rfl (lb rfl) (sv (d:=.tuple q33) rfl)) <|aA rfl (aZ (d:=.agg q19) rfl rfl (lb rfl) (sv (d:=.tuple q33) rfl) rfl) <|aA rfl (aZ (d:=.int _ _) rfl rfl (lb rfl) (sv (d:=.tuple q33) rfl) rfl) <|aA rfl (aZ (d:=.int _ _) rfl rfl (lb rfl) (sv (d:=.tuple q33) rfl) rfl) <|aA rfl (bD (cs:=q22) (cs':=(w44 0 [] ([] : List aN) 0)) 3 rfl rfl (lb rfl) rfl ti42 rfl rfl (.k (.k (.cons (.nils _) (.all _))))) <|aA rfl (stA q19 q19 ti42 rfl rfl rfl rfl rfl rfl rfl rfl (nle rfl) rfl) <|aA rfl (asI rfl rfl rfl rfl) <|aA rfl (asI rfl rfl rfl rfl) <|aD ?_)
    refine bC ?_
    obtain ⟨x13,hx13,h⟩:=aQ h
    refine aE (aA rfl (mvI rfl rfl rfl rfl) <|aA rfl (aP rfl rfl (lb rfl) (svI rfl) (sv (d:=.int _ 0) rfl) rfl hx13) <|aD ?_)
    refine aV (b:=_) rfl (fun hc14=>?_) (fun hc14=>?_)
    ·
     replace h:=cD h hc14
     refine aE (aA rfl (lra q13 la46 rfl rfl rfl rfl rfl (nle rfl) rfl) <|aA rfl (mvI rfl rfl rfl rfl) <|aA rfl (stA q13 q13 ti46 rfl rfl rfl rfl rfl rfl rfl rfl (nle rfl) rfl) <|aA rfl (aH rfl rfl (lb rfl) (sv (d:=.int _ 0) rfl)) <|aA rfl (asI rfl rfl rfl rfl) <|aD ?_)
     refine aT ?_
     refine bI ?_
     obtain rfl:=Option.some.inj h
     refine ⟨.inr rfl,(.cons (rva la46 rfl rfl (nle rfl) rfl) (.cons (sv rfl) (.cons (sv rfl) .nil)))⟩
    ·
     replace h:=cE h hc14
     refine aY ?_
     refine aS ?_
     refine dD rfl [⟨[11],[2],[(61,.agg (v6 x10.1))],[]⟩,
      ⟨[14],[3],[(62,.agg (v4 x12.1))],[]⟩,
      ⟨[4],[],[(63,.ref 0 18)],[]⟩,
      ⟨[61,63],[0],[],[(0,.blk 46 (w41 a0.ID a0.Send.Base a0.Send.Data a0.Send.Next a0.Send.Pieces a0.Send.Lost a0.Send.Closed a0.Send.Sent a0.Send.Again a0.Send.Done a0.Recv.Recv.Base a0.Recv.Recv.Ready a0.Recv.Recv.Parts a0.Recv.End a0.Out.Window a0.Out.Limit a0.Out.Used a0.Out.Read x10.1.Window x10.1.Limit x10.1.Used x10.1.Read a0.Mine a0.Hers))]⟩,
      ⟨[4],[],[(64,.ref 0 10)],[]⟩,
      ⟨[62,64],[0],[],[(0,.blk 46 (w41 a0.ID a0.Send.Base a0.Send.Data a0.Send.Next a0.Send.Pieces a0.Send.Lost a0.Send.Closed a0.Send.Sent a0.Send.Again a0.Send.Done x12.1.Recv.Base x12.1.Recv.Ready x12.1.Recv.Parts x12.1.End a0.Out.Window a0.Out.Limit a0.Out.Used a0.Out.Read x10.1.Window x10.1.Limit x10.1.Used x10.1.Read a0.Mine a0.Hers))]⟩] rfl ?_ (by kernel_rfl) ?_
     ·refine .cons (lop rfl rfl fun S hA=>(bK (cs:=q18) rfl rfl (lb rfl) Tryz.underlying44 ag44 ti44 (by decide) (svaR hA rfl rfl) (agi hA rfl rfl) (nle rfl) rfl)) ?_
      refine .cons (lop rfl rfl fun S hA=>(bK (cs:=q19) rfl rfl (lb rfl) Tryz.underlying42 ag42 ti42 (by decide) (svaR hA rfl rfl) (agi hA rfl rfl) (nle rfl) rfl)) ?_
      refine .cons (lop rfl rfl fun S hA=>(aI rfl rfl (lb rfl) Tryz.underlying46 rfl ti44 (by decide) (svaR hA rfl rfl) (off':=18) rfl)) ?_
      refine .cons (lop rfl rfl fun S hA=>(bN (ds':=q13) rfl rfl ti44 (svaR hA rfl rfl) (agi hA rfl rfl) (svaA q18 hA rfl rfl) rfl rfl rfl (nle rfl) rfl)) ?_
      refine .cons (lop rfl rfl fun S hA=>(aI rfl rfl (lb rfl) Tryz.underlying46 rfl ti42 (by decide) (svaR hA rfl rfl) (off':=10) rfl)) ?_
      refine .cons (lop rfl rfl fun S hA=>(bN (ds':=q13) rfl rfl ti42 (svaR hA rfl rfl) (agi hA rfl rfl) (svaA q19 hA rfl rfl) rfl rfl rfl (nle rfl) rfl)) ?_
      exact .nil
     refine aE (aA rfl (lra q13 la46 rfl rfl rfl rfl rfl (nle rfl) rfl) <|aA rfl (mvI rfl rfl rfl rfl) <|aA rfl (stA q13 q13 ti46 rfl rfl rfl rfl rfl rfl rfl rfl (nle rfl) rfl) <|aA rfl (asI rfl rfl rfl rfl) <|aA rfl (aH rfl rfl (lb rfl) (sv (d:=.int _ 0) rfl)) <|aD ?_)
     refine aT ?_
     obtain rfl:=Option.some.inj h
     refine ⟨.inr rfl,(.cons (rva la46 rfl rfl (nle rfl) rfl) (.cons (sv rfl) (.cons (sv rfl) .nil)))⟩

theorem wH (a0 : bJ) (a1 : Int) (r : (bJ × (List UInt8))) (h : mR a0 a1 = some r) : cF Tryz.prog 132 [.agg (v5 a0),.int .i64 a1] (retD [.agg (v5 r.1),.str r.2]):=by
 refine bA (rs:=[.agg (v5 r.1),.str r.2]) Tryz.func132 rfl Tryz.ntmps132 (nle rfl) rfl fun O hO=>?_
 show IWP _ _ _ _ ⟨[(0,.agg (v5 a0)),(1,.int .i64 a1)],[]⟩ _
 unfold mR at h
 refine aE (aA rfl (bR (cs:=q23) 0 rfl rfl (lb rfl) rfl (svA q23 rfl) rfl rfl) <|aA rfl (bD (cs:=q26) (cs':=[.int .i64 0,.str [],.slice false (([] : List aN).map aL.d)]) 1 rfl rfl (lb rfl) rfl ti40 rfl rfl (.k (.k (.cons (.nils _) .nil)))) <|aA rfl (aH rfl rfl (lb rfl) (sv (d:=.str []) rfl)) <|aD ?_)
 obtain ⟨x1,hx1,h⟩:=bF h
 refine aE (aA rfl (faR 2 rfl rfl rfl Tryz.underlying40 rfl ti38 (lb rfl) rfl rfl) <|aA rfl (lrL la38 rfl rfl rfl rfl rfl (nle rfl) rfl) <|aA rfl (aU (r:=.slice _ _) rfl rfl (lb rfl) cl146 (.cons (svL rfl) .nil) rfl (fS _ _ hx1)) <|aA rfl (faR 2 rfl rfl rfl Tryz.underlying40 rfl ti38 (lb rfl) rfl rfl) <|aA rfl (bN (ds':=q23) rfl rfl ti38 (svR rfl) rfl (svL rfl) rfl rfl rfl (nle rfl) rfl) <|aD ?_)
 refine bC ?_
 obtain ⟨x2,hx2,h⟩:=aQ h
 obtain ⟨x3,hx3,h⟩:=bF h
 obtain ⟨x4,hx4,h⟩:=aQ h
 obtain ⟨x5,hx5,h⟩:=aQ h
 refine aE (aA rfl (mvI rfl rfl rfl rfl) <|aA rfl (aP rfl rfl (lb rfl) (svI rfl) (sv (d:=.int _ 1) rfl) rfl hx2) <|aA rfl (mvB rfl rfl rfl rfl) <|aC rfl rfl (.one rfl) rfl (by decide) (fun hb=>(lra q23 la40 rfl rfl rfl rfl rfl (nle rfl) rfl)) <|aC rfl rfl (.one rfl) rfl (by decide) (fun hb=>(aU (r:=.int _ _) rfl rfl (lb rfl) cl143 (.cons (svc (d:=.agg [.int .i64 a0.Base,.str a0.Ready,.slice false (x1.map aL.d)]) rfl hb) .nil) rfl (nJ _ _ (gd_t hx3 hb)))) <|aC rfl rfl (.one rfl) rfl (by decide) (fun hb=>(aP rfl rfl (lb rfl) (svcI rfl hb) (sv (d:=.int _ 0) rfl) rfl hx4)) <|aA rfl (cQ rfl rfl (lb rfl) (svB rfl) rfl rfl hx5) <|aD ?_)
 refine aV (b:=_) rfl (fun hc6=>?_) (fun hc6=>?_)
 ·
  replace h:=cD h hc6
  refine aE (aA rfl (lra q23 la40 rfl rfl rfl rfl rfl (nle rfl) rfl) <|aA rfl (stA q23 q23 ti40 rfl rfl rfl rfl rfl rfl rfl rfl (nle rfl) rfl) <|aA rfl (aH rfl rfl (lb rfl) (sv (d:=.str []) rfl)) <|aD ?_)
  refine aT ?_
  refine bI ?_
  obtain rfl:=Option.some.inj h
  refine ⟨.inr rfl,(.cons (rva la40 rfl rfl (nle rfl) rfl) (.cons (sv rfl) .nil))⟩
 ·
  replace h:=cE h hc6
  refine aY ?_
  refine aS ?_
  obtain ⟨x7,hx7,h⟩:=aQ h
  refine aE (aA rfl (mvI rfl rfl rfl rfl) <|aA rfl (faR 1 rfl rfl rfl Tryz.underlying40 rfl ti9 (lb rfl) rfl rfl) <|aA rfl (aF (d:=.str _) rfl rfl (lb rfl) Tryz.underlying9 ag9 ti9 (by decide) (svR rfl) rfl (nle rfl) rfl) <|aA rfl (cT rfl rfl (lb rfl) Tryz.underlying9 (sv (d:=.str _) rfl) rfl) <|aA rfl (jD rfl rfl (lb rfl) (svI rfl) (svI rfl) hx7) <|aA rfl (asI rfl rfl rfl rfl) <|aD ?_)
  obtain ⟨x8,hx8,h⟩:=bF h
  refine aE (aA rfl (faR 1 rfl rfl rfl Tryz.underlying40 rfl ti9 (lb rfl) rfl rfl) <|aA rfl (aF (d:=.str _) rfl rfl (lb rfl) Tryz.underlying9 ag9 ti9 (by decide) (svR rfl) rfl (nle rfl) rfl) <|aA rfl (mvI rfl rfl rfl rfl) <|aA rfl (jL rfl rfl (lb rfl) Tryz.underlying9 (sv (d:=.str _) rfl) rfl ⟨_,(svI rfl)⟩ hx8) <|aA rfl (aH rfl rfl (lb rfl) (sv (d:=.str _) rfl)) <|aD ?_)
  obtain ⟨x9,hx9,h⟩:=bF h
  refine aE (aA rfl (faR 1 rfl rfl rfl Tryz.underlying40 rfl ti9 (lb rfl) rfl rfl) <|aA rfl (aF (d:=.str _) rfl rfl (lb rfl) Tryz.underlying9 ag9 ti9 (by decide) (svR rfl) rfl (nle rfl) rfl) <|aA rfl (mvI rfl rfl rfl rfl) <|aA rfl (jL rfl rfl (lb rfl) Tryz.underlying9 (sv (d:=.str _) rfl) ⟨_,(svI rfl)⟩ rfl hx9) <|aA rfl (faR 1 rfl rfl rfl Tryz.underlying40 rfl ti9 (lb rfl) rfl rfl) <|aA rfl (bN (ds':=q23) rfl rfl ti9 (svR rfl) rfl (sv (d:=.str _) rfl) rfl rfl rfl (nle rfl) rfl) <|aD ?_)
  refine aE (aA rfl (lra q23 la40 rfl rfl rfl rfl rfl (nle rfl) rfl) <|aA rfl (aM rfl rfl (lb rfl) (sv (d:=.str _) rfl)) <|aA rfl (stA q23 q23 ti40 rfl rfl rfl rfl rfl rfl rfl rfl (nle rfl) rfl) <|aA rfl (aH rfl rfl (lb rfl) (sv (d:=.str _) rfl)) <|aD ?_)
  refine aT ?_
  obtain rfl:=Option.some.inj h
  refine ⟨.inr rfl,(.cons (rva la40 rfl rfl (nle rfl) rfl) (.cons (sv rfl) .nil))⟩

theorem wI (a0 : bV) (r : Bool) (h : oQ a0 = some r) : cF Tryz.prog 123 [.agg (v4 a0)] (.bool r):=by
 refine bA (rs:=[.bool r]) Tryz.func123 rfl Tryz.ntmps123 (nle rfl) rfl fun O hO=>?_
 show IWP _ _ _ _ ⟨[(0,.agg (v4 a0))],[]⟩ _
 unfold oQ at h
 refine aE (aA rfl (bR (cs:=q19) 0 rfl rfl (lb rfl) rfl (svA q19 rfl) rfl rfl) <|aA rfl (aH rfl rfl (lb rfl) (sv (d:=.bool false) rfl)) <|aD ?_)
 obtain ⟨x1,hx1,h⟩:=bF h
 refine aE (aA rfl (lra q19 la42 rfl rfl rfl rfl rfl (nle rfl) rfl) <|aA rfl (aU (r:=.agg q19) rfl rfl (lb rfl) cl97 (.cons (svA q19 rfl) .nil) rfl (pG _ _ hx1)) <|aA rfl (bD (cs:=q22) (cs':=(w44 0 [] ([] : List aN) 0)) 1 rfl rfl (lb rfl) rfl zD rfl rfl (.k (.k (.cons (.nils _) (.all _))))) <|aA rfl (stA q19 q19 zD rfl rfl rfl rfl rfl rfl rfl rfl (nle rfl) rfl) <|aD ?_)
 obtain ⟨x2,hx2,h⟩:=bF h
 obtain ⟨x3,hx3,h⟩:=aQ h
 obtain ⟨x4,hx4,h⟩:=aQ h
 obtain ⟨x5,hx5,h⟩:=bF h
 obtain ⟨x6,hx6,h⟩:=aQ h
 obtain ⟨x7,hx7,h⟩:=aQ h
 refine aE (aA rfl (lra q19 aBZ rfl rfl rfl rfl rfl (nle rfl) rfl) <|aA rfl (aU (r:=.bool _) rfl rfl (lb rfl) cl144 (.cons (svA q19 rfl) .nil) rfl (lT _ _ hx2)) <|aA rfl (mvB rfl rfl rfl rfl) <|aC rfl rfl (.one rfl) rfl (by decide) (fun hb=>(faR 0 rfl rfl rfl Tryz.underlying173 rfl ti40 (lb rfl) rfl rfl)) <|aC rfl rfl (.one rfl) rfl (by decide) (fun hb=>(aI rfl rfl (lb rfl) Tryz.underlying40 rfl ti3 (by decide) (svcR rfl hb) (off':=0) rfl)) <|aC rfl rfl (.one rfl) rfl (by decide) (fun hb=>(aF (d:=.int _ _) rfl rfl (lb rfl) Tryz.underlying3 ag3 ti3 (by decide) (svcR rfl hb) rfl (nle rfl) rfl)) <|aC rfl rfl (.one rfl) rfl (by decide) (fun hb=>(faR 3 rfl rfl rfl Tryz.underlying173 rfl ti3 (lb rfl) rfl rfl)) <|aC rfl rfl (.one rfl) rfl (by decide) (fun hb=>(aF (d:=.int _ _) rfl rfl (lb rfl) Tryz.underlying3 ag3 ti3 (by decide) (svcR rfl hb) rfl (nle rfl) rfl)) <|aC rfl rfl (.one rfl) rfl (by decide) (fun hb=>(aP rfl rfl (lb rfl) (svcI rfl hb) (svcI rfl hb) rfl hx3)) <|aA rfl (bT rfl rfl (lb rfl) (svB rfl) rfl rfl hx4) <|aA rfl (mvB rfl rfl rfl rfl) <|aC rfl rfl (.one rfl) rfl (by decide) (fun hb=>(lra q19 la42 rfl rfl rfl rfl rfl (nle rfl) rfl)) <|aC rfl rfl (.one rfl) rfl (by decide) (fun hb=>(aU (r:=.int _ _) rfl rfl (lb rfl) cl96 (.cons (svcA (v4 a0) rfl hb) .nil) rfl (oG _ _ (gd_t hx5 hb)))) <|aC rfl rfl (.one rfl) rfl (by decide) (fun hb=>(aP rfl rfl (lb rfl) (svcI rfl hb) (sv (d:=.int _ 0) rfl) rfl hx6)) <|aA rfl (bT rfl rfl (lb rfl) (svB rfl) rfl rfl hx7) <|aA rfl (asB rfl rfl rfl rfl) <|aD ?_)
 refine aT ?_
 obtain rfl:=Option.some.inj h
 refine ⟨.inr rfl,(.cons (sv rfl) .nil)⟩

theorem rH (a0 : bV) (r : Bool) (h : lI a0 = some r) : cF Tryz.prog 70 [.agg (v4 a0)] (.bool r):=by
 refine bA (rs:=[.bool r]) Tryz.func70 rfl Tryz.ntmps70 (nle rfl) rfl fun O hO=>?_
 show IWP _ _ _ _ ⟨[(0,.agg (v4 a0))],[]⟩ _
 unfold lI at h
 refine aE (aA rfl (bR (cs:=q19) 0 rfl rfl (lb rfl) rfl (svA q19 rfl) rfl rfl) <|aA rfl (aH rfl rfl (lb rfl) (sv (d:=.bool false) rfl)) <|aD ?_)
 obtain ⟨x1,hx1,h⟩:=aQ h
 obtain ⟨x2,hx2,h⟩:=bF h
 obtain ⟨x3,hx3,h⟩:=aQ h
 refine aE (aA rfl (faR 0 rfl rfl rfl Tryz.underlying42 rfl ti40 (lb rfl) rfl rfl) <|aA rfl (faR 1 rfl rfl rfl Tryz.underlying40 rfl ti9 (lb rfl) rfl rfl) <|aA rfl (aF (d:=.str _) rfl rfl (lb rfl) Tryz.underlying9 ag9 ti9 (by decide) (svR rfl) rfl (nle rfl) rfl) <|aA rfl (jC rfl rfl (lb rfl) (sv (d:=.str _) rfl) (sv (d:=.str []) rfl) rfl hx1) <|aA rfl (mvB rfl rfl rfl rfl) <|aC rfl rfl (.one rfl) rfl (by decide) (fun hb=>(lra q19 la42 rfl rfl rfl rfl rfl (nle rfl) rfl)) <|aC rfl rfl (.one rfl) rfl (by decide) (fun hb=>(aU (r:=.bool _) rfl rfl (lb rfl) cl123 (.cons (svcA (v4 a0) rfl hb) .nil) rfl (wI _ _ (gd_t hx2 hb)))) <|aA rfl (bT rfl rfl (lb rfl) (svB rfl) rfl rfl hx3) <|aA rfl (asB rfl rfl rfl rfl) <|aD ?_)
 refine aT ?_
 obtain rfl:=Option.some.inj h
 refine ⟨.inr rfl,(.cons (sv rfl) .nil)⟩

theorem xT (a0 : bV) (a1 : Int) (r : (bV × (List UInt8) × Bool)) (h : pT a0 a1 = some r) : cF Tryz.prog 84 [.agg (v4 a0),.int .i64 a1] (retD [.agg (v4 r.1),.str r.2.1,.bool r.2.2]):=by
 refine bA (rs:=[.agg (v4 r.1),.str r.2.1,.bool r.2.2]) Tryz.func84 rfl Tryz.ntmps84 (nle rfl) rfl fun O hO=>?_
 show IWP _ _ _ _ ⟨[(0,.agg (v4 a0)),(1,.int .i64 a1)],[]⟩ _
 unfold pT at h
 refine aE (aA rfl (bR (cs:=q19) 0 rfl rfl (lb rfl) rfl (svA q19 rfl) rfl rfl) <|aA rfl (bD (cs:=q22) (cs':=(w44 0 [] ([] : List aN) 0)) 1 rfl rfl (lb rfl) rfl ti42 rfl rfl (.k (.k (.cons (.nils _) (.all _))))) <|aA rfl (aH rfl rfl (lb rfl) (sv (d:=.str []) rfl)) <|aA rfl (aH rfl rfl (lb rfl) (sv (d:=.bool false) rfl)) <|aD ?_)
 obtain ⟨x1,hx1,h⟩:=bF h
 refine aE (aA rfl (faR 0 rfl rfl rfl Tryz.underlying42 rfl ti40 (lb rfl) rfl rfl) <|aA rfl (lra q23 la40 rfl rfl rfl rfl rfl (nle rfl) rfl) <|aA rfl (mvI rfl rfl rfl rfl) <|aA rfl (aU (r:=.tuple [.agg q23,.str _]) rfl rfl (lb rfl) cl132 (.cons (svA q23 rfl) (.cons (svI rfl) .nil)) rfl (wH _ _ _ hx1)) <|aA rfl (aM rfl rfl (lb rfl) (sv (d:=.tuple [.agg q23,.str _]) rfl)) <|aA rfl (aZ (d:=.agg q23) rfl rfl (lb rfl) (sv (d:=.tuple [.agg q23,.str _]) rfl) rfl) <|aA rfl (aZ (d:=.str _) rfl rfl (lb rfl) (sv (d:=.tuple [.agg q23,.str _]) rfl) rfl) <|aA rfl (bD (cs:=q26) (cs':=[.int .i64 0,.str [],.slice false (([] : List aN).map aL.d)]) 2 rfl rfl (lb rfl) rfl ti40 rfl rfl (.k (.k (.cons (.nils _) .nil)))) <|aA rfl (stA q23 q23 ti40 rfl rfl rfl rfl rfl rfl rfl rfl (nle rfl) rfl) <|aA rfl (aH rfl rfl (lb rfl) (sv (d:=.str _) rfl)) <|aD ?_)
 refine aE (aA rfl (lra q23 la40 rfl rfl rfl rfl rfl (nle rfl) rfl) <|aA rfl (faR 0 rfl rfl rfl Tryz.underlying42 rfl ti40 (lb rfl) rfl rfl) <|aA rfl (stA q23 q19 ti40 rfl rfl rfl rfl rfl rfl rfl rfl (nle rfl) rfl) <|aD ?_)
 obtain ⟨x2,hx2,h⟩:=bF h
 refine dD rfl [⟨[2],[0],[(18,.agg (w44 x1.1.Base x1.1.Ready x1.1.Parts a0.End))],[]⟩,
  ⟨[8],[],[(19,.str x1.2)],[]⟩,
  ⟨[2],[0],[(20,.agg (w44 x1.1.Base x1.1.Ready x1.1.Parts a0.End))],[]⟩,
  ⟨[20],[],[(21,.bool x2)],[]⟩,
  ⟨[4,18],[1],[],[(1,.blk 42 (w44 x1.1.Base x1.1.Ready x1.1.Parts a0.End))]⟩,
  ⟨[19],[],[(5,.str x1.2)],[]⟩,
  ⟨[21],[],[(6,.bool x2)],[]⟩] rfl ?_ (by kernel_rfl) ?_
 ·refine .cons (lop rfl rfl fun S hA=>(bK (cs:=q19) rfl rfl (lb rfl) Tryz.underlying42 ag42 ti42 (by decide) (svaR hA rfl rfl) (agi hA rfl rfl) (nle rfl) rfl)) ?_
  refine .cons (lop rfl rfl fun S hA=>(aM rfl rfl (lb rfl) (sv (d:=.str _) (agr hA rfl rfl)))) ?_
  refine .cons (lop rfl rfl fun S hA=>(bK (cs:=q19) rfl rfl (lb rfl) Tryz.underlying42 ag42 ti42 (by decide) (svaR hA rfl rfl) (agi hA rfl rfl) (nle rfl) rfl)) ?_
  refine .cons (lop rfl rfl fun S hA=>(aU (r:=.bool _) rfl rfl (lb rfl) cl70 (.cons (svaA q19 hA rfl rfl) .nil) rfl (rH _ _ hx2))) ?_
  refine .cons (lop rfl rfl fun S hA=>(bN (ds':=q19) rfl rfl ti42 (svaR hA rfl rfl) (agi hA rfl rfl) (svaA q19 hA rfl rfl) rfl rfl rfl (nle rfl) rfl)) ?_
  refine .cons (lop rfl rfl fun S hA=>(aH rfl rfl (lb rfl) (sv (d:=.str _) (agr hA rfl rfl)))) ?_
  refine .cons (lop rfl rfl fun S hA=>(aH rfl rfl (lb rfl) (svaB hA rfl rfl))) ?_
  exact .nil
 refine aT ?_
 obtain rfl:=Option.some.inj h
 refine ⟨.inr rfl,(.cons (rva la42 rfl rfl (nle rfl) rfl) (.cons (sv rfl) (.cons (sv rfl) .nil)))⟩

theorem wK (a0 : bE) (a1 : Int) (r : bE) (h : nC a0 a1 = some r) : cF Tryz.prog 85 [.agg (v6 a0),.int .i64 a1] (.agg (v6 r)):=by
 refine bA (rs:=[.agg (v6 r)]) Tryz.func85 rfl Tryz.ntmps85 (nle rfl) rfl fun O hO=>?_
 show IWP _ _ _ _ ⟨[(0,.agg (v6 a0)),(1,.int .i64 a1)],[]⟩ _
 unfold nC at h
 refine aE (aA rfl (bR (cs:=q18) 0 rfl rfl (lb rfl) rfl (svA q18 rfl) rfl rfl) <|aA rfl (bD (cs:=q18) (cs':=(w45 0 0 0 0)) 1 rfl rfl (lb rfl) rfl ti44 rfl rfl (.all _)) <|aD ?_)
 refine bC ?_
 obtain ⟨x1,hx1,h⟩:=bF h
 obtain ⟨x2,hx2,h⟩:=aQ h
 obtain ⟨x3,hx3,h⟩:=aQ h
 obtain ⟨x4,hx4,h⟩:=aQ h
 refine aE (aA rfl (lra q18 la44 rfl rfl rfl rfl rfl (nle rfl) rfl) <|aA rfl (aU (r:=.int _ _) rfl rfl (lb rfl) cl95 (.cons (svA q18 rfl) .nil) rfl (gV _ _ hx1)) <|aA rfl (aP rfl rfl (lb rfl) (svI rfl) (sv (d:=.int _ 0) rfl) rfl hx2) <|aA rfl (mvB rfl rfl rfl rfl) <|aC rfl rfl (.one rfl) rfl (by decide) (fun hb=>(mvI rfl rfl rfl rfl)) <|aC rfl rfl (.one rfl) rfl (by decide) (fun hb=>(aP rfl rfl (lb rfl) (svcI rfl hb) (sv (d:=.int _ 0) rfl) rfl hx3)) <|aA rfl (bT rfl rfl (lb rfl) (svB rfl) rfl rfl hx4) <|aD ?_)
 refine aV (b:=_) rfl (fun hc5=>?_) (fun hc5=>?_)
 ·
  replace h:=cD h hc5
  obtain ⟨x6,hx6,h⟩:=aQ h
  obtain ⟨x7,hx7,h⟩:=aQ h
  obtain ⟨x8,hx8,h⟩:=aQ h
  refine bO (aA rfl (faR 3 rfl rfl rfl Tryz.underlying44 rfl ti3 (lb rfl) rfl rfl) <|aA rfl (aF (d:=.int _ _) rfl rfl (lb rfl) Tryz.underlying3 ag3 ti3 (by decide) (svR rfl) rfl (nle rfl) rfl) <|aA rfl (mvI rfl rfl rfl rfl) <|aA rfl (faR 2 rfl rfl rfl Tryz.underlying44 rfl ti3 (lb rfl) rfl rfl) <|aA rfl (aF (d:=.int _ _) rfl rfl (lb rfl) Tryz.underlying3 ag3 ti3 (by decide) (svR rfl) rfl (nle rfl) rfl) <|aA rfl (faR 3 rfl rfl rfl Tryz.underlying44 rfl ti3 (lb rfl) rfl rfl) <|aA rfl (aF (d:=.int _ _) rfl rfl (lb rfl) Tryz.underlying3 ag3 ti3 (by decide) (svR rfl) rfl (nle rfl) rfl) <|aA rfl (bM rfl rfl (lb rfl) (svI rfl) (svI rfl) rfl hx6) <|aA rfl (jD rfl rfl (lb rfl) (svI rfl) (svI rfl) hx7) <|aA rfl (bM rfl rfl (lb rfl) (svI rfl) (svI rfl) rfl hx8) <|aA rfl (faR 3 rfl rfl rfl Tryz.underlying44 rfl ti3 (lb rfl) rfl rfl) <|aA rfl (bN (ds':=q18) rfl rfl ti3 (svR rfl) rfl (svI rfl) rfl rfl rfl (nle rfl) rfl) <|cL ?_)
  refine aS ?_
  refine aE (aA rfl (lra q18 la44 rfl rfl rfl rfl rfl (nle rfl) rfl) <|aA rfl (stA q18 q18 ti44 rfl rfl rfl rfl rfl rfl rfl rfl (nle rfl) rfl) <|aD ?_)
  refine aT ?_
  obtain rfl:=Option.some.inj h
  refine ⟨.inr rfl,(.cons (rva la44 rfl rfl (nle rfl) rfl) .nil)⟩
 ·
  replace h:=cE h hc5
  refine aY ?_
  refine aS ?_
  refine aE (aA rfl (lra q18 la44 rfl rfl rfl rfl rfl (nle rfl) rfl) <|aA rfl (stA q18 q18 ti44 rfl rfl rfl rfl rfl rfl rfl rfl (nle rfl) rfl) <|aD ?_)
  refine aT ?_
  obtain rfl:=Option.some.inj h
  refine ⟨.inr rfl,(.cons (rva la44 rfl rfl (nle rfl) rfl) .nil)⟩

theorem pE (a0 : aR) (a1 : Int) (r : (aR × (List UInt8) × Bool × Int)) (h : lM a0 a1 = some r) : cF Tryz.prog 32 [.agg (v1 a0),.int .i64 a1] (retD [.agg (v1 r.1),.str r.2.1,.bool r.2.2.1,.int .i64 r.2.2.2]):=by
 refine bA (rs:=[.agg (v1 r.1),.str r.2.1,.bool r.2.2.1,.int .i64 r.2.2.2]) Tryz.func32 rfl Tryz.ntmps32 (nle rfl) rfl fun O hO=>?_
 show IWP _ _ _ _ ⟨[(0,.agg (v1 a0)),(1,.int .i64 a1)],[]⟩ _
 unfold lM at h
 refine aE (aA rfl (bR (cs:=q13) 0 rfl rfl (lb rfl) rfl (svA q13 rfl) rfl rfl) <|aA rfl (bD (cs:=q14) (cs':=(w41 0 0 [] 0 ([] : List aJ) ([] : List aG) false false false false 0 [] ([] : List aN) 0 0 0 0 0 0 0 0 0 0 0)) 1 rfl rfl (lb rfl) rfl ti46 rfl rfl (.k4 (.cons (.nils _) (.cons (.nils _) (.k4 (.k (.k (.cons (.nils _) (.all _))))))))) <|aA rfl (aH rfl rfl (lb rfl) (sv (d:=.str []) rfl)) <|aA rfl (aH rfl rfl (lb rfl) (sv (d:=.bool false) rfl)) <|aA rfl (aH rfl rfl (lb rfl) (sv (d:=.int _ 0) rfl)) <|aD ?_)
 refine bC ?_
 obtain ⟨x1,hx1,h⟩:=bF h
 refine aE (aA rfl (lra q13 la46 rfl rfl rfl rfl rfl (nle rfl) rfl) <|aA rfl (aU (r:=.int _ _) rfl rfl (lb rfl) cl39 (.cons (svA q13 rfl) .nil) rfl (eY _ _ hx1)) <|aA rfl (asI rfl rfl rfl rfl) <|aD ?_)
 obtain ⟨x2,hx2,h⟩:=aQ h
 refine aE (aA rfl (mvI rfl rfl rfl rfl) <|aA rfl (aP rfl rfl (lb rfl) (svI rfl) (sv (d:=.int _ 0) rfl) rfl hx2) <|aD ?_)
 refine aV (b:=_) rfl (fun hc3=>?_) (fun hc3=>?_)
 ·
  replace h:=cD h hc3
  refine aE (aA rfl (lra q13 la46 rfl rfl rfl rfl rfl (nle rfl) rfl) <|aA rfl (mvI rfl rfl rfl rfl) <|aA rfl (stA q13 q13 ti46 rfl rfl rfl rfl rfl rfl rfl rfl (nle rfl) rfl) <|aA rfl (aH rfl rfl (lb rfl) (sv (d:=.str []) rfl)) <|aA rfl (aH rfl rfl (lb rfl) (sv (d:=.bool false) rfl)) <|aA rfl (asI rfl rfl rfl rfl) <|aD ?_)
  refine aT ?_
  refine bI ?_
  obtain rfl:=Option.some.inj h
  refine ⟨.inr rfl,(.cons (rva la46 rfl rfl (nle rfl) rfl) (.cons (sv rfl) (.cons (sv rfl) (.cons (sv rfl) .nil))))⟩
 ·
  replace h:=cE h hc3
  refine aY ?_
  refine aS ?_
  obtain ⟨x4,hx4,h⟩:=bF h
  refine aE (aA rfl (faR 10 rfl rfl rfl Tryz.underlying46 rfl ti42 (lb rfl) rfl rfl) <|aA rfl (lra q19 la42 rfl rfl rfl rfl rfl (nle rfl) rfl) <|aA rfl (mvI rfl rfl rfl rfl) <|aA rfl (aU (r:=.tuple q36) rfl rfl (lb rfl) cl84 (.cons (svA q19 rfl) (.cons (svI rfl) .nil)) rfl (xT _ _ _ hx4)) <|aA rfl (aM rfl rfl (lb rfl) (sv (d:=.tuple q36) rfl)) <|aA rfl (aZ (d:=.agg q19) rfl rfl (lb rfl) (sv (d:=.tuple q36) rfl) rfl) <|aA rfl (aZ (d:=.str _) rfl rfl (lb rfl) (sv (d:=.tuple q36) rfl) rfl) <|aA rfl (aZ (d:=.bool _) rfl rfl (lb rfl) (sv (d:=.tuple q36) rfl) rfl) <|aA rfl (bD (cs:=q22) (cs':=(w44 0 [] ([] : List aN) 0)) 2 rfl rfl (lb rfl) rfl ti42 rfl rfl (.k (.k (.cons (.nils _) (.all _))))) <|aA rfl (stA q19 q19 ti42 rfl rfl rfl rfl rfl rfl rfl rfl (nle rfl) rfl) <|aA rfl (aH rfl rfl (lb rfl) (sv (d:=.str _) rfl)) <|aA rfl (asB rfl rfl rfl rfl) <|aD ?_)
  refine aE (aA rfl (lra q19 la42 rfl rfl rfl rfl rfl (nle rfl) rfl) <|aA rfl (faR 10 rfl rfl rfl Tryz.underlying46 rfl ti42 (lb rfl) rfl rfl) <|aA rfl (stA q19 q13 ti42 rfl rfl rfl rfl rfl rfl rfl rfl (nle rfl) rfl) <|aD ?_)
  obtain ⟨x5,hx5,h⟩:=bF h
  refine aE (aA rfl (faR 18 rfl rfl rfl Tryz.underlying46 rfl ti44 (lb rfl) rfl rfl) <|aA rfl (lra q18 la44 rfl rfl rfl rfl rfl (nle rfl) rfl) <|aA rfl (aM rfl rfl (lb rfl) (sv (d:=.str _) rfl)) <|aA rfl (cT rfl rfl (lb rfl) Tryz.underlying9 (sv (d:=.str _) rfl) rfl) <|aA rfl (aU (r:=.agg q18) rfl rfl (lb rfl) cl85 (.cons (svA q18 rfl) (.cons (svI rfl) .nil)) rfl (wK _ _ _ hx5)) <|aA rfl (faR 18 rfl rfl rfl Tryz.underlying46 rfl ti44 (lb rfl) rfl rfl) <|aA rfl (stA q18 q13 ti44 rfl rfl rfl rfl rfl rfl rfl rfl (nle rfl) rfl) <|aD ?_)
  refine aE (aA rfl (lra q13 la46 rfl rfl rfl rfl rfl (nle rfl) rfl) <|aA rfl (aM rfl rfl (lb rfl) (sv (d:=.str _) rfl)) <|aA rfl (mvB rfl rfl rfl rfl) <|aA rfl (stA q13 q13 ti46 rfl rfl rfl rfl rfl rfl rfl rfl (nle rfl) rfl) <|aA rfl (aH rfl rfl (lb rfl) (sv (d:=.str _) rfl)) <|aA rfl (asB rfl rfl rfl rfl) <|aA rfl (aH rfl rfl (lb rfl) (sv (d:=.int _ 0) rfl)) <|aD ?_)
  refine aT ?_
  obtain rfl:=Option.some.inj h
  refine ⟨.inr rfl,(.cons (rva la46 rfl rfl (nle rfl) rfl) (.cons (sv rfl) (.cons (sv rfl) (.cons (sv rfl) .nil))))⟩

theorem rF (a0 : aR) (r : Int) (h : mM a0 = some r) : cF Tryz.prog 24 [.agg (v1 a0)] (.int .u8 r):=by
 refine bA (rs:=[.int .u8 r]) Tryz.func24 rfl Tryz.ntmps24 (nle rfl) rfl fun O hO=>?_
 show IWP _ _ _ _ ⟨[(0,.agg (v1 a0))],[]⟩ _
 unfold mM at h
 refine aE (aA rfl (bR (cs:=q13) 0 rfl rfl (lb rfl) rfl (svA q13 rfl) rfl rfl) <|aA rfl (aH rfl rfl (lb rfl) (sv (d:=.int _ 0) rfl)) <|aD ?_)
 refine bC ?_
 obtain ⟨x1,hx1,h⟩:=aQ h
 refine aE (aA rfl (faR 10 rfl rfl rfl Tryz.underlying46 rfl ti42 (lb rfl) rfl rfl) <|aA rfl (faR 13 rfl rfl rfl Tryz.underlying42 rfl ti3 (lb rfl) rfl rfl) <|aA rfl (aF (d:=.int _ _) rfl rfl (lb rfl) Tryz.underlying3 ag3 ti3 (by decide) (svR rfl) rfl (nle rfl) rfl) <|aA rfl (aP rfl rfl (lb rfl) (svI rfl) (sv (d:=.int _ 0) rfl) rfl hx1) <|aD ?_)
 refine aV (b:=_) rfl (fun hc2=>?_) (fun hc2=>?_)
 ·
  replace h:=cD h hc2
  refine aE (aA rfl (aH rfl rfl (lb rfl) (sv (d:=.int _ 3) rfl)) <|aD ?_)
  refine aT ?_
  refine bI ?_
  obtain rfl:=Option.some.inj h
  refine ⟨.inr rfl,(.cons (sv rfl) .nil)⟩
 ·
  replace h:=cE h hc2
  refine aY ?_
  refine aS ?_
  refine aE (aA rfl (aH rfl rfl (lb rfl) (sv (d:=.int _ 2) rfl)) <|aD ?_)
  refine aT ?_
  obtain rfl:=Option.some.inj h
  refine ⟨.inr rfl,(.cons (sv rfl) .nil)⟩

theorem tR (a0 : bE) (r : (bE × Int)) (h : kY a0 = some r) : cF Tryz.prog 87 [.agg (v6 a0)] (retD [.agg (v6 r.1),.int .i64 r.2]):=by
 refine bA (rs:=[.agg (v6 r.1),.int .i64 r.2]) Tryz.func87 rfl Tryz.ntmps87 (nle rfl) rfl fun O hO=>?_
 show IWP _ _ _ _ ⟨[(0,.agg (v6 a0))],[]⟩ _
 unfold kY at h
 refine aE (aA rfl (bR (cs:=q18) 0 rfl rfl (lb rfl) rfl (svA q18 rfl) rfl rfl) <|aA rfl (bD (cs:=q18) (cs':=(w45 0 0 0 0)) 1 rfl rfl (lb rfl) rfl ti44 rfl rfl (.all _)) <|aA rfl (aH rfl rfl (lb rfl) (sv (d:=.int _ 0) rfl)) <|aD ?_)
 refine bC ?_
 obtain ⟨x1,hx1,h⟩:=bF h
 obtain ⟨x2,hx2,h⟩:=aQ h
 refine aE (aA rfl (lra q18 la44 rfl rfl rfl rfl rfl (nle rfl) rfl) <|aA rfl (aU (r:=.int _ _) rfl rfl (lb rfl) cl95 (.cons (svA q18 rfl) .nil) rfl (gV _ _ hx1)) <|aA rfl (aP rfl rfl (lb rfl) (svI rfl) (sv (d:=.int _ 0) rfl) rfl hx2) <|aD ?_)
 refine aV (b:=_) rfl (fun hc3=>?_) (fun hc3=>?_)
 ·
  replace h:=cD h hc3
  refine aE (aA rfl (lra q18 la44 rfl rfl rfl rfl rfl (nle rfl) rfl) <|aA rfl (stA q18 q18 ti44 rfl rfl rfl rfl rfl rfl rfl rfl (nle rfl) rfl) <|aA rfl (aH rfl rfl (lb rfl) (sv (d:=.int _ 0) rfl)) <|aD ?_)
  refine aT ?_
  refine bI ?_
  obtain rfl:=Option.some.inj h
  refine ⟨.inr rfl,(.cons (rva la44 rfl rfl (nle rfl) rfl) (.cons (sv rfl) .nil))⟩
 ·
  replace h:=cE h hc3
  refine aY ?_
  refine aS ?_
  obtain ⟨x4,hx4,h⟩:=aQ h
  obtain ⟨x5,hx5,h⟩:=aQ h
  obtain ⟨x6,hx6,h⟩:=aQ h
  refine aE (aA rfl (faR 3 rfl rfl rfl Tryz.underlying44 rfl ti3 (lb rfl) rfl rfl) <|aA rfl (aF (d:=.int _ _) rfl rfl (lb rfl) Tryz.underlying3 ag3 ti3 (by decide) (svR rfl) rfl (nle rfl) rfl) <|aA rfl (faR 0 rfl rfl rfl Tryz.underlying44 rfl ti3 (lb rfl) rfl rfl) <|aA rfl (aF (d:=.int _ _) rfl rfl (lb rfl) Tryz.underlying3 ag3 ti3 (by decide) (svR rfl) rfl (nle rfl) rfl) <|aA rfl (bM rfl rfl (lb rfl) (svI rfl) (svI rfl) rfl hx4) <|aA rfl (jD rfl rfl (lb rfl) (svI rfl) (sv (d:=.int _ 1099511627776) rfl) hx5) <|aA rfl (faR 1 rfl rfl rfl Tryz.underlying44 rfl ti3 (lb rfl) rfl rfl) <|aA rfl (aF (d:=.int _ _) rfl rfl (lb rfl) Tryz.underlying3 ag3 ti3 (by decide) (svR rfl) rfl (nle rfl) rfl) <|aA rfl (bM rfl rfl (lb rfl) (svI rfl) (svI rfl) rfl hx6) <|aA rfl (asI rfl rfl rfl rfl) <|aD ?_)
  refine bC ?_
  obtain ⟨x7,hx7,h⟩:=bF h
  obtain ⟨x8,hx8,h⟩:=aQ h
  obtain ⟨x9,hx9,h⟩:=aQ h
  refine aE (aA rfl (mvI rfl rfl rfl rfl) <|aA rfl (faR 0 rfl rfl rfl Tryz.underlying44 rfl ti3 (lb rfl) rfl rfl) <|aA rfl (aF (d:=.int _ _) rfl rfl (lb rfl) Tryz.underlying3 ag3 ti3 (by decide) (svR rfl) rfl (nle rfl) rfl) <|aA rfl (aBe rfl rfl (lb rfl) (svI rfl) (sv (d:=.int _ 2) rfl) hx7) <|aA rfl (kO rfl rfl (lb rfl) (sv (d:=.int _ 1) rfl) (svI rfl) hx8) <|aA rfl (aP rfl rfl (lb rfl) (svI rfl) (svI rfl) rfl hx9) <|aD ?_)
  refine aV (b:=_) rfl (fun hc10=>?_) (fun hc10=>?_)
  ·
   replace h:=cD h hc10
   refine aE (aA rfl (lra q18 la44 rfl rfl rfl rfl rfl (nle rfl) rfl) <|aA rfl (stA q18 q18 ti44 rfl rfl rfl rfl rfl rfl rfl rfl (nle rfl) rfl) <|aA rfl (aH rfl rfl (lb rfl) (sv (d:=.int _ 0) rfl)) <|aD ?_)
   refine aT ?_
   refine bI ?_
   obtain rfl:=Option.some.inj h
   refine ⟨.inr rfl,(.cons (rva la44 rfl rfl (nle rfl) rfl) (.cons (sv rfl) .nil))⟩
  ·
   replace h:=cE h hc10
   refine aY ?_
   refine aS ?_
   obtain ⟨x11,hx11,h⟩:=aQ h
   refine aE (aA rfl (faR 1 rfl rfl rfl Tryz.underlying44 rfl ti3 (lb rfl) rfl rfl) <|aA rfl (aF (d:=.int _ _) rfl rfl (lb rfl) Tryz.underlying3 ag3 ti3 (by decide) (svR rfl) rfl (nle rfl) rfl) <|aA rfl (mvI rfl rfl rfl rfl) <|aA rfl (bM rfl rfl (lb rfl) (svI rfl) (svI rfl) rfl hx11) <|aA rfl (faR 1 rfl rfl rfl Tryz.underlying44 rfl ti3 (lb rfl) rfl rfl) <|aA rfl (bN (ds':=q18) rfl rfl ti3 (svR rfl) rfl (svI rfl) rfl rfl rfl (nle rfl) rfl) <|aD ?_)
   refine aE (aA rfl (lra q18 la44 rfl rfl rfl rfl rfl (nle rfl) rfl) <|aA rfl (mvI rfl rfl rfl rfl) <|aA rfl (stA q18 q18 ti44 rfl rfl rfl rfl rfl rfl rfl rfl (nle rfl) rfl) <|aA rfl (asI rfl rfl rfl rfl) <|aD ?_)
   refine aT ?_
   obtain rfl:=Option.some.inj h
   refine ⟨.inr rfl,(.cons (rva la44 rfl rfl (nle rfl) rfl) (.cons (sv rfl) .nil))⟩

theorem rQ (a0 : aR) (a1 : Int) (r : (aR × Int)) (h : kM a0 a1 = some r) : FnH Tryz.prog 86 [.ref 1000 0,.ref 1001 0] [(1000,.blk 46 (v1 a0)),(1001,.blk 3 [.int .i64 a1])] (retD []) [(1000,.blk 46 (v1 r.1)),(1001,.blk 3 [.int .i64 r.2])]:=by
 refine fE (rs:=[]) Tryz.func86 rfl Tryz.ntmps86 (nle rfl) fun O hO=>?_
 show IWP _ _ _ _ ⟨[(0,.ref 1000 0),(1,.ref 1001 0)],[(1000,.blk 46 (v1 a0)),(1001,.blk 3 [.int .i64 a1])]⟩ _
 unfold kM at h
 obtain ⟨x1,hx1,h⟩:=bF h
 obtain ⟨x2,hx2,h⟩:=aQ h
 refine aE (aA rfl (mvR rfl rfl rfl rfl) <|aA rfl (aX rfl rfl (lb rfl) (svR rfl)) <|aA rfl (lra q13 la46 rfl rfl rfl rfl rfl (nle rfl) rfl) <|aA rfl (aU (r:=.int _ _) rfl rfl (lb rfl) cl24 (.cons (svA q13 rfl) .nil) rfl (rF _ _ hx1)) <|aA rfl (aP rfl rfl (lb rfl) (svI rfl) (sv (d:=.int _ 2) rfl) rfl hx2) <|aD ?_)
 refine aV (b:=_) rfl (fun hc3=>?_) (fun hc3=>?_)
 ·
  replace h:=cD h hc3
  obtain ⟨x4,hx4,h⟩:=bF h
  refine bO (aA rfl (mvR rfl rfl rfl rfl) <|aA rfl (mvR rfl rfl rfl rfl) <|aA rfl (aX rfl rfl (lb rfl) (svR rfl)) <|aA rfl (faR 18 rfl rfl rfl Tryz.underlying46 rfl ti44 (lb rfl) rfl rfl) <|aA rfl (lra q18 la44 rfl rfl rfl rfl rfl (nle rfl) rfl) <|aA rfl (aU (r:=.tuple q37) rfl rfl (lb rfl) cl87 (.cons (svA q18 rfl) .nil) rfl (tR _ _ hx4)) <|aA rfl (aM rfl rfl (lb rfl) (sv (d:=.tuple q37) rfl)) <|aA rfl (aZ (d:=.agg q18) rfl rfl (lb rfl) (sv (d:=.tuple q37) rfl) rfl) <|aA rfl (aZ (d:=.int _ _) rfl rfl (lb rfl) (sv (d:=.tuple q37) rfl) rfl) <|aA rfl (aX rfl rfl (lb rfl) (svR rfl)) <|aA rfl (faR 18 rfl rfl rfl Tryz.underlying46 rfl ti44 (lb rfl) rfl rfl) <|aA rfl (stA q18 q13 ti44 rfl rfl rfl rfl rfl rfl rfl rfl (nle rfl) rfl) <|aA rfl (bN (ds':=[.int _ _]) rfl rfl ti3 (svR rfl) rfl (svI rfl) rfl rfl rfl (nle rfl) rfl) <|cL ?_)
  obtain rfl:=Option.some.inj h
  refine ⟨.inl rfl,(fun i=>i),⟨.nil,(.cons (.blk rfl rfl rfl) (.cons (.blk rfl rfl rfl) .nil)),cK [1000,1001] rfl (by decide),fun _ _=>rfl⟩,.nil,rfl⟩
 ·
  replace h:=cE h hc3
  refine aY ?_
  obtain rfl:=Option.some.inj h
  refine ⟨.inl rfl,(fun i=>i),⟨.nil,(.cons (.blk rfl rfl rfl) (.cons (.blk rfl rfl rfl) .nil)),cK [1000,1001] rfl (by decide),fun _ _=>rfl⟩,.nil,rfl⟩

theorem lR (a0 : aR) (a1 : Int) (r : (aR × Int)) (h : fG a0 a1 = some r) : FnH Tryz.prog 79 [.agg (v1 a0),.fn 86 [.ref 1000 0]] [(1000,.blk 3 [.int .i64 a1])] (.agg (v1 r.1)) [(1000,.blk 3 [.int .i64 r.2])]:=by
 refine fE (rs:=[.agg (v1 r.1)]) Tryz.func79 rfl Tryz.ntmps79 (nle rfl) fun O hO=>?_
 show IWP _ _ _ _ ⟨[(0,.agg (v1 a0)),(1,.fn 86 [.ref 1000 0])],[(1000,.blk 3 [.int .i64 a1])]⟩ _
 unfold fG at h
 refine aE (aA rfl (bR (cs:=q13) 0 rfl rfl (lb rfl) rfl (svA q13 rfl) rfl rfl) <|aA rfl (bD (cs:=q14) (cs':=(w41 0 0 [] 0 ([] : List aJ) ([] : List aG) false false false false 0 [] ([] : List aN) 0 0 0 0 0 0 0 0 0 0 0)) 1 rfl rfl (lb rfl) rfl ti46 rfl rfl (.k4 (.cons (.nils _) (.cons (.nils _) (.k4 (.k (.k (.cons (.nils _) (.all _))))))))) <|aD ?_)
 refine bC ?_
 obtain ⟨x1,hx1,h⟩:=bF h
 obtain ⟨x2,hx2,h⟩:=aQ h
 refine aE (aA rfl (lra q13 la46 rfl rfl rfl rfl rfl (nle rfl) rfl) <|aA rfl (aU (r:=.int _ _) rfl rfl (lb rfl) cl39 (.cons (svA q13 rfl) .nil) rfl (eY _ _ hx1)) <|aA rfl (aP rfl rfl (lb rfl) (svI rfl) (sv (d:=.int _ 0) rfl) rfl hx2) <|aD ?_)
 refine aV (b:=_) rfl (fun hc3=>?_) (fun hc3=>?_)
 ·
  replace h:=cD h hc3
  obtain ⟨x4,hx4,h⟩:=bF h
  refine bO (aA rfl (aM rfl rfl (lb rfl) (sv (d:=.fn 86 [.ref _ _]) rfl)) <|aA rfl (pJ (r':=.tuple []) (H1':=[(0,.blk 46 (v1 x4.1)),(1000,.blk 3 [.int .i64 x4.2])]) 2 [0,1000] rfl rfl (lb rfl) cl86 (sv (d:=.fn 86 [.ref _ _]) rfl) (.cons (svR rfl) .nil) rfl rfl ⟨rfl,rfl,by decide,rfl,List.forall_mem_cons.2 ⟨⟨rfl,rfl,rfl,rfl⟩,List.forall_mem_cons.2 ⟨⟨rfl,rfl,rfl,rfl⟩,List.forall_mem_nil _⟩⟩⟩ (rQ _ _ _ hx4) rfl rfl (List.forall_mem_cons.2 ⟨⟨rfl,rfl⟩,List.forall_mem_cons.2 ⟨⟨rfl,rfl⟩,List.forall_mem_nil _⟩⟩) rfl) <|cL ?_)
  refine aS ?_
  refine aE (aA rfl (lra q13 la46 rfl rfl rfl rfl rfl (nle rfl) rfl) <|aA rfl (stA q13 q13 ti46 rfl rfl rfl rfl rfl rfl rfl rfl (nle rfl) rfl) <|aD ?_)
  refine aT ?_
  obtain rfl:=Option.some.inj h
  refine ⟨.inr rfl,(fun i=>i),⟨.nil,(.cons (.blk rfl rfl rfl) .nil),cK [1000] rfl (by decide),fun _ _=>rfl⟩,(.cons (rva la46 rfl rfl (nle rfl) rfl) .nil),rfl⟩
 ·
  replace h:=cE h hc3
  refine aY ?_
  refine aS ?_
  refine aE (aA rfl (lra q13 la46 rfl rfl rfl rfl rfl (nle rfl) rfl) <|aA rfl (stA q13 q13 ti46 rfl rfl rfl rfl rfl rfl rfl rfl (nle rfl) rfl) <|aD ?_)
  refine aT ?_
  obtain rfl:=Option.some.inj h
  refine ⟨.inr rfl,(fun i=>i),⟨.nil,(.cons (.blk rfl rfl rfl) .nil),cK [1000] rfl (by decide),fun _ _=>rfl⟩,(.cons (rva la46 rfl rfl (nle rfl) rfl) .nil),rfl⟩

theorem oF (a0 : aR) (r : (aR × Int)) (h : kG a0 = some r) : cF Tryz.prog 33 [.agg (v1 a0)] (retD [.agg (v1 r.1),.int .i64 r.2]):=by
 refine bA (rs:=[.agg (v1 r.1),.int .i64 r.2]) Tryz.func33 rfl Tryz.ntmps33 (nle rfl) rfl fun O hO=>?_
 show IWP _ _ _ _ ⟨[(0,.agg (v1 a0))],[]⟩ _
 unfold kG at h
 refine aE (aA rfl (bR (cs:=q13) 0 rfl rfl (lb rfl) rfl (svA q13 rfl) rfl rfl) <|aA rfl (bD (cs:=q14) (cs':=(w41 0 0 [] 0 ([] : List aJ) ([] : List aG) false false false false 0 [] ([] : List aN) 0 0 0 0 0 0 0 0 0 0 0)) 1 rfl rfl (lb rfl) rfl ti46 rfl rfl (.k4 (.cons (.nils _) (.cons (.nils _) (.k4 (.k (.k (.cons (.nils _) (.all _))))))))) <|aA rfl (aH rfl rfl (lb rfl) (sv (d:=.int _ 0) rfl)) <|aD ?_)
 refine aE (aA rfl (bD (cs:=[.int _ _]) (cs':=[.int .i64 0]) 2 rfl rfl (lb rfl) rfl ti3 rfl rfl (.all _)) <|aA rfl (bN (ds':=[.int _ _]) rfl rfl ti3 (svR rfl) rfl (sv (d:=.int _ 0) rfl) rfl rfl rfl (nle rfl) rfl) <|aD ?_)
 obtain ⟨x1,hx1,h⟩:=bF h
 refine aE (aA rfl (lra q13 la46 rfl rfl rfl rfl rfl (nle rfl) rfl) <|aA rfl (jW rfl rfl (lb rfl) (.cons (svR rfl) .nil)) <|aA rfl (dO (r':=.agg (v1 x1.1)) (H1':=[(2,.blk 3 [.int .i64 x1.2])]) 3 [2] rfl rfl (lb rfl) cl79 (.cons (svA q13 rfl) (.cons (sv (d:=.fn 86 [.ref _ _]) rfl) .nil)) rfl rfl ⟨rfl,rfl,by decide,rfl,List.forall_mem_cons.2 ⟨⟨rfl,rfl,rfl,rfl⟩,List.forall_mem_nil _⟩⟩ (lR _ _ _ hx1) rfl rfl (List.forall_mem_cons.2 ⟨⟨rfl,rfl⟩,List.forall_mem_nil _⟩) rfl) <|aA rfl (stA q13 q13 ti46 rfl rfl rfl rfl rfl rfl rfl rfl (nle rfl) rfl) <|aD ?_)
 refine dD rfl [⟨[1],[0],[(8,.agg (v1 x1.1))],[]⟩,
  ⟨[4],[2],[(9,.int .i64 x1.2)],[]⟩,
  ⟨[2,8],[1],[],[(1,.blk 46 (v1 x1.1))]⟩,
  ⟨[9],[],[(3,.int .i64 x1.2)],[]⟩] rfl ?_ (by kernel_rfl) ?_
 ·refine .cons (lop rfl rfl fun S hA=>(bK (cs:=q13) rfl rfl (lb rfl) Tryz.underlying46 ag46 ti46 (by decide) (svaR hA rfl rfl) (agi hA rfl rfl) (nle rfl) rfl)) ?_
  refine .cons (lop rfl rfl fun S hA=>(aF (d:=.int _ _) rfl rfl (lb rfl) Tryz.underlying3 ag3 ti3 (by decide) (svaR hA rfl rfl) (agi hA rfl rfl) (nle rfl) rfl)) ?_
  refine .cons (lop rfl rfl fun S hA=>(bN (ds':=q13) rfl rfl ti46 (svaR hA rfl rfl) (agi hA rfl rfl) (svaA q13 hA rfl rfl) rfl rfl rfl (nle rfl) rfl)) ?_
  refine .cons (lop rfl rfl fun S hA=>(aH rfl rfl (lb rfl) (svaI hA rfl rfl))) ?_
  exact .nil
 refine aT ?_
 obtain rfl:=Option.some.inj h
 refine ⟨.inr rfl,(.cons (rva la46 rfl rfl (nle rfl) rfl) (.cons (sv rfl) .nil))⟩

theorem xH (a0 : Int) (r : Bool) (h : sE a0 = some r) : cF Tryz.prog 81 [.int .i64 a0] (.bool r):=by
 refine bA (rs:=[.bool r]) Tryz.func81 rfl Tryz.ntmps81 (nle rfl) rfl fun O hO=>?_
 show IWP _ _ _ _ ⟨[(0,.int .i64 a0)],[]⟩ _
 unfold sE at h
 refine aE (aA rfl (aH rfl rfl (lb rfl) (sv (d:=.bool false) rfl)) <|aD ?_)
 obtain ⟨x1,hx1,h⟩:=bF h
 refine aE (aA rfl (mvI rfl rfl rfl rfl) <|aA rfl (aU (r:=.bool _) rfl rfl (lb rfl) cl40 (.cons (svI rfl) (.cons (sv (d:=.int _ 0) rfl) (.cons (sv (d:=.int _ 255) rfl) .nil))) rfl (oD _ _ _ _ hx1)) <|aA rfl (asB rfl rfl rfl rfl) <|aD ?_)
 refine aT ?_
 obtain rfl:=Option.some.inj h
 refine ⟨.inr rfl,(.cons (sv rfl) .nil)⟩

theorem tO (a0 : aR) (a1 : Int) (r : aR) (h : nV a0 a1 = some r) : cF Tryz.prog 30 [.agg (v1 a0),.int .i64 a1] (.agg (v1 r)):=by
 refine bA (rs:=[.agg (v1 r)]) Tryz.func30 rfl Tryz.ntmps30 (nle rfl) rfl fun O hO=>?_
 show IWP _ _ _ _ ⟨[(0,.agg (v1 a0)),(1,.int .i64 a1)],[]⟩ _
 unfold nV at h
 refine aE (aA rfl (bR (cs:=q13) 0 rfl rfl (lb rfl) rfl (svA q13 rfl) rfl rfl) <|aA rfl (bD (cs:=q14) (cs':=(w41 0 0 [] 0 ([] : List aJ) ([] : List aG) false false false false 0 [] ([] : List aN) 0 0 0 0 0 0 0 0 0 0 0)) 1 rfl rfl (lb rfl) rfl ti46 rfl rfl (.k4 (.cons (.nils _) (.cons (.nils _) (.k4 (.k (.k (.cons (.nils _) (.all _))))))))) <|aD ?_)
 refine bC ?_
 obtain ⟨x1,hx1,h⟩:=aQ h
 obtain ⟨x2,hx2,h⟩:=bF h
 obtain ⟨x3,hx3,h⟩:=aQ h
 obtain ⟨x4,hx4,h⟩:=bF h
 obtain ⟨x5,hx5,h⟩:=aQ h
 obtain ⟨x6,hx6,h⟩:=aQ h
 refine aE (aA rfl (faR 23 rfl rfl rfl Tryz.underlying46 rfl ti3 (lb rfl) rfl rfl) <|aA rfl (aF (d:=.int _ _) rfl rfl (lb rfl) Tryz.underlying3 ag3 ti3 (by decide) (svR rfl) rfl (nle rfl) rfl) <|aA rfl (aP rfl rfl (lb rfl) (svI rfl) (sv (d:=.int _ (-1)) rfl) rfl hx1) <|aA rfl (mvB rfl rfl rfl rfl) <|aC rfl rfl (.one rfl) rfl (by decide) (fun hb=>(mvI rfl rfl rfl rfl)) <|aC rfl rfl (.one rfl) rfl (by decide) (fun hb=>(aU (r:=.bool _) rfl rfl (lb rfl) cl81 (.cons (svcI rfl hb) .nil) rfl (xH _ _ (gd_t hx2 hb)))) <|aA rfl (bT rfl rfl (lb rfl) (svB rfl) rfl rfl hx3) <|aA rfl (mvB rfl rfl rfl rfl) <|aC rfl rfl (.one rfl) rfl (by decide) (fun hb=>(lra q13 la46 rfl rfl rfl rfl rfl (nle rfl) rfl)) <|aC rfl rfl (.one rfl) rfl (by decide) (fun hb=>(aU (r:=.int _ _) rfl rfl (lb rfl) cl20 (.cons (svcA (v1 a0) rfl hb) .nil) rfl (jU _ _ (gd_t hx4 hb)))) <|aC rfl rfl (.one rfl) rfl (by decide) (fun hb=>(aP rfl rfl (lb rfl) (svcI rfl hb) (sv (d:=.int _ 0) rfl) rfl hx5)) <|aA rfl (bT rfl rfl (lb rfl) (svB rfl) rfl rfl hx6) <|aD ?_)
 refine aV (b:=_) rfl (fun hc7=>?_) (fun hc7=>?_)
 ·
  replace h:=cD h hc7
  refine bO (aA rfl (mvI rfl rfl rfl rfl) <|aA rfl (faR 23 rfl rfl rfl Tryz.underlying46 rfl ti3 (lb rfl) rfl rfl) <|aA rfl (bN (ds':=q13) rfl rfl ti3 (svR rfl) rfl (svI rfl) rfl rfl rfl (nle rfl) rfl) <|cL ?_)
  refine aS ?_
  refine aE (aA rfl (lra q13 la46 rfl rfl rfl rfl rfl (nle rfl) rfl) <|aA rfl (stA q13 q13 ti46 rfl rfl rfl rfl rfl rfl rfl rfl (nle rfl) rfl) <|aD ?_)
  refine aT ?_
  obtain rfl:=Option.some.inj h
  refine ⟨.inr rfl,(.cons (rva la46 rfl rfl (nle rfl) rfl) .nil)⟩
 ·
  replace h:=cE h hc7
  refine aY ?_
  refine aS ?_
  refine aE (aA rfl (lra q13 la46 rfl rfl rfl rfl rfl (nle rfl) rfl) <|aA rfl (stA q13 q13 ti46 rfl rfl rfl rfl rfl rfl rfl rfl (nle rfl) rfl) <|aD ?_)
  refine aT ?_
  obtain rfl:=Option.some.inj h
  refine ⟨.inr rfl,(.cons (rva la46 rfl rfl (nle rfl) rfl) .nil)⟩

theorem tS (a0 : bE) (a1 : Int) (r : (bE × Bool)) (h : kZ a0 a1 = some r) : cF Tryz.prog 90 [.agg (v6 a0),.int .i64 a1] (retD [.agg (v6 r.1),.bool r.2]):=by
 refine bA (rs:=[.agg (v6 r.1),.bool r.2]) Tryz.func90 rfl Tryz.ntmps90 (nle rfl) rfl fun O hO=>?_
 show IWP _ _ _ _ ⟨[(0,.agg (v6 a0)),(1,.int .i64 a1)],[]⟩ _
 unfold kZ at h
 refine aE (aA rfl (bR (cs:=q18) 0 rfl rfl (lb rfl) rfl (svA q18 rfl) rfl rfl) <|aA rfl (bD (cs:=q18) (cs':=(w45 0 0 0 0)) 1 rfl rfl (lb rfl) rfl ti44 rfl rfl (.all _)) <|aA rfl (aH rfl rfl (lb rfl) (sv (d:=.bool false) rfl)) <|aD ?_)
 refine bC ?_
 obtain ⟨x1,hx1,h⟩:=aQ h
 obtain ⟨x2,hx2,h⟩:=bF h
 obtain ⟨x3,hx3,h⟩:=aQ h
 obtain ⟨x4,hx4,h⟩:=aQ h
 obtain ⟨x5,hx5,h⟩:=aQ h
 obtain ⟨x6,hx6,h⟩:=aQ h
 obtain ⟨x7,hx7,h⟩:=aQ h
 refine aE (aA rfl (mvI rfl rfl rfl rfl) <|aA rfl (aP rfl rfl (lb rfl) (svI rfl) (sv (d:=.int _ 1) rfl) rfl hx1) <|aA rfl (mvB rfl rfl rfl rfl) <|aC rfl rfl (.one rfl) rfl (by decide) (fun hb=>(lra q18 la44 rfl rfl rfl rfl rfl (nle rfl) rfl)) <|aC rfl rfl (.one rfl) rfl (by decide) (fun hb=>(aU (r:=.int _ _) rfl rfl (lb rfl) cl95 (.cons (svcA (v6 a0) rfl hb) .nil) rfl (gV _ _ (gd_t hx2 hb)))) <|aC rfl rfl (.one rfl) rfl (by decide) (fun hb=>(aP rfl rfl (lb rfl) (svcI rfl hb) (sv (d:=.int _ 0) rfl) rfl hx3)) <|aA rfl (cQ rfl rfl (lb rfl) (svB rfl) rfl rfl hx4) <|aA rfl (mvB rfl rfl rfl rfl) <|aC rfl rfl (.one rfl) rfl (by decide) (fun hb=>(mvI rfl rfl rfl rfl)) <|aC rfl rfl (.one rfl) rfl (by decide) (fun hb=>(faR 1 rfl rfl rfl Tryz.underlying44 rfl ti3 (lb rfl) rfl rfl)) <|aC rfl rfl (.one rfl) rfl (by decide) (fun hb=>(aF (d:=.int _ _) rfl rfl (lb rfl) Tryz.underlying3 ag3 ti3 (by decide) (svcR rfl hb) rfl (nle rfl) rfl)) <|aC rfl rfl (.one rfl) rfl (by decide) (fun hb=>(bM rfl rfl (lb rfl) (sv (d:=.int _ 1099511627776) rfl) (svcI rfl hb) rfl hx5)) <|aC rfl rfl (.one rfl) rfl (by decide) (fun hb=>(aP rfl rfl (lb rfl) (svcI rfl hb) (svcI rfl hb) rfl hx6)) <|aA rfl (cQ rfl rfl (lb rfl) (svB rfl) rfl rfl hx7) <|aD ?_)
 refine aV (b:=_) rfl (fun hc8=>?_) (fun hc8=>?_)
 ·
  replace h:=cD h hc8
  refine aE (aA rfl (lra q18 la44 rfl rfl rfl rfl rfl (nle rfl) rfl) <|aA rfl (stA q18 q18 ti44 rfl rfl rfl rfl rfl rfl rfl rfl (nle rfl) rfl) <|aA rfl (aH rfl rfl (lb rfl) (sv (d:=.bool false) rfl)) <|aD ?_)
  refine aT ?_
  refine bI ?_
  obtain rfl:=Option.some.inj h
  refine ⟨.inr rfl,(.cons (rva la44 rfl rfl (nle rfl) rfl) (.cons (sv rfl) .nil))⟩
 ·
  replace h:=cE h hc8
  refine aY ?_
  refine aS ?_
  obtain ⟨x9,hx9,h⟩:=aQ h
  refine aE (aA rfl (faR 1 rfl rfl rfl Tryz.underlying44 rfl ti3 (lb rfl) rfl rfl) <|aA rfl (aF (d:=.int _ _) rfl rfl (lb rfl) Tryz.underlying3 ag3 ti3 (by decide) (svR rfl) rfl (nle rfl) rfl) <|aA rfl (mvI rfl rfl rfl rfl) <|aA rfl (bM rfl rfl (lb rfl) (svI rfl) (svI rfl) rfl hx9) <|aA rfl (faR 1 rfl rfl rfl Tryz.underlying44 rfl ti3 (lb rfl) rfl rfl) <|aA rfl (bN (ds':=q18) rfl rfl ti3 (svR rfl) rfl (svI rfl) rfl rfl rfl (nle rfl) rfl) <|aD ?_)
  refine aE (aA rfl (lra q18 la44 rfl rfl rfl rfl rfl (nle rfl) rfl) <|aA rfl (stA q18 q18 ti44 rfl rfl rfl rfl rfl rfl rfl rfl (nle rfl) rfl) <|aA rfl (aH rfl rfl (lb rfl) (sv (d:=.bool true) rfl)) <|aD ?_)
  refine aT ?_
  obtain rfl:=Option.some.inj h
  refine ⟨.inr rfl,(.cons (rva la44 rfl rfl (nle rfl) rfl) (.cons (sv rfl) .nil))⟩

theorem pF (a0 : aR) (a1 : Int) (a2 : Int) (r : (aR × Int)) (h : iX a0 a1 a2 = some r) : FnH Tryz.prog 89 [.ref 1000 0,.ref 1001 0,.ref 1002 0] [(1000,.blk 46 (v1 a0)),(1001,.blk 3 [.int .i64 a1]),(1002,.blk 53 [.int .u32 a2])] (retD []) [(1000,.blk 46 (v1 r.1)),(1001,.blk 3 [.int .i64 a1]),(1002,.blk 53 [.int .u32 r.2])]:=by
 refine fE (rs:=[]) Tryz.func89 rfl Tryz.ntmps89 (nle rfl) fun O hO=>?_
 show IWP _ _ _ _ ⟨[(0,.ref 1000 0),(1,.ref 1001 0),(2,.ref 1002 0)],[(1000,.blk 46 (v1 a0)),(1001,.blk 3 [.int .i64 a1]),(1002,.blk 53 [.int .u32 a2])]⟩ _
 unfold iX at h
 refine aE (aA rfl (aH rfl rfl (lb rfl) (sv (d:=.bool false) rfl)) <|aD ?_)
 obtain ⟨x1,hx1,h⟩:=bF h
 refine dD rfl [⟨[0],[],[(6,.ref 1000 0)],[]⟩,
  ⟨[0],[],[(7,.ref 1000 0)],[]⟩,
  ⟨[7],[],[(8,.ref 1000 0)],[]⟩,
  ⟨[8],[],[(9,.ref 1000 14)],[]⟩,
  ⟨[9],[1000],[(10,.agg (v6 a0.Out))],[]⟩,
  ⟨[1],[1001],[(11,.int .i64 a1)],[]⟩,
  ⟨[10,11],[],[(12,.tuple [.agg (v6 x1.1),.bool x1.2])],[]⟩,
  ⟨[12],[],[(5,.tuple [.agg (v6 x1.1),.bool x1.2])],[]⟩,
  ⟨[5],[],[(13,.agg (v6 x1.1))],[]⟩,
  ⟨[5],[],[(14,.bool x1.2)],[]⟩,
  ⟨[6],[],[(15,.ref 1000 0)],[]⟩,
  ⟨[15],[],[(16,.ref 1000 14)],[]⟩,
  ⟨[13,16],[1000],[],[(1000,.blk 46 (w41 a0.ID a0.Send.Base a0.Send.Data a0.Send.Next a0.Send.Pieces a0.Send.Lost a0.Send.Closed a0.Send.Sent a0.Send.Again a0.Send.Done a0.Recv.Recv.Base a0.Recv.Recv.Ready a0.Recv.Recv.Parts a0.Recv.End x1.1.Window x1.1.Limit x1.1.Used x1.1.Read a0.In.Window a0.In.Limit a0.In.Used a0.In.Read a0.Mine a0.Hers))]⟩,
  ⟨[14],[],[(4,.bool x1.2)],[]⟩] rfl ?_ (by kernel_rfl) ?_
 ·refine .cons (lop rfl rfl fun S hA=>(aM rfl rfl (lb rfl) (svaR hA rfl rfl))) ?_
  refine .cons (lop rfl rfl fun S hA=>(aM rfl rfl (lb rfl) (svaR hA rfl rfl))) ?_
  refine .cons (lop rfl rfl fun S hA=>(aX rfl rfl (lb rfl) (svaR hA rfl rfl))) ?_
  refine .cons (lop rfl rfl fun S hA=>(aI rfl rfl (lb rfl) Tryz.underlying46 rfl ti44 (by decide) (svaR hA rfl rfl) (off':=14) rfl)) ?_
  refine .cons (lop rfl rfl fun S hA=>(bK (cs:=q18) rfl rfl (lb rfl) Tryz.underlying44 ag44 ti44 (by decide) (svaR hA rfl rfl) (agi hA rfl rfl) (nle rfl) rfl)) ?_
  refine .cons (lop rfl rfl fun S hA=>(aF (d:=.int _ _) rfl rfl (lb rfl) Tryz.underlying3 ag3 ti3 (by decide) (svaR hA rfl rfl) (agi hA rfl rfl) (nle rfl) rfl)) ?_
  refine .cons (lop rfl rfl fun S hA=>(aU (r:=.tuple [.agg q18,.bool _]) rfl rfl (lb rfl) cl90 (.cons (svaA q18 hA rfl rfl) (.cons (svaI hA rfl rfl) .nil)) rfl (tS _ _ _ hx1))) ?_
  refine .cons (lop rfl rfl fun S hA=>(aM rfl rfl (lb rfl) (sv (d:=.tuple [.agg q18,.bool _]) (agr hA rfl rfl)))) ?_
  refine .cons (lop rfl rfl fun S hA=>(aZ (d:=.agg q18) rfl rfl (lb rfl) (sv (d:=.tuple [.agg q18,.bool _]) (agr hA rfl rfl)) rfl)) ?_
  refine .cons (lop rfl rfl fun S hA=>(aZ (d:=.bool _) rfl rfl (lb rfl) (sv (d:=.tuple [.agg q18,.bool _]) (agr hA rfl rfl)) rfl)) ?_
  refine .cons (lop rfl rfl fun S hA=>(aX rfl rfl (lb rfl) (svaR hA rfl rfl))) ?_
  refine .cons (lop rfl rfl fun S hA=>(aI rfl rfl (lb rfl) Tryz.underlying46 rfl ti44 (by decide) (svaR hA rfl rfl) (off':=14) rfl)) ?_
  refine .cons (lop rfl rfl fun S hA=>(bN (ds':=q13) rfl rfl ti44 (svaR hA rfl rfl) (agi hA rfl rfl) (svaA q18 hA rfl rfl) rfl rfl rfl (nle rfl) rfl)) ?_
  refine .cons (lop rfl rfl fun S hA=>(aH rfl rfl (lb rfl) (svaB hA rfl rfl))) ?_
  exact .nil
 refine aE (aA rfl (mvB rfl rfl rfl rfl) <|aA rfl (dB rfl rfl (lb rfl) (svB rfl)) <|aD ?_)
 refine aV (b:=_) rfl (fun hc2=>?_) (fun hc2=>?_)
 ·
  replace h:=cD h hc2
  refine bO (aA rfl (bN (ds':=[.int _ _]) rfl rfl ti53 (svR rfl) rfl (sv (d:=.int _ 3) rfl) rfl rfl rfl (nle rfl) rfl) <|cL ?_)
  obtain rfl:=Option.some.inj h
  refine ⟨.inl rfl,(fun i=>i),⟨.nil,(.cons (.blk rfl rfl rfl) (.cons (.blk rfl rfl rfl) (.cons (.blk rfl rfl rfl) .nil))),cK [1000,1001,1002] rfl (by decide),fun _ _=>rfl⟩,.nil,rfl⟩
 ·
  replace h:=cE h hc2
  refine aY ?_
  obtain rfl:=Option.some.inj h
  refine ⟨.inl rfl,(fun i=>i),⟨.nil,(.cons (.blk rfl rfl rfl) (.cons (.blk rfl rfl rfl) (.cons (.blk rfl rfl rfl) .nil))),cK [1000,1001,1002] rfl (by decide),fun _ _=>rfl⟩,.nil,rfl⟩

theorem kU (a0 : aR) (a1 : Int) (a2 : Int) (r : (aR × Int)) (h : eP a0 a1 a2 = some r) : FnH Tryz.prog 79 [.agg (v1 a0),.fn 89 [.ref 1000 0,.ref 1001 0]] [(1000,.blk 3 [.int .i64 a1]),(1001,.blk 53 [.int .u32 a2])] (.agg (v1 r.1)) [(1000,.blk 3 [.int .i64 a1]),(1001,.blk 53 [.int .u32 r.2])]:=by
 refine fE (rs:=[.agg (v1 r.1)]) Tryz.func79 rfl Tryz.ntmps79 (nle rfl) fun O hO=>?_
 show IWP _ _ _ _ ⟨[(0,.agg (v1 a0)),(1,.fn 89 [.ref 1000 0,.ref 1001 0])],[(1000,.blk 3 [.int .i64 a1]),(1001,.blk 53 [.int .u32 a2])]⟩ _
 unfold eP at h
 refine aE (aA rfl (bR (cs:=q13) 0 rfl rfl (lb rfl) rfl (svA q13 rfl) rfl rfl) <|aA rfl (bD (cs:=q14) (cs':=(w41 0 0 [] 0 ([] : List aJ) ([] : List aG) false false false false 0 [] ([] : List aN) 0 0 0 0 0 0 0 0 0 0 0)) 1 rfl rfl (lb rfl) rfl ti46 rfl rfl (.k4 (.cons (.nils _) (.cons (.nils _) (.k4 (.k (.k (.cons (.nils _) (.all _))))))))) <|aD ?_)
 refine bC ?_
 obtain ⟨x1,hx1,h⟩:=bF h
 obtain ⟨x2,hx2,h⟩:=aQ h
 refine aE (aA rfl (lra q13 la46 rfl rfl rfl rfl rfl (nle rfl) rfl) <|aA rfl (aU (r:=.int _ _) rfl rfl (lb rfl) cl39 (.cons (svA q13 rfl) .nil) rfl (eY _ _ hx1)) <|aA rfl (aP rfl rfl (lb rfl) (svI rfl) (sv (d:=.int _ 0) rfl) rfl hx2) <|aD ?_)
 refine aV (b:=_) rfl (fun hc3=>?_) (fun hc3=>?_)
 ·
  replace h:=cD h hc3
  obtain ⟨x4,hx4,h⟩:=bF h
  refine bO (aA rfl (aM rfl rfl (lb rfl) (sv (d:=.fn 89 q28) rfl)) <|aA rfl (pJ (r':=.tuple []) (H1':=[(0,.blk 46 (v1 x4.1)),(1000,.blk 3 [.int .i64 a1]),(1001,.blk 53 [.int .u32 x4.2])]) 2 [0,1000,1001] rfl rfl (lb rfl) cl89 (sv (d:=.fn 89 q28) rfl) (.cons (svR rfl) .nil) rfl rfl ⟨rfl,rfl,by decide,rfl,List.forall_mem_cons.2 ⟨⟨rfl,rfl,rfl,rfl⟩,List.forall_mem_cons.2 ⟨⟨rfl,rfl,rfl,rfl⟩,List.forall_mem_cons.2 ⟨⟨rfl,rfl,rfl,rfl⟩,List.forall_mem_nil _⟩⟩⟩⟩ (pF _ _ _ _ hx4) rfl rfl (List.forall_mem_cons.2 ⟨⟨rfl,rfl⟩,List.forall_mem_cons.2 ⟨⟨rfl,rfl⟩,List.forall_mem_cons.2 ⟨⟨rfl,rfl⟩,List.forall_mem_nil _⟩⟩⟩) rfl) <|cL ?_)
  refine aS ?_
  refine aE (aA rfl (lra q13 la46 rfl rfl rfl rfl rfl (nle rfl) rfl) <|aA rfl (stA q13 q13 ti46 rfl rfl rfl rfl rfl rfl rfl rfl (nle rfl) rfl) <|aD ?_)
  refine aT ?_
  obtain rfl:=Option.some.inj h
  refine ⟨.inr rfl,(fun i=>i),⟨.nil,(.cons (.blk rfl rfl rfl) (.cons (.blk rfl rfl rfl) .nil)),cK [1000,1001] rfl (by decide),fun _ _=>rfl⟩,(.cons (rva la46 rfl rfl (nle rfl) rfl) .nil),rfl⟩
 ·
  replace h:=cE h hc3
  refine aY ?_
  refine aS ?_
  refine aE (aA rfl (lra q13 la46 rfl rfl rfl rfl rfl (nle rfl) rfl) <|aA rfl (stA q13 q13 ti46 rfl rfl rfl rfl rfl rfl rfl rfl (nle rfl) rfl) <|aD ?_)
  refine aT ?_
  obtain rfl:=Option.some.inj h
  refine ⟨.inr rfl,(fun i=>i),⟨.nil,(.cons (.blk rfl rfl rfl) (.cons (.blk rfl rfl rfl) .nil)),cK [1000,1001] rfl (by decide),fun _ _=>rfl⟩,(.cons (rva la46 rfl rfl (nle rfl) rfl) .nil),rfl⟩

theorem oE (a0 : aR) (a1 : Int) (r : (aR × Int)) (h : iY a0 a1 = some r) : cF Tryz.prog 35 [.agg (v1 a0),.int .i64 a1] (retD [.agg (v1 r.1),.int .u32 r.2]):=by
 refine bA (rs:=[.agg (v1 r.1),.int .u32 r.2]) Tryz.func35 rfl Tryz.ntmps35 (nle rfl) rfl fun O hO=>?_
 show IWP _ _ _ _ ⟨[(0,.agg (v1 a0)),(1,.int .i64 a1)],[]⟩ _
 unfold iY at h
 refine aE (aA rfl (bR (cs:=q13) 0 rfl rfl (lb rfl) rfl (svA q13 rfl) rfl rfl) <|aA rfl (bR (cs:=[.int _ _]) 1 rfl rfl (lb rfl) rfl (svI rfl) rfl rfl) <|aA rfl (bD (cs:=q14) (cs':=(w41 0 0 [] 0 ([] : List aJ) ([] : List aG) false false false false 0 [] ([] : List aN) 0 0 0 0 0 0 0 0 0 0 0)) 2 rfl rfl (lb rfl) rfl ti46 rfl rfl (.k4 (.cons (.nils _) (.cons (.nils _) (.k4 (.k (.k (.cons (.nils _) (.all _))))))))) <|aA rfl (aH rfl rfl (lb rfl) (sv (d:=.int _ 0) rfl)) <|aD ?_)
 refine aE (aA rfl (bD (cs:=[.int _ _]) (cs':=[.int .u32 0]) 3 rfl rfl (lb rfl) rfl ti53 rfl rfl (.all _)) <|aA rfl (bN (ds':=[.int _ _]) rfl rfl ti53 (svR rfl) rfl (sv (d:=.int _ 0) rfl) rfl rfl rfl (nle rfl) rfl) <|aD ?_)
 obtain ⟨x1,hx1,h⟩:=bF h
 refine aE (aA rfl (lra q13 la46 rfl rfl rfl rfl rfl (nle rfl) rfl) <|aA rfl (jW rfl rfl (lb rfl) (.cons (svR rfl) (.cons (svR rfl) .nil))) <|aA rfl (dO (r':=.agg (v1 x1.1)) (H1':=[(1,.blk 3 [.int .i64 a1]),(3,.blk 53 [.int .u32 x1.2])]) 4 [1,3] rfl rfl (lb rfl) cl79 (.cons (svA q13 rfl) (.cons (sv (d:=.fn 89 q28) rfl) .nil)) rfl rfl ⟨rfl,rfl,by decide,rfl,List.forall_mem_cons.2 ⟨⟨rfl,rfl,rfl,rfl⟩,List.forall_mem_cons.2 ⟨⟨rfl,rfl,rfl,rfl⟩,List.forall_mem_nil _⟩⟩⟩ (kU _ _ _ _ hx1) rfl rfl (List.forall_mem_cons.2 ⟨⟨rfl,rfl⟩,List.forall_mem_cons.2 ⟨⟨rfl,rfl⟩,List.forall_mem_nil _⟩⟩) rfl) <|aA rfl (stA q13 q13 ti46 rfl rfl rfl rfl rfl rfl rfl rfl (nle rfl) rfl) <|aD ?_)
 refine dD rfl [⟨[2],[0],[(10,.agg (v1 x1.1))],[]⟩,
  ⟨[6],[3],[(11,.int .u32 x1.2)],[]⟩,
  ⟨[4,10],[2],[],[(2,.blk 46 (v1 x1.1))]⟩,
  ⟨[11],[],[(5,.int .u32 x1.2)],[]⟩] rfl ?_ (by kernel_rfl) ?_
 ·refine .cons (lop rfl rfl fun S hA=>(bK (cs:=q13) rfl rfl (lb rfl) Tryz.underlying46 ag46 ti46 (by decide) (svaR hA rfl rfl) (agi hA rfl rfl) (nle rfl) rfl)) ?_
  refine .cons (lop rfl rfl fun S hA=>(aF (d:=.int _ _) rfl rfl (lb rfl) Tryz.underlying53 ag53 ti53 (by decide) (svaR hA rfl rfl) (agi hA rfl rfl) (nle rfl) rfl)) ?_
  refine .cons (lop rfl rfl fun S hA=>(bN (ds':=q13) rfl rfl ti46 (svaR hA rfl rfl) (agi hA rfl rfl) (svaA q13 hA rfl rfl) rfl rfl rfl (nle rfl) rfl)) ?_
  refine .cons (lop rfl rfl fun S hA=>(aH rfl rfl (lb rfl) (svaI hA rfl rfl))) ?_
  exact .nil
 refine aT ?_
 obtain rfl:=Option.some.inj h
 refine ⟨.inr rfl,(.cons (rva la46 rfl rfl (nle rfl) rfl) (.cons (sv rfl) .nil))⟩

theorem xN (a0 : aW) (r : Bool) (h : sJ a0 = some r) : cF Tryz.prog 71 [.agg (v2 a0)] (.bool r):=by
 refine bA (rs:=[.bool r]) Tryz.func71 rfl Tryz.ntmps71 (nle rfl) rfl fun O hO=>?_
 show IWP _ _ _ _ ⟨[(0,.agg (v2 a0))],[]⟩ _
 unfold sJ at h
 refine aE (aA rfl (bR (cs:=q15) 0 rfl rfl (lb rfl) rfl (svA q15 rfl) rfl rfl) <|aA rfl (aH rfl rfl (lb rfl) (sv (d:=.bool false) rfl)) <|aD ?_)
 obtain ⟨x1,hx1,h⟩:=aQ h
 obtain ⟨x2,hx2,h⟩:=aQ h
 refine aE (aA rfl (faR 8 rfl rfl rfl Tryz.underlying37 rfl ti4 (lb rfl) rfl rfl) <|aA rfl (aF (d:=.bool _) rfl rfl (lb rfl) Tryz.underlying4 ag4 ti4 (by decide) (svR rfl) rfl (nle rfl) rfl) <|aA rfl (mvB rfl rfl rfl rfl) <|aC rfl rfl (.one rfl) rfl (by decide) (fun hb=>(faR 1 rfl rfl rfl Tryz.underlying37 rfl ti9 (lb rfl) rfl rfl)) <|aC rfl rfl (.one rfl) rfl (by decide) (fun hb=>(aF (d:=.str _) rfl rfl (lb rfl) Tryz.underlying9 ag9 ti9 (by decide) (svcR rfl hb) rfl (nle rfl) rfl)) <|aC rfl rfl (.one rfl) rfl (by decide) (fun hb=>(jC rfl rfl (lb rfl) (svc (d:=.str _) rfl hb) (sv (d:=.str []) rfl) rfl hx1)) <|aA rfl (bT rfl rfl (lb rfl) (svB rfl) rfl rfl hx2) <|aA rfl (asB rfl rfl rfl rfl) <|aD ?_)
 refine aT ?_
 obtain rfl:=Option.some.inj h
 refine ⟨.inr rfl,(.cons (sv rfl) .nil)⟩

theorem sS (a0 : aR) (r : Bool) (h : pR a0 = some r) : cF Tryz.prog 22 [.agg (v1 a0)] (.bool r):=by
 refine bA (rs:=[.bool r]) Tryz.func22 rfl Tryz.ntmps22 (nle rfl) rfl fun O hO=>?_
 show IWP _ _ _ _ ⟨[(0,.agg (v1 a0))],[]⟩ _
 unfold pR at h
 refine aE (aA rfl (bR (cs:=q13) 0 rfl rfl (lb rfl) rfl (svA q13 rfl) rfl rfl) <|aA rfl (aH rfl rfl (lb rfl) (sv (d:=.bool false) rfl)) <|aD ?_)
 obtain ⟨x1,hx1,h⟩:=bF h
 obtain ⟨x2,hx2,h⟩:=bF h
 obtain ⟨x3,hx3,h⟩:=bF h
 obtain ⟨x4,hx4,h⟩:=aQ h
 obtain ⟨x5,hx5,h⟩:=aQ h
 refine aE (aA rfl (lra q13 la46 rfl rfl rfl rfl rfl (nle rfl) rfl) <|aA rfl (aU (r:=.bool _) rfl rfl (lb rfl) cl69 (.cons (svA q13 rfl) .nil) rfl (nO _ _ hx1)) <|aA rfl (mvB rfl rfl rfl rfl) <|aC rfl rfl (.one rfl) rfl (by decide) (fun hb=>(faR 10 rfl rfl rfl Tryz.underlying46 rfl ti42 (lb rfl) rfl rfl)) <|aC rfl rfl (.one rfl) rfl (by decide) (fun hb=>(bK (cs:=q19) rfl rfl (lb rfl) Tryz.underlying42 ag42 ti42 (by decide) (svcR rfl hb) rfl (nle rfl) rfl)) <|aC rfl rfl (.one rfl) rfl (by decide) (fun hb=>(aU (r:=.bool _) rfl rfl (lb rfl) cl70 (.cons (svcA (v4 a0.Recv) rfl hb) .nil) rfl (rH _ _ (gd_t hx2 hb)))) <|aC rfl rfl (.one rfl) rfl (by decide) (fun hb=>(aM rfl rfl (lb rfl) (svcB rfl hb))) <|aC rfl rfl (.two rfl) rfl (by decide) (fun hb=>(faR 1 rfl rfl rfl Tryz.underlying46 rfl ti37 (lb rfl) rfl rfl)) <|aC rfl rfl (.two rfl) rfl (by decide) (fun hb=>(bK (cs:=q15) rfl rfl (lb rfl) Tryz.underlying37 ag37 ti37 (by decide) (svcR rfl hb) rfl (nle rfl) rfl)) <|aC rfl rfl (.two rfl) rfl (by decide) (fun hb=>(aU (r:=.bool _) rfl rfl (lb rfl) cl71 (.cons (svcA (v2 a0.Send) rfl hb) .nil) rfl (xN _ _ (gd_t hx3 hb)))) <|aC rfl rfl (.one rfl) rfl (by decide) (fun hb=>(jH rfl rfl (lb rfl) hb (svcB rfl hb) rfl rfl hx4)) <|aA rfl (cQ rfl rfl (lb rfl) (svB rfl) rfl rfl hx5) <|aA rfl (asB rfl rfl rfl rfl) <|aD ?_)
 refine aT ?_
 obtain rfl:=Option.some.inj h
 refine ⟨.inr rfl,(.cons (sv rfl) .nil)⟩

theorem xJ (a0 : aW) (a1 : Int) (r : Bool) (h : sH a0 a1 = some r) : cF Tryz.prog 75 [.agg (v2 a0),.int .i64 a1] (.bool r):=by
 refine bA (rs:=[.bool r]) Tryz.func75 rfl Tryz.ntmps75 (nle rfl) rfl fun O hO=>?_
 show IWP _ _ _ _ ⟨[(0,.agg (v2 a0)),(1,.int .i64 a1)],[]⟩ _
 unfold sH at h
 refine aE (aA rfl (bR (cs:=q15) 0 rfl rfl (lb rfl) rfl (svA q15 rfl) rfl rfl) <|aA rfl (aH rfl rfl (lb rfl) (sv (d:=.bool false) rfl)) <|aD ?_)
 refine bC ?_
 obtain ⟨x1,hx1,h⟩:=bF h
 obtain ⟨x2,hx2,h⟩:=aQ h
 refine aE (aA rfl (lra q15 la37 rfl rfl rfl rfl rfl (nle rfl) rfl) <|aA rfl (aU (r:=.int _ _) rfl rfl (lb rfl) yG (.cons (svA q15 rfl) .nil) rfl (iU _ _ hx1)) <|aA rfl (aP rfl rfl (lb rfl) (svI rfl) (sv (d:=.int _ 0) rfl) rfl hx2) <|aD ?_)
 refine aV (b:=_) rfl (fun hc3=>?_) (fun hc3=>?_)
 ·
  replace h:=cD h hc3
  refine aE (aA rfl (aH rfl rfl (lb rfl) (sv (d:=.bool false) rfl)) <|aD ?_)
  refine aT ?_
  refine bI ?_
  obtain rfl:=Option.some.inj h
  refine ⟨.inr rfl,(.cons (sv rfl) .nil)⟩
 ·
  replace h:=cE h hc3
  refine aY ?_
  refine aS ?_
  obtain ⟨x4,hx4,h⟩:=bF h
  refine aE (aA rfl (lra q15 la37 rfl rfl rfl rfl rfl (nle rfl) rfl) <|aA rfl (mvI rfl rfl rfl rfl) <|aA rfl (aU (r:=.tuple q39) rfl rfl (lb rfl) cl125 (.cons (svA q15 rfl) (.cons (sv (d:=.int _ 1) rfl) (.cons (svI rfl) .nil))) rfl (mX _ _ _ _ hx4)) <|aA rfl (aM rfl rfl (lb rfl) (sv (d:=.tuple q39) rfl)) <|aA rfl (aZ (d:=.agg q20) rfl rfl (lb rfl) (sv (d:=.tuple q39) rfl) rfl) <|aA rfl (aZ (d:=.bool _) rfl rfl (lb rfl) (sv (d:=.tuple q39) rfl) rfl) <|aA rfl (bD (cs:=q20) (cs':=(w46 0 0 0 false)) 1 rfl rfl (lb rfl) rfl dH rfl rfl (.all _)) <|aA rfl (stA q20 q20 dH rfl rfl rfl rfl rfl rfl rfl rfl (nle rfl) rfl) <|aA rfl (asB rfl rfl rfl rfl) <|aD ?_)
  refine aE (aA rfl (mvB rfl rfl rfl rfl) <|aA rfl (asB rfl rfl rfl rfl) <|aD ?_)
  refine aT ?_
  obtain rfl:=Option.some.inj h
  refine ⟨.inr rfl,(.cons (sv rfl) .nil)⟩

theorem sP (a0 : aR) (a1 : Int) (r : Bool) (h : pP a0 a1 = some r) : cF Tryz.prog 26 [.agg (v1 a0),.int .i64 a1] (.bool r):=by
 refine bA (rs:=[.bool r]) Tryz.func26 rfl Tryz.ntmps26 (nle rfl) rfl fun O hO=>?_
 show IWP _ _ _ _ ⟨[(0,.agg (v1 a0)),(1,.int .i64 a1)],[]⟩ _
 unfold pP at h
 refine aE (aA rfl (bR (cs:=q13) 0 rfl rfl (lb rfl) rfl (svA q13 rfl) rfl rfl) <|aA rfl (aH rfl rfl (lb rfl) (sv (d:=.bool false) rfl)) <|aD ?_)
 obtain ⟨x1,hx1,h⟩:=aQ h
 obtain ⟨x2,hx2,h⟩:=bF h
 obtain ⟨x3,hx3,h⟩:=aQ h
 obtain ⟨x4,hx4,h⟩:=aQ h
 obtain ⟨x5,hx5,h⟩:=bF h
 obtain ⟨x6,hx6,h⟩:=bF h
 obtain ⟨x7,hx7,h⟩:=aQ h
 refine dD rfl [⟨[1],[],[(5,.int .i64 a1)],[]⟩,
  ⟨[5],[],[(6,.bool x1)],[]⟩,
  ⟨[6],[],[(7,.bool x1)],[]⟩,
  ⟨[2,7],[0],[(8,.cnd (x1 == true) (.agg (v1 a0)))],[]⟩,
  ⟨[7,8],[],[(9,.cnd (x1 == true) (.int .i64 x2))],[]⟩,
  ⟨[7,9],[],[(10,.cnd (x1 == true) (.bool x3))],[]⟩,
  ⟨[7,10],[],[(11,.bool x4)],[]⟩,
  ⟨[11],[],[(12,.bool x4)],[]⟩,
  ⟨[2,12],[],[(13,.cnd (x4 == true) (.ref 0 1))],[]⟩,
  ⟨[12,13],[0],[(14,.cnd (x4 == true) (.agg (v2 a0.Send)))],[]⟩,
  ⟨[2,12],[0],[(15,.cnd (x4 == true) (.agg (v1 a0)))],[]⟩,
  ⟨[1,12],[],[(16,.cnd (x4 == true) (.int .i64 a1))],[]⟩,
  ⟨[12,15,16],[],[(17,.cnd (x4 == true) (.int .i64 x5))],[]⟩,
  ⟨[12,14,17],[],[(18,.cnd (x4 == true) (.bool x6))],[]⟩,
  ⟨[12,18],[],[(19,.bool x7)],[]⟩,
  ⟨[19],[],[(4,.bool x7)],[]⟩] rfl ?_ (by kernel_rfl) ?_
 ·refine .cons (lop rfl rfl fun S hA=>(aM rfl rfl (lb rfl) (svaI hA rfl rfl))) ?_
  refine .cons (lop rfl rfl fun S hA=>(aP rfl rfl (lb rfl) (svaI hA rfl rfl) (sv (d:=.int _ 0) rfl) rfl hx1)) ?_
  refine .cons (lop rfl rfl fun S hA=>(aM rfl rfl (lb rfl) (svaB hA rfl rfl))) ?_
  refine .cons (lopg rfl rfl rfl rfl (by decide) (fun S hA=>grd1 hA rfl rfl) (fun S hA hb=>(bK (cs:=q13) rfl rfl (lb rfl) Tryz.underlying46 ag46 ti46 (by decide) (svaR hA rfl rfl) (agi hA rfl rfl) (nle rfl) rfl))) ?_
  refine .cons (lopg rfl rfl rfl rfl (by decide) (fun S hA=>grd1 hA rfl rfl) (fun S hA hb=>(aU (r:=.int _ _) rfl rfl (lb rfl) cl39 (.cons (svc (d:=.agg (v1 a0)) (agr hA rfl rfl) hb) .nil) rfl (eY _ _ (gd_t hx2 hb))))) ?_
  refine .cons (lopg rfl rfl rfl rfl (by decide) (fun S hA=>grd1 hA rfl rfl) (fun S hA hb=>(aP rfl rfl (lb rfl) (svc (d:=.int _ _) (agr hA rfl rfl) hb) (sv (d:=.int _ 0) rfl) rfl hx3))) ?_
  refine .cons (lop rfl rfl fun S hA=>(bT rfl rfl (lb rfl) (svaB hA rfl rfl) (agr hA rfl rfl) rfl hx4)) ?_
  refine .cons (lop rfl rfl fun S hA=>(aM rfl rfl (lb rfl) (svaB hA rfl rfl))) ?_
  refine .cons (lopg rfl rfl rfl rfl (by decide) (fun S hA=>grd1 hA rfl rfl) (fun S hA hb=>(aI rfl rfl (lb rfl) Tryz.underlying46 rfl ti37 (by decide) (svaR hA rfl rfl) (off':=1) rfl))) ?_
  refine .cons (lopg rfl rfl rfl rfl (by decide) (fun S hA=>grd1 hA rfl rfl) (fun S hA hb=>(bK (cs:=q15) rfl rfl (lb rfl) Tryz.underlying37 ag37 ti37 (by decide) (svc (d:=.ref _ _) (agr hA rfl rfl) hb) (agi hA rfl rfl) (nle rfl) rfl))) ?_
  refine .cons (lopg rfl rfl rfl rfl (by decide) (fun S hA=>grd1 hA rfl rfl) (fun S hA hb=>(bK (cs:=q13) rfl rfl (lb rfl) Tryz.underlying46 ag46 ti46 (by decide) (svaR hA rfl rfl) (agi hA rfl rfl) (nle rfl) rfl))) ?_
  refine .cons (lopg rfl rfl rfl rfl (by decide) (fun S hA=>grd1 hA rfl rfl) (fun S hA hb=>(aM rfl rfl (lb rfl) (svaI hA rfl rfl)))) ?_
  refine .cons (lopg rfl rfl rfl rfl (by decide) (fun S hA=>grd1 hA rfl rfl) (fun S hA hb=>(aU (r:=.int _ _) rfl rfl (lb rfl) cl76 (.cons (svc (d:=.agg (v1 a0)) (agr hA rfl rfl) hb) (.cons (svc (d:=.int _ _) (agr hA rfl rfl) hb) .nil)) rfl (mA _ _ _ (gd_t hx5 hb))))) ?_
  refine .cons (lopg rfl rfl rfl rfl (by decide) (fun S hA=>grd1 hA rfl rfl) (fun S hA hb=>(aU (r:=.bool _) rfl rfl (lb rfl) cl75 (.cons (svc (d:=.agg (v2 a0.Send)) (agr hA rfl rfl) hb) (.cons (svc (d:=.int _ _) (agr hA rfl rfl) hb) .nil)) rfl (xJ _ _ _ (gd_t hx6 hb))))) ?_
  refine .cons (lop rfl rfl fun S hA=>(bT rfl rfl (lb rfl) (svaB hA rfl rfl) (agr hA rfl rfl) rfl hx7)) ?_
  refine .cons (lop rfl rfl fun S hA=>(aH rfl rfl (lb rfl) (svaB hA rfl rfl))) ?_
  exact .nil
 refine aT ?_
 obtain rfl:=Option.some.inj h
 refine ⟨.inr rfl,(.cons (sv rfl) .nil)⟩

theorem jF (a0 : (List aJ)) (a1 : (List aJ)) (r : Bool) (h : eR a0 a1 = some r) : cF Tryz.prog 126 [.slice false (a0.map aB.d),.slice false (a1.map aB.d)] (.bool r):=by
 refine bA (rs:=[.bool r]) Tryz.func126 rfl Tryz.ntmps126 (nle rfl) rfl fun O hO=>?_
 show IWP _ _ _ _ ⟨[(0,.slice false (a0.map aB.d)),(1,.slice false (a1.map aB.d))],[]⟩ _
 unfold eR at h
 refine aE (aA rfl (aH rfl rfl (lb rfl) (sv (d:=.bool false) rfl)) <|aD ?_)
 refine bC ?_
 obtain ⟨x1,hx1,h⟩:=aQ h
 refine aE (aA rfl (mvL rfl rfl rfl rfl) <|aA rfl (dL aB (l:=a0) rfl rfl (lb rfl) Tryz.underlying33 (svL rfl)) <|aA rfl (mvL rfl rfl rfl rfl) <|aA rfl (dL aB (l:=a1) rfl rfl (lb rfl) Tryz.underlying33 (svL rfl)) <|aA rfl (aP rfl rfl (lb rfl) (svI rfl) (svI rfl) rfl hx1) <|aD ?_)
 refine aV (b:=_) rfl (fun hc2=>?_) (fun hc2=>?_)
 ·
  replace h:=cD h hc2
  refine aE (aA rfl (aH rfl rfl (lb rfl) (sv (d:=.bool false) rfl)) <|aD ?_)
  refine aT ?_
  refine bI ?_
  obtain rfl:=Option.some.inj h
  refine ⟨.inr rfl,(.cons (sv rfl) .nil)⟩
 ·
  replace h:=cE h hc2
  refine aY ?_
  refine aS ?_
  refine bC ?_
  refine aE (aA rfl (mvL rfl rfl rfl rfl) <|aA rfl (dL aB (l:=a0) rfl rfl (lb rfl) Tryz.underlying33 (svL rfl)) <|aA rfl (aM rfl rfl (lb rfl) (sv (d:=.int _ 0) rfl)) <|aD ?_)
  refine bZ ?_
  refine dW (α:=Nat × Int) (fun z=>⟨[(0,.slice false (a0.map aB.d)),(1,.slice false (a1.map aB.d)),(12,.int .i64 (a0.length : Int)),(13,.int .i64 z.2)],[]⟩) (fun z=>dI a0 a1 z.1 z.2 = some r) (fun z=>z.1) (fuel,0) (fun i=>i) ⟨(.sames rfl rfl),.nil,cK [] rfl (by decide),fun _ _=>rfl⟩ ?_ ?_
  ·exact h
  ·
   rintro ⟨n0,v10⟩ h
   cases n0 with
   | zero=>exact absurd h (by unfold dI; exact nofun)
   | succ n0 =>
    unfold dI at h
    obtain ⟨x18,hx18,h⟩:=aQ h
    refine aE (aA rfl (aP rfl rfl (lb rfl) (svI rfl) (svI rfl) rfl hx18) <|aD ?_)
    refine bC ?_
    refine aV (b:=_) rfl (fun hc19=>?_) (fun hc19=>?_)
    ·
     replace h:=cD h hc19
     refine aY ?_
     refine aS ?_
     refine bC ?_
     refine bZ ?_
     refine aE (aA rfl (mvI rfl rfl rfl rfl) <|aA rfl (asI rfl rfl rfl rfl) <|aD ?_)
     obtain ⟨x20,hx20,h⟩:=bF h
     obtain ⟨x21,hx21,h⟩:=bF h
     obtain ⟨x22,hx22,h⟩:=aQ h
     refine dD rfl [⟨[0],[],[(16,.slice false (a0.map aB.d))],[]⟩,
      ⟨[5],[],[(17,.int .i64 v10)],[]⟩,
      ⟨[16,17],[],[(18,.fptr (v7 x20))],[]⟩,
      ⟨[18],[],[(19,.agg (v7 x20))],[]⟩,
      ⟨[1],[],[(20,.slice false (a1.map aB.d))],[]⟩,
      ⟨[5],[],[(21,.int .i64 v10)],[]⟩,
      ⟨[20,21],[],[(22,.fptr (v7 x21))],[]⟩,
      ⟨[22],[],[(23,.agg (v7 x21))],[]⟩,
      ⟨[19,23],[],[(24,.bool (!x22))],[]⟩] rfl ?_ (by kernel_rfl) ?_
     ·refine .cons (lop rfl rfl fun S hA=>(aM rfl rfl (lb rfl) (svaL hA rfl rfl))) ?_
      refine .cons (lop rfl rfl fun S hA=>(aM rfl rfl (lb rfl) (svaI hA rfl rfl))) ?_
      refine .cons (lop rfl rfl fun S hA=>(dY aB (cs:=q20) rfl rfl (lb rfl) Tryz.underlying33 dH (svaL hA rfl rfl) (svaI hA rfl rfl) hx20 rfl rfl)) ?_
      refine .cons (lop rfl rfl fun S hA=>(dE (cs:=q20) rfl rfl (lb rfl) Tryz.underlying105 nN dH (by decide) (sv (d:=.fptr q20) (agr hA rfl rfl)) (nle rfl) rfl)) ?_
      refine .cons (lop rfl rfl fun S hA=>(aM rfl rfl (lb rfl) (svaL hA rfl rfl))) ?_
      refine .cons (lop rfl rfl fun S hA=>(aM rfl rfl (lb rfl) (svaI hA rfl rfl))) ?_
      refine .cons (lop rfl rfl fun S hA=>(dY aB (cs:=q20) rfl rfl (lb rfl) Tryz.underlying33 dH (svaL hA rfl rfl) (svaI hA rfl rfl) hx21 rfl rfl)) ?_
      refine .cons (lop rfl rfl fun S hA=>(dE (cs:=q20) rfl rfl (lb rfl) Tryz.underlying105 nN dH (by decide) (sv (d:=.fptr q20) (agr hA rfl rfl)) (nle rfl) rfl)) ?_
      refine .cons (lop rfl rfl fun S hA=>(xZ rfl rfl (lb rfl) Tryz.underlying105 st105.1 st105.2 (svaA q20 hA rfl rfl) (svaA q20 hA rfl rfl) (congrArg some hx22))) ?_
      exact .nil
     refine aV (b:=_) rfl (fun hc23=>?_) (fun hc23=>?_)
     ·
      replace h:=cD h hc23
      refine aE (aA rfl (aH rfl rfl (lb rfl) (sv (d:=.bool false) rfl)) <|aD ?_)
      refine aT ?_
      refine cS ?_
      refine bI ?_
      refine bI ?_
      refine cS ?_
      refine bI ?_
      obtain rfl:=Option.some.inj h
      refine ⟨.inr rfl,(.cons (sv rfl) .nil)⟩
     ·
      replace h:=cE h hc23
      refine aY ?_
      refine cO ?_
      refine aS ?_
      obtain ⟨x24,hx24,h⟩:=aQ h
      refine bO (aA rfl (bM rfl rfl (lb rfl) (svI rfl) (sv (d:=.int _ 1) rfl) rfl hx24) <|aA rfl (mvI rfl rfl rfl rfl) <|cL ?_)
      refine aS ⟨(n0,x24),(fun i=>i),⟨(.sames rfl rfl),.nil,cK [] rfl (by decide),fun _ _=>rfl⟩,?_,?_⟩
      exact h
      exact Nat.lt_succ_self _
    ·
     replace h:=cE h hc19
     refine eE ?_
     refine cU ?_
     refine cU ?_
     refine eG ?_
     refine aS ?_
     refine aE (aA rfl (aH rfl rfl (lb rfl) (sv (d:=.bool true) rfl)) <|aD ?_)
     refine aT ?_
     obtain rfl:=Option.some.inj h
     refine ⟨.inr rfl,(.cons (sv rfl) .nil)⟩

theorem xK (a0 : aW) (a1 : aW) (r : Bool) (h : sI a0 a1 = some r) : cF Tryz.prog 77 [.agg (v2 a0),.agg (v2 a1)] (.bool r):=by
 refine bA (rs:=[.bool r]) Tryz.func77 rfl Tryz.ntmps77 (nle rfl) rfl fun O hO=>?_
 show IWP _ _ _ _ ⟨[(0,.agg (v2 a0)),(1,.agg (v2 a1))],[]⟩ _
 unfold sI at h
 refine aE (aA rfl (bR (cs:=q15) 0 rfl rfl (lb rfl) rfl (svA q15 rfl) rfl rfl) <|aA rfl (bR (cs:=q15) 1 rfl rfl (lb rfl) rfl (svA q15 rfl) rfl rfl) <|aA rfl (aH rfl rfl (lb rfl) (sv (d:=.bool false) rfl)) <|aD ?_)
 refine bC ?_
 obtain ⟨x1,hx1,h⟩:=bF h
 obtain ⟨x2,hx2,h⟩:=bF h
 obtain ⟨x3,hx3,h⟩:=aQ h
 refine aE (aA rfl (faR 3 rfl rfl rfl Tryz.underlying37 rfl ti33 (lb rfl) rfl rfl) <|aA rfl (lrL la33 rfl rfl rfl rfl rfl (nle rfl) rfl) <|aA rfl (faR 3 rfl rfl rfl Tryz.underlying37 rfl ti33 (lb rfl) rfl rfl) <|aA rfl (lrL la33 rfl rfl rfl rfl rfl (nle rfl) rfl) <|aA rfl (aU (r:=.bool _) rfl rfl (lb rfl) cl126 (.cons (svL rfl) (.cons (svL rfl) .nil)) rfl (jF _ _ _ hx1)) <|aA rfl (dB rfl rfl (lb rfl) (svB rfl)) <|aA rfl (mvB rfl rfl rfl rfl) <|aC rfl rfl (.one rfl) rfl (by decide) (fun hb=>(faR 4 rfl rfl rfl Tryz.underlying37 rfl ti35 (lb rfl) rfl rfl)) <|aC rfl rfl (.one rfl) rfl (by decide) (fun hb=>(aF (d:=.slice _ _) rfl rfl (lb rfl) Tryz.underlying35 ag35 ti35 (by decide) (svcR rfl hb) rfl (nle rfl) rfl)) <|aC rfl rfl (.one rfl) rfl (by decide) (fun hb=>(faR 4 rfl rfl rfl Tryz.underlying37 rfl ti35 (lb rfl) rfl rfl)) <|aC rfl rfl (.one rfl) rfl (by decide) (fun hb=>(aF (d:=.slice _ _) rfl rfl (lb rfl) Tryz.underlying35 ag35 ti35 (by decide) (svcR rfl hb) rfl (nle rfl) rfl)) <|aC rfl rfl (.one rfl) rfl (by decide) (fun hb=>(aU (r:=.bool _) rfl rfl (lb rfl) cl127 (.cons (svcL rfl hb) (.cons (svcL rfl hb) .nil)) rfl (rI _ _ _ (gd_t hx2 hb)))) <|aC rfl rfl (.one rfl) rfl (by decide) (fun hb=>(dB rfl rfl (lb rfl) (svcB rfl hb))) <|aA rfl (cQ rfl rfl (lb rfl) (svB rfl) rfl rfl hx3) <|aD ?_)
 refine aV (b:=_) rfl (fun hc4=>?_) (fun hc4=>?_)
 ·
  replace h:=cD h hc4
  refine aE (aA rfl (aH rfl rfl (lb rfl) (sv (d:=.bool false) rfl)) <|aD ?_)
  refine aT ?_
  refine bI ?_
  obtain rfl:=Option.some.inj h
  refine ⟨.inr rfl,(.cons (sv rfl) .nil)⟩
 ·
  replace h:=cE h hc4
  refine aY ?_
  refine aS ?_
  obtain ⟨x5,hx5,h⟩:=aQ h
  obtain ⟨x6,hx6,h⟩:=aQ h
  obtain ⟨x7,hx7,h⟩:=aQ h
  obtain ⟨x8,hx8,h⟩:=aQ h
  obtain ⟨x9,hx9,h⟩:=aQ h
  obtain ⟨x10,hx10,h⟩:=aQ h
  obtain ⟨x11,hx11,h⟩:=aQ h
  refine aE (aA rfl (faR 5 rfl rfl rfl Tryz.underlying37 rfl ti4 (lb rfl) rfl rfl) <|aA rfl (aF (d:=.bool _) rfl rfl (lb rfl) Tryz.underlying4 ag4 ti4 (by decide) (svR rfl) rfl (nle rfl) rfl) <|aA rfl (faR 5 rfl rfl rfl Tryz.underlying37 rfl ti4 (lb rfl) rfl rfl) <|aA rfl (aF (d:=.bool _) rfl rfl (lb rfl) Tryz.underlying4 ag4 ti4 (by decide) (svR rfl) rfl (nle rfl) rfl) <|aA rfl (rX rfl rfl (lb rfl) Tryz.underlying4 (svB rfl) (svB rfl) hx5) <|aA rfl (mvB rfl rfl rfl rfl) <|aC rfl rfl (.one rfl) rfl (by decide) (fun hb=>(faR 6 rfl rfl rfl Tryz.underlying37 rfl ti4 (lb rfl) rfl rfl)) <|aC rfl rfl (.one rfl) rfl (by decide) (fun hb=>(aF (d:=.bool _) rfl rfl (lb rfl) Tryz.underlying4 ag4 ti4 (by decide) (svcR rfl hb) rfl (nle rfl) rfl)) <|aC rfl rfl (.one rfl) rfl (by decide) (fun hb=>(faR 6 rfl rfl rfl Tryz.underlying37 rfl ti4 (lb rfl) rfl rfl)) <|aC rfl rfl (.one rfl) rfl (by decide) (fun hb=>(aF (d:=.bool _) rfl rfl (lb rfl) Tryz.underlying4 ag4 ti4 (by decide) (svcR rfl hb) rfl (nle rfl) rfl)) <|aC rfl rfl (.one rfl) rfl (by decide) (fun hb=>(rX rfl rfl (lb rfl) Tryz.underlying4 (svcB rfl hb) (svcB rfl hb) hx6)) <|aA rfl (bT rfl rfl (lb rfl) (svB rfl) rfl rfl hx7) <|aA rfl (mvB rfl rfl rfl rfl) <|aC rfl rfl (.one rfl) rfl (by decide) (fun hb=>(faR 7 rfl rfl rfl Tryz.underlying37 rfl ti4 (lb rfl) rfl rfl)) <|aC rfl rfl (.one rfl) rfl (by decide) (fun hb=>(aF (d:=.bool _) rfl rfl (lb rfl) Tryz.underlying4 ag4 ti4 (by decide) (svcR rfl hb) rfl (nle rfl) rfl)) <|aC rfl rfl (.one rfl) rfl (by decide) (fun hb=>(faR 7 rfl rfl rfl Tryz.underlying37 rfl ti4 (lb rfl) rfl rfl)) <|aC rfl rfl (.one rfl) rfl (by decide) (fun hb=>(aF (d:=.bool _) rfl rfl (lb rfl) Tryz.underlying4 ag4 ti4 (by decide) (svcR rfl hb) rfl (nle rfl) rfl)) <|aC rfl rfl (.one rfl) rfl (by decide) (fun hb=>(rX rfl rfl (lb rfl) Tryz.underlying4 (svcB rfl hb) (svcB rfl hb) hx8)) <|aA rfl (bT rfl rfl (lb rfl) (svB rfl) rfl rfl hx9) <|aA rfl (mvB rfl rfl rfl rfl) <|aC rfl rfl (.one rfl) rfl (by decide) (fun hb=>(faR 8 rfl rfl rfl Tryz.underlying37 rfl ti4 (lb rfl) rfl rfl)) <|aC rfl rfl (.one rfl) rfl (by decide) (fun hb=>(aF (d:=.bool _) rfl rfl (lb rfl) Tryz.underlying4 ag4 ti4 (by decide) (svcR rfl hb) rfl (nle rfl) rfl)) <|aC rfl rfl (.one rfl) rfl (by decide) (fun hb=>(faR 8 rfl rfl rfl Tryz.underlying37 rfl ti4 (lb rfl) rfl rfl)) <|aC rfl rfl (.one rfl) rfl (by decide) (fun hb=>(aF (d:=.bool _) rfl rfl (lb rfl) Tryz.underlying4 ag4 ti4 (by decide) (svcR rfl hb) rfl (nle rfl) rfl)) <|aC rfl rfl (.one rfl) rfl (by decide) (fun hb=>(rX rfl rfl (lb rfl) Tryz.underlying4 (svcB rfl hb) (svcB rfl hb) hx10)) <|aA rfl (bT rfl rfl (lb rfl) (svB rfl) rfl rfl hx11) <|aA rfl (asB rfl rfl rfl rfl) <|aD ?_)
  obtain ⟨x12,hx12,h⟩:=aQ h
  obtain ⟨x13,hx13,h⟩:=aQ h
  obtain ⟨x14,hx14,h⟩:=aQ h
  obtain ⟨x15,hx15,h⟩:=aQ h
  obtain ⟨x16,hx16,h⟩:=aQ h
  obtain ⟨x17,hx17,h⟩:=aQ h
  refine aE (aA rfl (mvB rfl rfl rfl rfl) <|aA rfl (mvB rfl rfl rfl rfl) <|aC rfl rfl (.one rfl) rfl (by decide) (fun hb=>(faR 0 rfl rfl rfl Tryz.underlying37 rfl ti3 (lb rfl) rfl rfl)) <|aC rfl rfl (.one rfl) rfl (by decide) (fun hb=>(aF (d:=.int _ _) rfl rfl (lb rfl) Tryz.underlying3 ag3 ti3 (by decide) (svcR rfl hb) rfl (nle rfl) rfl)) <|aC rfl rfl (.one rfl) rfl (by decide) (fun hb=>(faR 0 rfl rfl rfl Tryz.underlying37 rfl ti3 (lb rfl) rfl rfl)) <|aC rfl rfl (.one rfl) rfl (by decide) (fun hb=>(aF (d:=.int _ _) rfl rfl (lb rfl) Tryz.underlying3 ag3 ti3 (by decide) (svcR rfl hb) rfl (nle rfl) rfl)) <|aC rfl rfl (.one rfl) rfl (by decide) (fun hb=>(aP rfl rfl (lb rfl) (svcI rfl hb) (svcI rfl hb) rfl hx12)) <|aA rfl (bT rfl rfl (lb rfl) (svB rfl) rfl rfl hx13) <|aA rfl (mvB rfl rfl rfl rfl) <|aC rfl rfl (.one rfl) rfl (by decide) (fun hb=>(faR 1 rfl rfl rfl Tryz.underlying37 rfl ti9 (lb rfl) rfl rfl)) <|aC rfl rfl (.one rfl) rfl (by decide) (fun hb=>(aF (d:=.str _) rfl rfl (lb rfl) Tryz.underlying9 ag9 ti9 (by decide) (svcR rfl hb) rfl (nle rfl) rfl)) <|aC rfl rfl (.one rfl) rfl (by decide) (fun hb=>(faR 1 rfl rfl rfl Tryz.underlying37 rfl ti9 (lb rfl) rfl rfl)) <|aC rfl rfl (.one rfl) rfl (by decide) (fun hb=>(aF (d:=.str _) rfl rfl (lb rfl) Tryz.underlying9 ag9 ti9 (by decide) (svcR rfl hb) rfl (nle rfl) rfl)) <|aC rfl rfl (.one rfl) rfl (by decide) (fun hb=>(jC rfl rfl (lb rfl) (svc (d:=.str _) rfl hb) (svc (d:=.str _) rfl hb) rfl hx14)) <|aA rfl (bT rfl rfl (lb rfl) (svB rfl) rfl rfl hx15) <|aA rfl (mvB rfl rfl rfl rfl) <|aC rfl rfl (.one rfl) rfl (by decide) (fun hb=>(faR 2 rfl rfl rfl Tryz.underlying37 rfl ti3 (lb rfl) rfl rfl)) <|aC rfl rfl (.one rfl) rfl (by decide) (fun hb=>(aF (d:=.int _ _) rfl rfl (lb rfl) Tryz.underlying3 ag3 ti3 (by decide) (svcR rfl hb) rfl (nle rfl) rfl)) <|aC rfl rfl (.one rfl) rfl (by decide) (fun hb=>(faR 2 rfl rfl rfl Tryz.underlying37 rfl ti3 (lb rfl) rfl rfl)) <|aC rfl rfl (.one rfl) rfl (by decide) (fun hb=>(aF (d:=.int _ _) rfl rfl (lb rfl) Tryz.underlying3 ag3 ti3 (by decide) (svcR rfl hb) rfl (nle rfl) rfl)) <|aC rfl rfl (.one rfl) rfl (by decide) (fun hb=>(aP rfl rfl (lb rfl) (svcI rfl hb) (svcI rfl hb) rfl hx16)) <|aA rfl (bT rfl rfl (lb rfl) (svB rfl) rfl rfl hx17) <|aA rfl (asB rfl rfl rfl rfl) <|aD ?_)
  refine aT ?_
  obtain rfl:=Option.some.inj h
  refine ⟨.inr rfl,(.cons (sv rfl) .nil)⟩

theorem jG (a0 : (List aN)) (a1 : (List aN)) (r : Bool) (h : eS a0 a1 = some r) : cF Tryz.prog 168 [.slice false (a0.map aL.d),.slice false (a1.map aL.d)] (.bool r):=by
 refine bA (rs:=[.bool r]) Tryz.func168 rfl Tryz.ntmps168 (nle rfl) rfl fun O hO=>?_
 show IWP _ _ _ _ ⟨[(0,.slice false (a0.map aL.d)),(1,.slice false (a1.map aL.d))],[]⟩ _
 unfold eS at h
 refine aE (aA rfl (aH rfl rfl (lb rfl) (sv (d:=.bool false) rfl)) <|aD ?_)
 refine bC ?_
 obtain ⟨x1,hx1,h⟩:=aQ h
 refine aE (aA rfl (mvL rfl rfl rfl rfl) <|aA rfl (dL aL (l:=a0) rfl rfl (lb rfl) Tryz.underlying38 (svL rfl)) <|aA rfl (mvL rfl rfl rfl rfl) <|aA rfl (dL aL (l:=a1) rfl rfl (lb rfl) Tryz.underlying38 (svL rfl)) <|aA rfl (aP rfl rfl (lb rfl) (svI rfl) (svI rfl) rfl hx1) <|aD ?_)
 refine aV (b:=_) rfl (fun hc2=>?_) (fun hc2=>?_)
 ·
  replace h:=cD h hc2
  refine aE (aA rfl (aH rfl rfl (lb rfl) (sv (d:=.bool false) rfl)) <|aD ?_)
  refine aT ?_
  refine bI ?_
  obtain rfl:=Option.some.inj h
  refine ⟨.inr rfl,(.cons (sv rfl) .nil)⟩
 ·
  replace h:=cE h hc2
  refine aY ?_
  refine aS ?_
  refine bC ?_
  refine aE (aA rfl (mvL rfl rfl rfl rfl) <|aA rfl (dL aL (l:=a0) rfl rfl (lb rfl) Tryz.underlying38 (svL rfl)) <|aA rfl (aM rfl rfl (lb rfl) (sv (d:=.int _ 0) rfl)) <|aD ?_)
  refine bZ ?_
  refine dW (α:=Nat × Int) (fun z=>⟨[(0,.slice false (a0.map aL.d)),(1,.slice false (a1.map aL.d)),(12,.int .i64 (a0.length : Int)),(13,.int .i64 z.2)],[]⟩) (fun z=>dJ a0 a1 z.1 z.2 = some r) (fun z=>z.1) (fuel,0) (fun i=>i) ⟨(.sames rfl rfl),.nil,cK [] rfl (by decide),fun _ _=>rfl⟩ ?_ ?_
  ·exact h
  ·
   rintro ⟨n0,v10⟩ h
   cases n0 with
   | zero=>exact absurd h (by unfold dJ; exact nofun)
   | succ n0 =>
    unfold dJ at h
    obtain ⟨x18,hx18,h⟩:=aQ h
    refine aE (aA rfl (aP rfl rfl (lb rfl) (svI rfl) (svI rfl) rfl hx18) <|aD ?_)
    refine bC ?_
    refine aV (b:=_) rfl (fun hc19=>?_) (fun hc19=>?_)
    ·
     replace h:=cD h hc19
     refine aY ?_
     refine aS ?_
     refine bC ?_
     refine bZ ?_
     refine aE (aA rfl (mvI rfl rfl rfl rfl) <|aA rfl (asI rfl rfl rfl rfl) <|aD ?_)
     obtain ⟨x20,hx20,h⟩:=bF h
     obtain ⟨x21,hx21,h⟩:=bF h
     obtain ⟨x22,hx22,h⟩:=aQ h
     refine dD rfl [⟨[0],[],[(16,.slice false (a0.map aL.d))],[]⟩,
      ⟨[5],[],[(17,.int .i64 v10)],[]⟩,
      ⟨[16,17],[],[(18,.fptr [.int .i64 x20.At,.str x20.Data])],[]⟩,
      ⟨[18],[],[(19,.agg [.int .i64 x20.At,.str x20.Data])],[]⟩,
      ⟨[1],[],[(20,.slice false (a1.map aL.d))],[]⟩,
      ⟨[5],[],[(21,.int .i64 v10)],[]⟩,
      ⟨[20,21],[],[(22,.fptr [.int .i64 x21.At,.str x21.Data])],[]⟩,
      ⟨[22],[],[(23,.agg [.int .i64 x21.At,.str x21.Data])],[]⟩,
      ⟨[19,23],[],[(24,.bool (!x22))],[]⟩] rfl ?_ (by kernel_rfl) ?_
     ·refine .cons (lop rfl rfl fun S hA=>(aM rfl rfl (lb rfl) (svaL hA rfl rfl))) ?_
      refine .cons (lop rfl rfl fun S hA=>(aM rfl rfl (lb rfl) (svaI hA rfl rfl))) ?_
      refine .cons (lop rfl rfl fun S hA=>(dY aL (cs:=q29) rfl rfl (lb rfl) Tryz.underlying38 fN (svaL hA rfl rfl) (svaI hA rfl rfl) hx20 rfl rfl)) ?_
      refine .cons (lop rfl rfl fun S hA=>(dE (cs:=q29) rfl rfl (lb rfl) Tryz.underlying228 qN fN (by decide) (sv (d:=.fptr q29) (agr hA rfl rfl)) (nle rfl) rfl)) ?_
      refine .cons (lop rfl rfl fun S hA=>(aM rfl rfl (lb rfl) (svaL hA rfl rfl))) ?_
      refine .cons (lop rfl rfl fun S hA=>(aM rfl rfl (lb rfl) (svaI hA rfl rfl))) ?_
      refine .cons (lop rfl rfl fun S hA=>(dY aL (cs:=q29) rfl rfl (lb rfl) Tryz.underlying38 fN (svaL hA rfl rfl) (svaI hA rfl rfl) hx21 rfl rfl)) ?_
      refine .cons (lop rfl rfl fun S hA=>(dE (cs:=q29) rfl rfl (lb rfl) Tryz.underlying228 qN fN (by decide) (sv (d:=.fptr q29) (agr hA rfl rfl)) (nle rfl) rfl)) ?_
      refine .cons (lop rfl rfl fun S hA=>(xZ rfl rfl (lb rfl) Tryz.underlying228 st228.1 st228.2 (svaA q29 hA rfl rfl) (svaA q29 hA rfl rfl) (congrArg some hx22))) ?_
      exact .nil
     refine aV (b:=_) rfl (fun hc23=>?_) (fun hc23=>?_)
     ·
      replace h:=cD h hc23
      refine aE (aA rfl (aH rfl rfl (lb rfl) (sv (d:=.bool false) rfl)) <|aD ?_)
      refine aT ?_
      refine cS ?_
      refine bI ?_
      refine bI ?_
      refine cS ?_
      refine bI ?_
      obtain rfl:=Option.some.inj h
      refine ⟨.inr rfl,(.cons (sv rfl) .nil)⟩
     ·
      replace h:=cE h hc23
      refine aY ?_
      refine cO ?_
      refine aS ?_
      obtain ⟨x24,hx24,h⟩:=aQ h
      refine bO (aA rfl (bM rfl rfl (lb rfl) (svI rfl) (sv (d:=.int _ 1) rfl) rfl hx24) <|aA rfl (mvI rfl rfl rfl rfl) <|cL ?_)
      refine aS ⟨(n0,x24),(fun i=>i),⟨(.sames rfl rfl),.nil,cK [] rfl (by decide),fun _ _=>rfl⟩,?_,?_⟩
      exact h
      exact Nat.lt_succ_self _
    ·
     replace h:=cE h hc19
     refine eE ?_
     refine cU ?_
     refine cU ?_
     refine eG ?_
     refine aS ?_
     refine aE (aA rfl (aH rfl rfl (lb rfl) (sv (d:=.bool true) rfl)) <|aD ?_)
     refine aT ?_
     obtain rfl:=Option.some.inj h
     refine ⟨.inr rfl,(.cons (sv rfl) .nil)⟩

theorem wG (a0 : bJ) (a1 : bJ) (r : Bool) (h : qQ a0 a1 = some r) : cF Tryz.prog 128 [.agg (v5 a0),.agg (v5 a1)] (.bool r):=by
 refine bA (rs:=[.bool r]) Tryz.func128 rfl Tryz.ntmps128 (nle rfl) rfl fun O hO=>?_
 show IWP _ _ _ _ ⟨[(0,.agg (v5 a0)),(1,.agg (v5 a1))],[]⟩ _
 unfold qQ at h
 refine aE (aA rfl (bR (cs:=q23) 0 rfl rfl (lb rfl) rfl (svA q23 rfl) rfl rfl) <|aA rfl (bR (cs:=q23) 1 rfl rfl (lb rfl) rfl (svA q23 rfl) rfl rfl) <|aA rfl (aH rfl rfl (lb rfl) (sv (d:=.bool false) rfl)) <|aD ?_)
 obtain ⟨x1,hx1,h⟩:=aQ h
 obtain ⟨x2,hx2,h⟩:=aQ h
 obtain ⟨x3,hx3,h⟩:=aQ h
 obtain ⟨x4,hx4,h⟩:=bF h
 obtain ⟨x5,hx5,h⟩:=aQ h
 refine aE (aA rfl (faR 0 rfl rfl rfl Tryz.underlying40 rfl ti3 (lb rfl) rfl rfl) <|aA rfl (aF (d:=.int _ _) rfl rfl (lb rfl) Tryz.underlying3 ag3 ti3 (by decide) (svR rfl) rfl (nle rfl) rfl) <|aA rfl (faR 0 rfl rfl rfl Tryz.underlying40 rfl ti3 (lb rfl) rfl rfl) <|aA rfl (aF (d:=.int _ _) rfl rfl (lb rfl) Tryz.underlying3 ag3 ti3 (by decide) (svR rfl) rfl (nle rfl) rfl) <|aA rfl (aP rfl rfl (lb rfl) (svI rfl) (svI rfl) rfl hx1) <|aA rfl (mvB rfl rfl rfl rfl) <|aC rfl rfl (.one rfl) rfl (by decide) (fun hb=>(faR 1 rfl rfl rfl Tryz.underlying40 rfl ti9 (lb rfl) rfl rfl)) <|aC rfl rfl (.one rfl) rfl (by decide) (fun hb=>(aF (d:=.str _) rfl rfl (lb rfl) Tryz.underlying9 ag9 ti9 (by decide) (svcR rfl hb) rfl (nle rfl) rfl)) <|aC rfl rfl (.one rfl) rfl (by decide) (fun hb=>(faR 1 rfl rfl rfl Tryz.underlying40 rfl ti9 (lb rfl) rfl rfl)) <|aC rfl rfl (.one rfl) rfl (by decide) (fun hb=>(aF (d:=.str _) rfl rfl (lb rfl) Tryz.underlying9 ag9 ti9 (by decide) (svcR rfl hb) rfl (nle rfl) rfl)) <|aC rfl rfl (.one rfl) rfl (by decide) (fun hb=>(jC rfl rfl (lb rfl) (svc (d:=.str _) rfl hb) (svc (d:=.str _) rfl hb) rfl hx2)) <|aA rfl (bT rfl rfl (lb rfl) (svB rfl) rfl rfl hx3) <|aA rfl (mvB rfl rfl rfl rfl) <|aC rfl rfl (.one rfl) rfl (by decide) (fun hb=>(faR 2 rfl rfl rfl Tryz.underlying40 rfl ti38 (lb rfl) rfl rfl)) <|aC rfl rfl (.one rfl) rfl (by decide) (fun hb=>(aF (d:=.slice _ _) rfl rfl (lb rfl) Tryz.underlying38 ag38 ti38 (by decide) (svcR rfl hb) rfl (nle rfl) rfl)) <|aC rfl rfl (.one rfl) rfl (by decide) (fun hb=>(faR 2 rfl rfl rfl Tryz.underlying40 rfl ti38 (lb rfl) rfl rfl)) <|aC rfl rfl (.one rfl) rfl (by decide) (fun hb=>(aF (d:=.slice _ _) rfl rfl (lb rfl) Tryz.underlying38 ag38 ti38 (by decide) (svcR rfl hb) rfl (nle rfl) rfl)) <|aC rfl rfl (.one rfl) rfl (by decide) (fun hb=>(aU (r:=.bool _) rfl rfl (lb rfl) cl168 (.cons (svcL rfl hb) (.cons (svcL rfl hb) .nil)) rfl (jG _ _ _ (gd_t hx4 hb)))) <|aA rfl (bT rfl rfl (lb rfl) (svB rfl) rfl rfl hx5) <|aA rfl (asB rfl rfl rfl rfl) <|aD ?_)
 refine aT ?_
 obtain rfl:=Option.some.inj h
 refine ⟨.inr rfl,(.cons (sv rfl) .nil)⟩

theorem xS (a0 : bV) (a1 : bV) (r : Bool) (h : sO a0 a1 = some r) : cF Tryz.prog 78 [.agg (v4 a0),.agg (v4 a1)] (.bool r):=by
 refine bA (rs:=[.bool r]) Tryz.func78 rfl Tryz.ntmps78 (nle rfl) rfl fun O hO=>?_
 show IWP _ _ _ _ ⟨[(0,.agg (v4 a0)),(1,.agg (v4 a1))],[]⟩ _
 unfold sO at h
 refine aE (aA rfl (bR (cs:=q19) 0 rfl rfl (lb rfl) rfl (svA q19 rfl) rfl rfl) <|aA rfl (bR (cs:=q19) 1 rfl rfl (lb rfl) rfl (svA q19 rfl) rfl rfl) <|aA rfl (aH rfl rfl (lb rfl) (sv (d:=.bool false) rfl)) <|aD ?_)
 obtain ⟨x1,hx1,h⟩:=aQ h
 obtain ⟨x2,hx2,h⟩:=bF h
 obtain ⟨x3,hx3,h⟩:=aQ h
 refine aE (aA rfl (faR 3 rfl rfl rfl Tryz.underlying42 rfl ti3 (lb rfl) rfl rfl) <|aA rfl (aF (d:=.int _ _) rfl rfl (lb rfl) Tryz.underlying3 ag3 ti3 (by decide) (svR rfl) rfl (nle rfl) rfl) <|aA rfl (faR 3 rfl rfl rfl Tryz.underlying42 rfl ti3 (lb rfl) rfl rfl) <|aA rfl (aF (d:=.int _ _) rfl rfl (lb rfl) Tryz.underlying3 ag3 ti3 (by decide) (svR rfl) rfl (nle rfl) rfl) <|aA rfl (aP rfl rfl (lb rfl) (svI rfl) (svI rfl) rfl hx1) <|aA rfl (mvB rfl rfl rfl rfl) <|aC rfl rfl (.one rfl) rfl (by decide) (fun hb=>(faR 0 rfl rfl rfl Tryz.underlying42 rfl ti40 (lb rfl) rfl rfl)) <|aC rfl rfl (.one rfl) rfl (by decide) (fun hb=>(bK (cs:=q23) rfl rfl (lb rfl) Tryz.underlying40 ag40 ti40 (by decide) (svcR rfl hb) rfl (nle rfl) rfl)) <|aC rfl rfl (.one rfl) rfl (by decide) (fun hb=>(faR 0 rfl rfl rfl Tryz.underlying42 rfl ti40 (lb rfl) rfl rfl)) <|aC rfl rfl (.one rfl) rfl (by decide) (fun hb=>(bK (cs:=q23) rfl rfl (lb rfl) Tryz.underlying40 ag40 ti40 (by decide) (svcR rfl hb) rfl (nle rfl) rfl)) <|aC rfl rfl (.one rfl) rfl (by decide) (fun hb=>(aU (r:=.bool _) rfl rfl (lb rfl) cl128 (.cons (svcA (v5 a0.Recv) rfl hb) (.cons (svcA (v5 a1.Recv) rfl hb) .nil)) rfl (wG _ _ _ (gd_t hx2 hb)))) <|aA rfl (bT rfl rfl (lb rfl) (svB rfl) rfl rfl hx3) <|aA rfl (asB rfl rfl rfl rfl) <|aD ?_)
 refine aT ?_
 obtain rfl:=Option.some.inj h
 refine ⟨.inr rfl,(.cons (sv rfl) .nil)⟩

theorem sQ (a0 : aR) (a1 : aR) (r : Bool) (h : pQ a0 a1 = some r) : cF Tryz.prog 28 [.agg (v1 a0),.agg (v1 a1)] (.bool r):=by
 refine bA (rs:=[.bool r]) Tryz.func28 rfl Tryz.ntmps28 (nle rfl) rfl fun O hO=>?_
 show IWP _ _ _ _ ⟨[(0,.agg (v1 a0)),(1,.agg (v1 a1))],[]⟩ _
 unfold pQ at h
 refine aE (aA rfl (bR (cs:=q13) 0 rfl rfl (lb rfl) rfl (svA q13 rfl) rfl rfl) <|aA rfl (bR (cs:=q13) 1 rfl rfl (lb rfl) rfl (svA q13 rfl) rfl rfl) <|aA rfl (aH rfl rfl (lb rfl) (sv (d:=.bool false) rfl)) <|aD ?_)
 refine bC ?_
 obtain ⟨x1,hx1,h⟩:=bF h
 obtain ⟨x2,hx2,h⟩:=bF h
 obtain ⟨x3,hx3,h⟩:=aQ h
 refine aE (aA rfl (faR 1 rfl rfl rfl Tryz.underlying46 rfl ti37 (lb rfl) rfl rfl) <|aA rfl (lra q15 la37 rfl rfl rfl rfl rfl (nle rfl) rfl) <|aA rfl (faR 1 rfl rfl rfl Tryz.underlying46 rfl ti37 (lb rfl) rfl rfl) <|aA rfl (lra q15 la37 rfl rfl rfl rfl rfl (nle rfl) rfl) <|aA rfl (aU (r:=.bool _) rfl rfl (lb rfl) cl77 (.cons (svA q15 rfl) (.cons (svA q15 rfl) .nil)) rfl (xK _ _ _ hx1)) <|aA rfl (dB rfl rfl (lb rfl) (svB rfl)) <|aA rfl (mvB rfl rfl rfl rfl) <|aC rfl rfl (.one rfl) rfl (by decide) (fun hb=>(faR 10 rfl rfl rfl Tryz.underlying46 rfl ti42 (lb rfl) rfl rfl)) <|aC rfl rfl (.one rfl) rfl (by decide) (fun hb=>(bK (cs:=q19) rfl rfl (lb rfl) Tryz.underlying42 ag42 ti42 (by decide) (svcR rfl hb) rfl (nle rfl) rfl)) <|aC rfl rfl (.one rfl) rfl (by decide) (fun hb=>(faR 10 rfl rfl rfl Tryz.underlying46 rfl ti42 (lb rfl) rfl rfl)) <|aC rfl rfl (.one rfl) rfl (by decide) (fun hb=>(bK (cs:=q19) rfl rfl (lb rfl) Tryz.underlying42 ag42 ti42 (by decide) (svcR rfl hb) rfl (nle rfl) rfl)) <|aC rfl rfl (.one rfl) rfl (by decide) (fun hb=>(aU (r:=.bool _) rfl rfl (lb rfl) cl78 (.cons (svcA (v4 a0.Recv) rfl hb) (.cons (svcA (v4 a1.Recv) rfl hb) .nil)) rfl (xS _ _ _ (gd_t hx2 hb)))) <|aC rfl rfl (.one rfl) rfl (by decide) (fun hb=>(dB rfl rfl (lb rfl) (svcB rfl hb))) <|aA rfl (cQ rfl rfl (lb rfl) (svB rfl) rfl rfl hx3) <|aD ?_)
 refine aV (b:=_) rfl (fun hc4=>?_) (fun hc4=>?_)
 ·
  replace h:=cD h hc4
  refine aE (aA rfl (aH rfl rfl (lb rfl) (sv (d:=.bool false) rfl)) <|aD ?_)
  refine aT ?_
  refine bI ?_
  obtain rfl:=Option.some.inj h
  refine ⟨.inr rfl,(.cons (sv rfl) .nil)⟩
 ·
  replace h:=cE h hc4
  refine aY ?_
  refine aS ?_
  obtain ⟨x5,hx5,h⟩:=aQ h
  obtain ⟨x6,hx6,h⟩:=aQ h
  obtain ⟨x7,hx7,h⟩:=aQ h
  obtain ⟨x8,hx8,h⟩:=aQ h
  obtain ⟨x9,hx9,h⟩:=aQ h
  obtain ⟨x10,hx10,h⟩:=aQ h
  obtain ⟨x11,hx11,h⟩:=aQ h
  obtain ⟨x12,hx12,h⟩:=aQ h
  obtain ⟨x13,hx13,h⟩:=aQ h
  refine aE (aA rfl (faR 0 rfl rfl rfl Tryz.underlying46 rfl ti3 (lb rfl) rfl rfl) <|aA rfl (aF (d:=.int _ _) rfl rfl (lb rfl) Tryz.underlying3 ag3 ti3 (by decide) (svR rfl) rfl (nle rfl) rfl) <|aA rfl (faR 0 rfl rfl rfl Tryz.underlying46 rfl ti3 (lb rfl) rfl rfl) <|aA rfl (aF (d:=.int _ _) rfl rfl (lb rfl) Tryz.underlying3 ag3 ti3 (by decide) (svR rfl) rfl (nle rfl) rfl) <|aA rfl (aP rfl rfl (lb rfl) (svI rfl) (svI rfl) rfl hx5) <|aA rfl (mvB rfl rfl rfl rfl) <|aC rfl rfl (.one rfl) rfl (by decide) (fun hb=>(faR 14 rfl rfl rfl Tryz.underlying46 rfl ti44 (lb rfl) rfl rfl)) <|aC rfl rfl (.one rfl) rfl (by decide) (fun hb=>(bK (cs:=q18) rfl rfl (lb rfl) Tryz.underlying44 ag44 ti44 (by decide) (svcR rfl hb) rfl (nle rfl) rfl)) <|aC rfl rfl (.one rfl) rfl (by decide) (fun hb=>(faR 14 rfl rfl rfl Tryz.underlying46 rfl ti44 (lb rfl) rfl rfl)) <|aC rfl rfl (.one rfl) rfl (by decide) (fun hb=>(bK (cs:=q18) rfl rfl (lb rfl) Tryz.underlying44 ag44 ti44 (by decide) (svcR rfl hb) rfl (nle rfl) rfl)) <|aC rfl rfl (.one rfl) rfl (by decide) (fun hb=>(aAf rfl rfl (lb rfl) Tryz.underlying44 st44.1 st44.2 (svcA (v6 a0.Out) rfl hb) (svcA (v6 a1.Out) rfl hb) (congrArg some hx6))) <|aA rfl (bT rfl rfl (lb rfl) (svB rfl) rfl rfl hx7) <|aA rfl (mvB rfl rfl rfl rfl) <|aC rfl rfl (.one rfl) rfl (by decide) (fun hb=>(faR 18 rfl rfl rfl Tryz.underlying46 rfl ti44 (lb rfl) rfl rfl)) <|aC rfl rfl (.one rfl) rfl (by decide) (fun hb=>(bK (cs:=q18) rfl rfl (lb rfl) Tryz.underlying44 ag44 ti44 (by decide) (svcR rfl hb) rfl (nle rfl) rfl)) <|aC rfl rfl (.one rfl) rfl (by decide) (fun hb=>(faR 18 rfl rfl rfl Tryz.underlying46 rfl ti44 (lb rfl) rfl rfl)) <|aC rfl rfl (.one rfl) rfl (by decide) (fun hb=>(bK (cs:=q18) rfl rfl (lb rfl) Tryz.underlying44 ag44 ti44 (by decide) (svcR rfl hb) rfl (nle rfl) rfl)) <|aC rfl rfl (.one rfl) rfl (by decide) (fun hb=>(aAf rfl rfl (lb rfl) Tryz.underlying44 st44.1 st44.2 (svcA (v6 a0.In) rfl hb) (svcA (v6 a1.In) rfl hb) (congrArg some hx8))) <|aA rfl (bT rfl rfl (lb rfl) (svB rfl) rfl rfl hx9) <|aA rfl (mvB rfl rfl rfl rfl) <|aC rfl rfl (.one rfl) rfl (by decide) (fun hb=>(faR 22 rfl rfl rfl Tryz.underlying46 rfl ti3 (lb rfl) rfl rfl)) <|aC rfl rfl (.one rfl) rfl (by decide) (fun hb=>(aF (d:=.int _ _) rfl rfl (lb rfl) Tryz.underlying3 ag3 ti3 (by decide) (svcR rfl hb) rfl (nle rfl) rfl)) <|aC rfl rfl (.one rfl) rfl (by decide) (fun hb=>(faR 22 rfl rfl rfl Tryz.underlying46 rfl ti3 (lb rfl) rfl rfl)) <|aC rfl rfl (.one rfl) rfl (by decide) (fun hb=>(aF (d:=.int _ _) rfl rfl (lb rfl) Tryz.underlying3 ag3 ti3 (by decide) (svcR rfl hb) rfl (nle rfl) rfl)) <|aC rfl rfl (.one rfl) rfl (by decide) (fun hb=>(aP rfl rfl (lb rfl) (svcI rfl hb) (svcI rfl hb) rfl hx10)) <|aA rfl (bT rfl rfl (lb rfl) (svB rfl) rfl rfl hx11) <|aA rfl (mvB rfl rfl rfl rfl) <|aC rfl rfl (.one rfl) rfl (by decide) (fun hb=>(faR 23 rfl rfl rfl Tryz.underlying46 rfl ti3 (lb rfl) rfl rfl)) <|aC rfl rfl (.one rfl) rfl (by decide) (fun hb=>(aF (d:=.int _ _) rfl rfl (lb rfl) Tryz.underlying3 ag3 ti3 (by decide) (svcR rfl hb) rfl (nle rfl) rfl)) <|aC rfl rfl (.one rfl) rfl (by decide) (fun hb=>(faR 23 rfl rfl rfl Tryz.underlying46 rfl ti3 (lb rfl) rfl rfl)) <|aC rfl rfl (.one rfl) rfl (by decide) (fun hb=>(aF (d:=.int _ _) rfl rfl (lb rfl) Tryz.underlying3 ag3 ti3 (by decide) (svcR rfl hb) rfl (nle rfl) rfl)) <|aC rfl rfl (.one rfl) rfl (by decide) (fun hb=>(aP rfl rfl (lb rfl) (svcI rfl hb) (svcI rfl hb) rfl hx12)) <|aA rfl (bT rfl rfl (lb rfl) (svB rfl) rfl rfl hx13) <|aA rfl (asB rfl rfl rfl rfl) <|aD ?_)
  refine aT ?_
  obtain rfl:=Option.some.inj h
  refine ⟨.inr rfl,(.cons (sv rfl) .nil)⟩
end Go.Proofs.YtnokcmkfkfeaiaaGreat
