/-
  A part of the proof: rules and plain facts. No condition.
-/
import Derived.Test.YtfaflcdfgaoehaaGreatProg
import Derived.KernelRfl
import Derived.Test.YtfaflcdfgaoehaaGreatIlA29D
import Derived.Test.YtfaflcdfgaoehaaGreatIlA29C2
set_option linter.all false
set_option maxRecDepth 8000
set_option maxHeartbeats 2000000
open Go Go.IL Go.Fn Go.Proofs
namespace Go.Proofs.YtfaflcdfgaoehaaGreat
theorem ti44 : TI Tryz.prog 44 (some (.agg #[.int .u8 0,.bool false,.int .i64 0,.int .i64 0,.int .i64 0,.int .i64 0,.int .i64 0,.int .i64 0,.slice none 0 0,.string ⟨#[]⟩])) 10 96:=by unfold TI; kernel_rfl
theorem ti57 : TI Tryz.prog 57 (some (.slice none 0 0)) 1 24:=by unfold TI; kernel_rfl
theorem ti59 : TI Tryz.prog 59 (some (.int .u32 0)) 1 4:=by unfold TI; kernel_rfl
theorem ti92 : TI Tryz.prog 92 (some (.agg #[.int .i64 0,.int .u32 0])) 2 16:=by unfold TI; kernel_rfl
theorem aCC : TI Tryz.prog 169 (some (.pointer none)) 1 8:=by unfold TI; kernel_rfl
theorem ag57 : gF Tryz.prog 57 = false:=by kernel_rfl
theorem ag59 : gF Tryz.prog 59 = false:=by kernel_rfl
theorem ag92 : gF Tryz.prog 92 = true:=by kernel_rfl
theorem aCg : gF Tryz.prog 169 = false:=by kernel_rfl
theorem pl92 : ∀ w,(Array.mapM (m:=Sem) (fun (f : Field)=>Functor.map (Prod.mk f.offset) (sizeOf f.type)) (fieldsOf Tryz.prog 92)).run Tryz.prog w = .ok #[(0,1),(1,1)] w:=fun w=>by kernel_rfl
theorem st165 : Tryz.prog.stoodInHeld 165 = false ∧ Tryz.prog.eqGuardType Tryz.prog.depth 165 = false:=⟨by kernel_rfl,by kernel_rfl⟩
theorem st36 : Tryz.prog.stoodInHeld 36 = false ∧ Tryz.prog.eqGuardType Tryz.prog.depth 36 = false:=⟨by kernel_rfl,by kernel_rfl⟩
theorem st52 : Tryz.prog.stoodInHeld 52 = false ∧ Tryz.prog.eqGuardType Tryz.prog.depth 52 = false:=⟨by kernel_rfl,by kernel_rfl⟩
theorem cl6 : bF Tryz.prog 6:=⟨Tryz.f6,Tryz.func6,rfl,rfl⟩
theorem cl8 : bF Tryz.prog 8:=⟨Tryz.f8,Tryz.func8,rfl,rfl⟩
theorem cl9 : bF Tryz.prog 9:=⟨Tryz.f9,Tryz.func9,rfl,rfl⟩
theorem cl10 : bF Tryz.prog 10:=⟨Tryz.f10,Tryz.func10,rfl,rfl⟩
theorem cl12 : bF Tryz.prog 12:=⟨Tryz.f12,Tryz.func12,rfl,rfl⟩
theorem cl13 : bF Tryz.prog 13:=⟨Tryz.f13,Tryz.func13,rfl,rfl⟩
theorem cl14 : bF Tryz.prog 14:=⟨Tryz.f14,Tryz.func14,rfl,rfl⟩
theorem cl17 : bF Tryz.prog 17:=⟨Tryz.f17,Tryz.func17,rfl,rfl⟩
theorem cl18 : bF Tryz.prog 18:=⟨Tryz.f18,Tryz.func18,rfl,rfl⟩
theorem cl28 : bF Tryz.prog 28:=⟨Tryz.f28,Tryz.func28,rfl,rfl⟩
theorem cl29 : bF Tryz.prog 29:=⟨Tryz.f29,Tryz.func29,rfl,rfl⟩
theorem cl30 : bF Tryz.prog 30:=⟨Tryz.f30,Tryz.func30,rfl,rfl⟩
theorem cl31 : bF Tryz.prog 31:=⟨Tryz.f31,Tryz.func31,rfl,rfl⟩
theorem cl32 : bF Tryz.prog 32:=⟨Tryz.f32,Tryz.func32,rfl,rfl⟩
theorem cl33 : bF Tryz.prog 33:=⟨Tryz.f33,Tryz.func33,rfl,rfl⟩
theorem cl34 : bF Tryz.prog 34:=⟨Tryz.f34,Tryz.func34,rfl,rfl⟩
theorem cl35 : bF Tryz.prog 35:=⟨Tryz.f35,Tryz.func35,rfl,rfl⟩
theorem cl36 : bF Tryz.prog 36:=⟨Tryz.f36,Tryz.func36,rfl,rfl⟩
theorem cl37 : bF Tryz.prog 37:=⟨Tryz.f37,Tryz.func37,rfl,rfl⟩
theorem cl42 : bF Tryz.prog 42:=⟨Tryz.f42,Tryz.func42,rfl,rfl⟩
theorem cl43 : bF Tryz.prog 43:=⟨Tryz.f43,Tryz.func43,rfl,rfl⟩
theorem cl44 : bF Tryz.prog 44:=⟨Tryz.f44,Tryz.func44,rfl,rfl⟩
theorem cl60 : bF Tryz.prog 60:=⟨Tryz.f60,Tryz.func60,rfl,rfl⟩
theorem cl61 : bF Tryz.prog 61:=⟨Tryz.f61,Tryz.func61,rfl,rfl⟩
theorem cl62 : bF Tryz.prog 62:=⟨Tryz.f62,Tryz.func62,rfl,rfl⟩
theorem cl63 : bF Tryz.prog 63:=⟨Tryz.f63,Tryz.func63,rfl,rfl⟩
theorem cl64 : bF Tryz.prog 64:=⟨Tryz.f64,Tryz.func64,rfl,rfl⟩
theorem cl65 : bF Tryz.prog 65:=⟨Tryz.f65,Tryz.func65,rfl,rfl⟩
theorem cl66 : bF Tryz.prog 66:=⟨Tryz.f66,Tryz.func66,rfl,rfl⟩
theorem cl67 : bF Tryz.prog 67:=⟨Tryz.f67,Tryz.func67,rfl,rfl⟩
theorem cl68 : bF Tryz.prog 68:=⟨Tryz.f68,Tryz.func68,rfl,rfl⟩
theorem cl75 : bF Tryz.prog 75:=⟨Tryz.f75,Tryz.func75,rfl,rfl⟩
theorem cl77 : bF Tryz.prog 77:=⟨Tryz.f77,Tryz.func77,rfl,rfl⟩
theorem cl98 : bF Tryz.prog 98:=⟨Tryz.f98,Tryz.func98,rfl,rfl⟩
theorem cl100 : bF Tryz.prog 100:=⟨Tryz.f100,Tryz.func100,rfl,rfl⟩
theorem cl101 : bF Tryz.prog 101:=⟨Tryz.f101,Tryz.func101,rfl,rfl⟩
theorem cl103 : bF Tryz.prog 103:=⟨Tryz.f103,Tryz.func103,rfl,rfl⟩
theorem cl104 : bF Tryz.prog 104:=⟨Tryz.f104,Tryz.func104,rfl,rfl⟩
theorem cl105 : bF Tryz.prog 105:=⟨Tryz.f105,Tryz.func105,rfl,rfl⟩
theorem cl106 : bF Tryz.prog 106:=⟨Tryz.f106,Tryz.func106,rfl,rfl⟩
theorem cl111 : bF Tryz.prog 111:=⟨Tryz.f111,Tryz.func111,rfl,rfl⟩
def la92:=LA.mk Tryz.underlying92 ag92 ti92 (by decide)


set_option maxRecDepth 8000 in
set_option maxHeartbeats 4000000 in
theorem kF (a0 : Int) (a1 : Int) (a2 : List aX) (r : List aX) (h : dW a0 a1 a2 = some r) : FnH Tryz.prog 103 [.osl 1000 aL.sz a2.length,.int .i64 a0,.int .i64 a1] [(1000,.blk 165 (D.flat (a2.map aL.d)))] (.osl 0 aL.sz r.length) [(0,.blk 165 (D.flat (r.map aL.d)))]:=by
 replace h : delS a2 a0 a1 = some r:=h
 obtain ⟨i,j,rfl,rfl,hij,hj,hr⟩:=delS_e h
 have hX:=aL.toEnc0.flat_len a2
 refine eU (rs:=[.osl 0 aL.sz r.length]) Tryz.func103 rfl Tryz.ntmps103 (nle rfl) fun O hO=>?_
 show IWP _ _ _ _ ⟨[(0,.osl 1000 aL.sz a2.length),(1,.int .i64 (i : Int)),(2,.int .i64 (j : Int))],[(1000,.blk 165 (D.flat (a2.map aL.d)))]⟩ _
 refine zJ 0 (id:=1000) (sz:=aL.sz) (n:=a2.length) rfl rfl hX (fun hn=>?_) (fun c hc hcm=>?_)
 ·obtain rfl:=List.length_eq_zero_iff.1 hn
  obtain rfl : j = 0:=by simpa using hj
  obtain rfl : i = 0:=by omega
  refine aC (aA rfl (aE rfl rfl (lb rfl) (sv (d:=.nils) rfl)) <| aB ?_)
  refine aC (aA rfl (aK rfl rfl (lb rfl) (sv (d:=.nils) rfl)) <| aA rfl (mvI rfl rfl rfl rfl) <| aA rfl (mvI rfl rfl rfl rfl) <| aA rfl (aK rfl rfl (lb rfl) (sv (d:=.nils) rfl)) <|aA rfl (cJ aL (l:=[]) (b:=false) rfl rfl (lb rfl) Tryz.underlying29 (svn rfl)) <|aA rfl (wX rfl rfl (lb rfl) Tryz.underlying29 gG (sv (d:=.nils) rfl) (svI rfl) (svI rfl) (svI rfl)) <| aB ?_)
  refine aV ?_
  refine aC (aA rfl (mvI rfl rfl rfl rfl) <| aA rfl (mvI rfl rfl rfl rfl) <| aA rfl (aP rfl rfl (lb rfl) (svI rfl) (svI rfl) rfl rfl) <| aB ?_)
  refine fK rfl rfl ?_
  have hr' : [] = r:=by simpa using hr
  subst hr'
  refine aC (aA rfl (aK rfl rfl (lb rfl) (sv (d:=.nils) rfl)) <| aA rfl (aE rfl rfl (lb rfl) (sv (d:=.nils) rfl)) <| aB ?_)
  refine aS ?_
  refine aZ ?_
  refine ⟨.inr rfl,(fun i=>if i = 0 then 50 else i),⟨.nil,(.cons (.nilb rfl) .nil),bX [50] rfl (by decide),(fun i hi=>by first | rfl | (show (if _ then _ else _) = _; (repeat' split) <;> omega))⟩,(.cons (svno rfl) .nil),rfl⟩
 ·refine aC (aA rfl (aE rfl rfl (lb rfl) (sv (d:=.nils) rfl)) <| aB ?_)
  refine aC (aA rfl (aK rfl rfl (lb rfl) (sv (d:=.rsl _ _ _ _ _) rfl)) <| aA rfl (mvI rfl rfl rfl rfl) <| aA rfl (mvI rfl rfl rfl rfl) <| aA rfl (aK rfl rfl (lb rfl) (sv (d:=.rsl _ _ _ _ _) rfl)) <|aA rfl (qA rfl rfl (lb rfl) Tryz.underlying29 (sv (d:=.rsl _ _ _ _ _) rfl) rfl) <|aA rfl (eC (sz:=aL.sz) (l:=(i : Int)) (h:=(j : Int)) (m:=(a2.length : Int)) rfl rfl (lb rfl) Tryz.underlying29 gG (sv (d:=.rsl _ _ _ _ _) rfl) ⟨_,(svI rfl)⟩ ⟨_,(svI rfl)⟩ ⟨_,(svI rfl)⟩ (by simp) (by omega) (by omega) (by omega) (by omega) rfl) <| aB ?_)
  refine aV ?_
  refine aC (aA rfl (mvI rfl rfl rfl rfl) <| aA rfl (mvI rfl rfl rfl rfl) <| aA rfl (aP rfl rfl (lb rfl) (svI rfl) (svI rfl) rfl rfl) <| aB ?_)
  refine aT (b:=_) rfl (fun h1=>?_) (fun h1=>?_)
  ·have h2:=of_decide_eq_true h1
   obtain rfl : i = j:=by omega
   have hr' : a2 = r:=by simpa using hr
   subst hr'
   refine aC (aA rfl (aK rfl rfl (lb rfl) (sv (d:=.rsl _ _ _ _ _) rfl)) <| aA rfl (aE rfl rfl (lb rfl) (sv (d:=.rsl _ _ _ _ _) rfl)) <| aB ?_)
   refine rC 6 (id:=1000) rfl rfl hX ?_
   refine aS ?_
   refine aZ ?_
   refine ⟨.inr rfl,(fun i=>if i = 0 then 1000 else i),⟨.nil,(.cons (EntW.lst rfl) .nil),bX [1000] rfl (by decide),(fun i hi=>by first | rfl | (show (if _ then _ else _) = _; (repeat' split) <;> omega))⟩,(.cons (sv rfl) .nil),rfl⟩
  ·have h2:=of_decide_eq_false h1
   have hlt : i < j:=by omega
   obtain ⟨J,hJ⟩ : ∃ J,J = List.replicate ((c - a2.length) * aL.sz) D.dead:=⟨_,rfl⟩
   have hXd : (D.flat ((a2.drop j).map aL.d)).length = (a2.length - j) * aL.sz:=by rw [aL.toEnc0.flat_len,List.length_drop]
   have hXt : (D.flat ((a2.take i).map aL.d)).length = i * aL.sz:=by rw [aL.toEnc0.flat_len,List.length_take,Nat.min_eq_left (by omega)]
   have hrl : r.length = i + (a2.length - j):=by rw [← hr,List.length_append,List.length_take,List.length_drop,Nat.min_eq_left (by omega)]
   have hR : D.flat (r.map aL.d) = D.flat ((a2.take i).map aL.d) ++ D.flat ((a2.drop j).map aL.d):=by rw [← hr,aL.toEnc0.flat_append]
   have hRl : (D.flat (r.map aL.d)).length = (i + (a2.length - j)) * aL.sz:=by rw [aL.toEnc0.flat_len,hrl]
   have hfitj : j * aL.sz + (a2.length - j) * aL.sz = a2.length * aL.sz:=by rw [← Nat.add_mul]; congr 1; omega
   have hfiti : (i + (a2.length - j)) * aL.sz ≤ a2.length * aL.sz:=Nat.mul_le_mul_right _ (by omega)
   rw [← hJ]
   have hD0 : (D.flat (a2.map aL.d) ++ J).length = a2.length * aL.sz + J.length:=by rw [List.length_append,hX]
   obtain ⟨es,hes⟩ : ∃ es,es = ((D.flat (a2.map aL.d) ++ J).drop (j * aL.sz)).take ((a2.length - j) * aL.sz):=⟨_,rfl⟩
   have hes' : es = D.flat ((a2.drop j).map aL.d):=by
    rw [hes,List.drop_append_of_le_length (by rw [hX]; exact Nat.mul_le_mul_right _ hj),aL.toEnc0.flat_drop,List.take_append_of_le_length (by rw [hXd]; exact Nat.le_refl _),← hXd,List.take_length]
   obtain ⟨Z,hZ⟩ : ∃ Z,eY (D.flat (a2.map aL.d) ++ J) (i * aL.sz) es = D.flat (r.map aL.d) ++ Z:=by
    refine ⟨(D.flat ((a2.drop i).map aL.d) ++ J).drop es.length,?_⟩
    rw [rR aL.toEnc0 a2 i,List.append_assoc,xW hXt,hR,hes',List.append_assoc]
   have hZl : (D.flat (r.map aL.d) ++ Z).length = a2.length * aL.sz + J.length:=by
    rw [← hZ,sG (by rw [hD0,hes',hXd,← Nat.add_mul]; omega),hD0]
   refine aU ?_
   refine aN ?_
   refine aC (aA rfl (aK rfl rfl (lb rfl) (sv (d:=.rsl _ _ _ _ _) rfl)) <| aA rfl (qA rfl rfl (lb rfl) Tryz.underlying29 (sv (d:=.rsl _ _ _ _ _) rfl) rfl) <| aA rfl (asI rfl rfl rfl rfl) <| aB ?_)
   refine dG rfl [⟨[0],[],[(20,.rsl 1000 aL.sz 0 a2.length c)],[]⟩,⟨[1],[],[(21,.int .i64 (i : Int))],[]⟩,⟨[20,21],[],[(22,.rsl 1000 aL.sz 0 i c)],[]⟩,⟨[0],[],[(23,.rsl 1000 aL.sz 0 a2.length c)],[]⟩,⟨[2],[],[(24,.int .i64 (j : Int))],[]⟩,
    ⟨[23,24],[],[(25,.rsl 1000 aL.sz (j * aL.sz) (a2.length - j) (c - j))],[]⟩,⟨[22,25],[1000],[(26,.rsl 1000 aL.sz 0 (i + (a2.length - j)) c)],[(1000,.blk 165 (D.flat (r.map aL.d) ++ Z))]⟩,⟨[26],[],[(0,.rsl 1000 aL.sz 0 (i + (a2.length - j)) c)],[]⟩] rfl ?_ (by kernel_rfl) ?_
   ·refine .cons (lop rfl rfl fun S hA=>(aK rfl rfl (lb rfl) (sv (d:=.rsl _ _ _ _ _) (agr hA rfl rfl)))) ?_
    refine .cons (lop rfl rfl fun S hA=>(aK rfl rfl (lb rfl) (svaI hA rfl rfl))) ?_
    refine .cons (lop rfl rfl fun S hA=>(eC (sz:=aL.sz) (l:=0) (h:=(i : Int)) (m:=(c : Int)) (d:=.rsl 1000 aL.sz 0 i c) rfl rfl (lb rfl) Tryz.underlying29 gG (sv (d:=.rsl _ _ _ _ _) (agr hA rfl rfl)) rfl ⟨_,(svaI hA rfl rfl)⟩ rfl (by simp) (by omega) (by omega) (by omega) (by omega) (by simp only [Int.toNat_natCast,Int.toNat_zero,Nat.zero_mul,Nat.zero_add,Nat.sub_zero]))) ?_
    refine .cons (lop rfl rfl fun S hA=>(aK rfl rfl (lb rfl) (sv (d:=.rsl _ _ _ _ _) (agr hA rfl rfl)))) ?_
    refine .cons (lop rfl rfl fun S hA=>(aK rfl rfl (lb rfl) (svaI hA rfl rfl))) ?_
    refine .cons (lop rfl rfl fun S hA=>(eC (sz:=aL.sz) (l:=(j : Int)) (h:=(a2.length : Int)) (m:=(c : Int)) (d:=.rsl 1000 aL.sz (j * aL.sz) (a2.length - j) (c - j)) rfl rfl (lb rfl) Tryz.underlying29 gG (sv (d:=.rsl _ _ _ _ _) (agr hA rfl rfl)) ⟨_,(svaI hA rfl rfl)⟩ rfl rfl (by simp) (by omega) (by omega) (by omega) (by omega) (by simp only [Int.toNat_natCast,Nat.zero_add]))) ?_
    refine .cons (lop rfl rfl fun S hA=>(aAv (sz:=aL.sz) (m:=a2.length - j) (es:=es) (ds':=D.flat (r.map aL.d) ++ Z) (d:=.rsl 1000 aL.sz 0 (i + (a2.length - j)) c) rfl rfl (lb rfl) Tryz.underlying29 gG (sv (d:=.rsl _ _ _ _ _) (agr hA rfl rfl)) (agi hA rfl rfl) (hes ▸ aBG (sv (d:=.rsl _ _ _ _ _) (agr hA rfl rfl)) (agi hA rfl rfl) (by rw [hD0,hfitj]; exact Nat.le_add_right _ _)) (by rw [hes',hXd]) (by rw [hes']; exact aL.toEnc0.one _) (by omega) (by rw [hD0]; exact Nat.le_trans hfiti (Nat.le_add_right _ _)) hZ rfl)) ?_
    refine .cons (lop rfl rfl fun S hA=>(aE rfl rfl (lb rfl) (sv (d:=.rsl _ _ _ _ _) (agr hA rfl rfl)))) ?_
    exact .nil
   ·refine aC (aA rfl (aK rfl rfl (lb rfl) (sv (d:=.rsl _ _ _ _ _) rfl)) <| aA rfl (aK rfl rfl (lb rfl) (sv (d:=.rsl _ _ _ _ _) rfl)) <| aA rfl (qA rfl rfl (lb rfl) Tryz.underlying29 (sv (d:=.rsl _ _ _ _ _) rfl) rfl) <| aA rfl (mvI rfl rfl rfl rfl) <|aA rfl (eC (sz:=aL.sz) (l:=((i + (a2.length - j) : Nat) : Int)) (h:=(a2.length : Int)) (m:=(c : Int)) (d:=.rsl 1000 aL.sz ((i + (a2.length - j)) * aL.sz) (a2.length - (i + (a2.length - j))) (c - (i + (a2.length - j)))) rfl rfl (lb rfl) Tryz.underlying29 gG (sv (d:=.rsl _ _ _ _ _) rfl) ⟨_,(svI rfl)⟩ ⟨_,(svI rfl)⟩ rfl (by simp) (by omega) (by omega) (by omega) (by omega) (by simp only [Int.toNat_natCast,Nat.zero_add])) <|aA rfl (tV (sz:=aL.sz) rfl rfl Tryz.underlying29 gG rfl rfl (sv (d:=.rsl _ _ _ _ _) rfl) rfl (by rw [hZl,← Nat.add_mul,show i + (a2.length - j) + (a2.length - (i + (a2.length - j))) = a2.length by omega]; exact Nat.le_add_right _ _) (xW hRl)) <| aB ?_)
    refine aC (aA rfl (aK rfl rfl (lb rfl) (sv (d:=.rsl _ _ _ _ _) rfl)) <| aA rfl (aE rfl rfl (lb rfl) (sv (d:=.rsl _ _ _ _ _) rfl)) <| aB ?_)
    refine rC 6 (id:=1000) rfl rfl hRl ?_
    refine aS ?_
    refine ⟨.inr rfl,(fun i=>if i = 0 then 1000 else i),⟨.nil,(.cons (EntW.lst rfl) .nil),bX [1000] rfl (by decide),(fun i hi=>by first | rfl | (show (if _ then _ else _) = _; (repeat' split) <;> omega))⟩,(.cons (sv (congrArg (D.osl _ _) hrl.symm)) .nil),rfl⟩

theorem aBR (a0 : bS) (a1 : Int) (a2 : (List UInt8)) (r : (bS × Int)) (h : qR a0 a1 a2 = some r) : cD Tryz.prog 61 [.agg (v5 a0), .int .i64 a1, .str a2] (retD [.agg (v5 r.1), .int .i64 r.2]) := by
 refine iM (rs:=[.agg (v5 r.1),.int .i64 r.2]) Tryz.func61 rfl Tryz.ntmps61 (nle rfl) rfl fun O hO=>?_
 show IWP _ _ _ _ ⟨[(0,.agg (v5 a0)),(1,.int .i64 a1),(2,.str a2)],[]⟩ _
 unfold qR at h
 refine aC (aA rfl (bR (cs:=q19) 0 rfl rfl (lb rfl) rfl (svA q19 rfl) rfl rfl) <|aA rfl (bJ (cs:=q23) (cs':=[.int .i64 0,.str [],.slice false (([] : List aX).map aL.d)]) 1 rfl rfl (lb rfl) rfl ti31 rfl rfl (.k (.k (.cons (.nils _) .nil)))) <|aA rfl (aE rfl rfl (lb rfl) (sv (d:=.int _ 0) rfl)) <|aB ?_)
 obtain ⟨x1,hx1,h⟩:=aY h
 refine aC (aA rfl (faR 2 rfl rfl rfl Tryz.underlying31 rfl ti29 (lb rfl) rfl rfl) <|aA rfl (lrL la29 rfl rfl rfl rfl rfl (nle rfl) rfl) <|aA rfl (aW (r:=.slice _ _) rfl rfl (lb rfl) cl98 (.cons (svL rfl) .nil) rfl (gN _ _ hx1)) <|aA rfl (faR 2 rfl rfl rfl Tryz.underlying31 rfl ti29 (lb rfl) rfl rfl) <|aA rfl (bQ (ds':=q19) rfl rfl ti29 (svR rfl) rfl (svL rfl) rfl rfl rfl (nle rfl) rfl) <|aB ?_)
 refine aV ?_
 obtain ⟨x2,hx2,h⟩:=aR h
 obtain ⟨x3,hx3,h⟩:=aR h
 obtain ⟨x4,hx4,h⟩:=aR h
 obtain ⟨x5,hx5,h⟩:=aY h
 obtain ⟨x6,hx6,h⟩:=aR h
 obtain ⟨x7,hx7,h⟩:=aR h
 refine aC (aA rfl (mvI rfl rfl rfl rfl) <|aA rfl (aP rfl rfl (lb rfl) (svI rfl) (sv (d:=.int _ 0) rfl) rfl hx2) <|aA rfl (mvB rfl rfl rfl rfl) <|aF rfl rfl (.one rfl) rfl (by decide) (fun hb=>(mvI rfl rfl rfl rfl)) <|aF rfl rfl (.one rfl) rfl (by decide) (fun hb=>(aP rfl rfl (lb rfl) (svcI rfl hb) (sv (d:=.int _ 1099511627776) rfl) rfl hx3)) <|aA rfl (dM rfl rfl (lb rfl) (svB rfl) rfl rfl hx4) <|aA rfl (mvB rfl rfl rfl rfl) <|aF rfl rfl (.one rfl) rfl (by decide) (fun hb=>(lra q19 la31 rfl rfl rfl rfl rfl (nle rfl) rfl)) <|aF rfl rfl (.one rfl) rfl (by decide) (fun hb=>(aW (r:=.int _ _) rfl rfl (lb rfl) cl72 (.cons (svc (d:=.agg [.int .i64 a0.Base,.str a0.Ready,.slice false (x1.map aL.d)]) rfl hb) .nil) rfl (pV _ _ (gd_t hx5 hb)))) <|aF rfl rfl (.one rfl) rfl (by decide) (fun hb=>(aP rfl rfl (lb rfl) (svcI rfl hb) (sv (d:=.int _ 0) rfl) rfl hx6)) <|aA rfl (dM rfl rfl (lb rfl) (svB rfl) rfl rfl hx7) <|aB ?_)
 refine aT (b:=_) rfl (fun hc8=>?_) (fun hc8=>?_)
 ·
  replace h:=bT h hc8
  refine aC (aA rfl (lra q19 la31 rfl rfl rfl rfl rfl (nle rfl) rfl) <|aA rfl (stA q19 q19 ti31 rfl rfl rfl rfl rfl rfl rfl rfl (nle rfl) rfl) <|aA rfl (aE rfl rfl (lb rfl) (sv (d:=.int _ 0) rfl)) <|aB ?_)
  refine aS ?_
  refine aZ ?_
  obtain rfl:=Option.some.inj h
  refine ⟨.inr rfl,_,(.cons (rva la31 rfl rfl (nle rfl) rfl) (.cons (sv rfl) .nil)),(.all _)⟩
 ·
  replace h:=bU h hc8
  refine aU ?_
  refine aN ?_
  obtain ⟨x9,hx9,h⟩:=aY h
  refine aC (aA rfl (lra q19 la31 rfl rfl rfl rfl rfl (nle rfl) rfl) <|aA rfl (aW (r:=.int _ _) rfl rfl (lb rfl) cl99 (.cons (svA q19 rfl) .nil) rfl (tF _ _ hx9)) <|aA rfl (asI rfl rfl rfl rfl) <|aB ?_)
  refine aV ?_
  obtain ⟨x10,hx10,h⟩:=aR h
  refine aC (aA rfl (mvI rfl rfl rfl rfl) <|aA rfl (mvI rfl rfl rfl rfl) <|aA rfl (aP rfl rfl (lb rfl) (svI rfl) (svI rfl) rfl hx10) <|aB ?_)
  refine aT (b:=_) rfl (fun hc11=>?_) (fun hc11=>?_)
  ·
   replace h:=bT h hc11
   refine aC (aA rfl (lra q19 la31 rfl rfl rfl rfl rfl (nle rfl) rfl) <|aA rfl (stA q19 q19 ti31 rfl rfl rfl rfl rfl rfl rfl rfl (nle rfl) rfl) <|aA rfl (aE rfl rfl (lb rfl) (sv (d:=.int _ 0) rfl)) <|aB ?_)
   refine aS ?_
   refine aZ ?_
   obtain rfl:=Option.some.inj h
   refine ⟨.inr rfl,_,(.cons (rva la31 rfl rfl (nle rfl) rfl) (.cons (sv rfl) .nil)),(.all _)⟩
  ·
   replace h:=bU h hc11
   refine aU ?_
   refine aN ?_
   obtain ⟨x12,hx12,h⟩:=aR h
   obtain ⟨x13,hx13,h⟩:=aR h
   obtain ⟨x14,hx14,h⟩:=aY h
   refine aC (aA rfl (aK rfl rfl (lb rfl) (sv (d:=.str _) rfl)) <|aA rfl (aK rfl rfl (lb rfl) (sv (d:=.str _) rfl)) <|aA rfl (dB rfl rfl (lb rfl) Tryz.underlying9 (sv (d:=.str _) rfl) rfl) <|aA rfl (mvI rfl rfl rfl rfl) <|aA rfl (mvI rfl rfl rfl rfl) <|aA rfl (bL rfl rfl (lb rfl) (svI rfl) (svI rfl) rfl hx12) <|aA rfl (mM rfl rfl (lb rfl) (svI rfl) (svI rfl) hx13) <|aA rfl (hT rfl rfl (lb rfl) Tryz.underlying9 (sv (d:=.str _) rfl) rfl ⟨_,(svI rfl)⟩ hx14) <|aA rfl (aE rfl rfl (lb rfl) (sv (d:=.str _) rfl)) <|aB ?_)
   refine gK (α:=Int × (List UInt8)) (fun z=>⟨[(1,.int .i64 z.1),(2,.str z.2),(3,.ref 0 0),(6,.ref 1 0)],[(0,.blk 31 [.int .i64 a0.Base,.str a0.Ready,.slice false (x1.map aL.d)]),(1,.blk 31 [.int .i64 0,.str [],.slice false (([] : List aX).map aL.d)])]⟩) (fun z=>jG a0 x1 z.1 z.2 = some r) ?_ ?_
   ·
    obtain ⟨x45,hx45,h⟩:=aR h
    refine aC (aA rfl (mvI rfl rfl rfl rfl) <|aA rfl (faR 0 rfl rfl rfl Tryz.underlying31 rfl ti3 (lb rfl) rfl rfl) <|aA rfl (aG (d:=.int _ _) rfl rfl (lb rfl) Tryz.underlying3 ag3 ti3 (by decide) (svR rfl) rfl (nle rfl) rfl) <|aA rfl (aP rfl rfl (lb rfl) (svI rfl) (svI rfl) rfl hx45) <|aB ?_)
    refine aT (b:=_) rfl (fun hc46=>?_) (fun hc46=>?_)
    ·
     replace h:=bT h hc46
     obtain ⟨x47,hx47,h⟩:=aR h
     obtain ⟨x48,hx48,h⟩:=aR h
     obtain ⟨x49,hx49,h⟩:=aY h
     refine aC (aA rfl (aK rfl rfl (lb rfl) (sv (d:=.str _) rfl)) <|aA rfl (aK rfl rfl (lb rfl) (sv (d:=.str _) rfl)) <|aA rfl (dB rfl rfl (lb rfl) Tryz.underlying9 (sv (d:=.str _) rfl) rfl) <|aA rfl (faR 0 rfl rfl rfl Tryz.underlying31 rfl ti3 (lb rfl) rfl rfl) <|aA rfl (aG (d:=.int _ _) rfl rfl (lb rfl) Tryz.underlying3 ag3 ti3 (by decide) (svR rfl) rfl (nle rfl) rfl) <|aA rfl (mvI rfl rfl rfl rfl) <|aA rfl (bL rfl rfl (lb rfl) (svI rfl) (svI rfl) rfl hx47) <|aA rfl (mM rfl rfl (lb rfl) (svI rfl) (svI rfl) hx48) <|aA rfl (hT rfl rfl (lb rfl) Tryz.underlying9 (sv (d:=.str _) rfl) ⟨_,(svI rfl)⟩ rfl hx49) <|aA rfl (aE rfl rfl (lb rfl) (sv (d:=.str _) rfl)) <|aB ?_)
     refine bD (aA rfl (faR 0 rfl rfl rfl Tryz.underlying31 rfl ti3 (lb rfl) rfl rfl) <|aA rfl (aG (d:=.int _ _) rfl rfl (lb rfl) Tryz.underlying3 ag3 ti3 (by decide) (svR rfl) rfl (nle rfl) rfl) <|aA rfl (asI rfl rfl rfl rfl) <|bW ?_)
     refine aN ⟨(a0.Base,x49),(fun i=>i),⟨(.sames rfl rfl),(.cons (.blk rfl rfl rfl) (.cons (.blk rfl rfl rfl) .nil)),bX [0,1] rfl (by decide),fun _ _=>rfl⟩,?_⟩
     exact h
    ·
     replace h:=bU h hc46
     refine aU ?_
     refine aN ⟨(a1,x14),(fun i=>i),⟨(.sames rfl rfl),(.cons (.blk rfl rfl rfl) (.cons (.blk rfl rfl rfl) .nil)),bX [0,1] rfl (by decide),fun _ _=>rfl⟩,?_⟩
     exact h
   ·
    rintro ⟨v20,v21⟩ h
    unfold jG at h
    refine aV ?_
    obtain ⟨x22,hx22,h⟩:=aR h
    refine aC (aA rfl (aK rfl rfl (lb rfl) (sv (d:=.str _) rfl)) <|aA rfl (jM rfl rfl (lb rfl) (sv (d:=.str _) rfl) (sv (d:=.str []) rfl) rfl hx22) <|aB ?_)
    refine aT (b:=_) rfl (fun hc23=>?_) (fun hc23=>?_)
    ·
     replace h:=bT h hc23
     refine aC (aA rfl (lra q19 la31 rfl rfl rfl rfl rfl (nle rfl) rfl) <|aA rfl (stA q19 q19 ti31 rfl rfl rfl rfl rfl rfl rfl rfl (nle rfl) rfl) <|aA rfl (aE rfl rfl (lb rfl) (sv (d:=.int _ 0) rfl)) <|aB ?_)
     refine aS ?_
     refine aZ ?_
     obtain rfl:=Option.some.inj h
     refine ⟨.inr rfl,_,(.cons (rva la31 rfl rfl (nle rfl) rfl) (.cons (sv rfl) .nil)),(.all _)⟩
    ·
     replace h:=bU h hc23
     refine aU ?_
     refine aN ?_
     obtain ⟨x24,hx24,h⟩:=aY h
     refine aC (aA rfl (lra q19 la31 rfl rfl rfl rfl rfl (nle rfl) rfl) <|aA rfl (aW (r:=.int _ _) rfl rfl (lb rfl) cl100 (.cons (svA q19 rfl) .nil) rfl (uX _ _ hx24)) <|aA rfl (asI rfl rfl rfl rfl) <|aB ?_)
     obtain ⟨x25,hx25,h⟩:=aY h
     refine aC (aA rfl (faR 2 rfl rfl rfl Tryz.underlying31 rfl ti29 (lb rfl) rfl rfl) <|aA rfl (lrL la29 rfl rfl rfl rfl rfl (nle rfl) rfl) <|aA rfl (mvI rfl rfl rfl rfl) <|aA rfl (aK rfl rfl (lb rfl) (sv (d:=.str _) rfl)) <|aA rfl (cC (cs:=q26) rfl rfl (lb rfl) Tryz.underlying165 gG pl165 rfl (.cons (svI rfl) (.cons (sv (d:=.str _) rfl) .nil)) rfl) <|aA rfl (dU (r':=.osl 2 aL.sz x25.length) (H1':=[(2,.blk 165 (D.flat (x25.map aL.d)))]) 2 [] rfl rfl (lb rfl) cl101 (.cons (svL rfl) (.cons (svA q26 rfl) .nil)) rfl rfl ⟨rfl,rfl,by decide,rfl,List.forall_mem_nil _⟩ (xK _ _ _ hx25) rfl rfl (List.forall_mem_cons.2 ⟨⟨rfl,(jT aL)⟩,List.forall_mem_nil _⟩) (by simp only [List.map_cons,List.map_nil,Ent.ren,eS,fH]; rfl)) <|aA rfl (faR 2 rfl rfl rfl Tryz.underlying31 rfl ti29 (lb rfl) rfl rfl) <|aA rfl (bQ (ds':=q21) rfl rfl ti29 (svR rfl) rfl (sv (d:=.osl _ _ _) rfl) rfl rfl rfl (nle rfl) rfl) <|aB ?_)
     refine gK (α:=Int × (List UInt8) × (List aX)) (fun z=>⟨[(3,.ref 0 0),(6,.ref 1 0),(9,.int .i64 x24)],[(0,.blk 31 [.int .i64 z.1,.str z.2.1,.osl 4 aL.sz z.2.2.length]),(1,.blk 31 [.int .i64 0,.str [],.slice false (([] : List aX).map aL.d)]),(4,.blk 165 (D.flat (z.2.2.map aL.d)))]⟩) (fun z=>lF x24 z.1 z.2.1 z.2.2 = some r) ?_ ?_
     ·
      obtain ⟨x38,hx38,h⟩:=aY h
      obtain ⟨x39,hx39,h⟩:=aY h
      refine aC (aA rfl (faR 2 rfl rfl rfl Tryz.underlying31 rfl ti29 (lb rfl) rfl rfl) <|aA rfl (aG (d:=.osl _ _ _) rfl rfl (lb rfl) Tryz.underlying29 ag29 ti29 (by decide) (svR rfl) rfl (nle rfl) rfl) <|aA rfl (jN aL.toEnc0 rfl rfl (lb rfl) Tryz.underlying29 gG (sv (d:=.osl _ _ _) rfl) rfl (sv (d:=.int _ 0) rfl) hx38) <|aA rfl (uN aL.toEnc0 (cs:=q26) rfl rfl (lb rfl) Tryz.underlying165 uB gG (by decide) (svR rfl) rfl hx39 (nle rfl) rfl) <|aA rfl (bJ (cs:=q26) (cs':=[.int .i64 0,.str []]) 3 rfl rfl (lb rfl) rfl gG rfl rfl (.all _)) <|aA rfl (stA q26 q26 gG rfl rfl rfl rfl rfl rfl rfl rfl (nle rfl) rfl) <|aB ?_)
      obtain ⟨x40,hx40,h⟩:=aR h
      refine aC (aA rfl (faR 0 rfl rfl rfl Tryz.underlying165 rfl ti3 (lb rfl) rfl rfl) <|aA rfl (aG (d:=.int _ _) rfl rfl (lb rfl) Tryz.underlying3 ag3 ti3 (by decide) (svR rfl) rfl (nle rfl) rfl) <|aA rfl (faR 0 rfl rfl rfl Tryz.underlying31 rfl ti3 (lb rfl) rfl rfl) <|aA rfl (aG (d:=.int _ _) rfl rfl (lb rfl) Tryz.underlying3 ag3 ti3 (by decide) (svR rfl) rfl (nle rfl) rfl) <|aA rfl (aP rfl rfl (lb rfl) (svI rfl) (svI rfl) rfl hx40) <|aB ?_)
      refine aT (b:=_) rfl (fun hc41=>?_) (fun hc41=>?_)
      ·
       replace h:=bT h hc41
       obtain ⟨x42,hx42,h⟩:=aY h
       obtain ⟨x43,hx43,h⟩:=aY h
       refine dG rfl [⟨[10],[3],[(77,.agg [.int .i64 x39.At,.str x39.Data])],[]⟩,
        ⟨[77],[],[(78,.int .i64 x42)],[]⟩,
        ⟨[3],[],[(79,.ref 0 1)],[]⟩,
        ⟨[79],[0],[(80,.str a0.Ready)],[]⟩,
        ⟨[10],[],[(81,.ref 3 1)],[]⟩,
        ⟨[81],[3],[(82,.str x39.Data)],[]⟩,
        ⟨[80,82],[],[(83,.str x43)],[]⟩,
        ⟨[3],[],[(84,.ref 0 0)],[]⟩,
        ⟨[78,84],[0],[],[(0,.blk 31 [.int .i64 x42,.str a0.Ready,.osl 2 aL.sz x25.length])]⟩,
        ⟨[3],[],[(85,.ref 0 1)],[]⟩,
        ⟨[83,85],[0],[],[(0,.blk 31 [.int .i64 x42,.str x43,.osl 2 aL.sz x25.length])]⟩] rfl ?_ (by kernel_rfl) ?_
       ·refine .cons (lop rfl rfl fun S hA=>(cA (cs:=q26) rfl rfl (lb rfl) Tryz.underlying165 uB gG (by decide) (svaR hA rfl rfl) (agi hA rfl rfl) (nle rfl) rfl)) ?_
        refine .cons (lop rfl rfl fun S hA=>(aW (r:=.int _ _) rfl rfl (lb rfl) aCe (.cons (svaA q26 hA rfl rfl) .nil) rfl (iD _ _ hx42))) ?_
        refine .cons (lop rfl rfl fun S hA=>(aO rfl rfl (lb rfl) Tryz.underlying31 rfl ti9 (by decide) (svaR hA rfl rfl) (off':=1) rfl)) ?_
        refine .cons (lop rfl rfl fun S hA=>(aG (d:=.str _) rfl rfl (lb rfl) Tryz.underlying9 ag9 ti9 (by decide) (svaR hA rfl rfl) (agi hA rfl rfl) (nle rfl) rfl)) ?_
        refine .cons (lop rfl rfl fun S hA=>(aO rfl rfl (lb rfl) Tryz.underlying165 rfl ti9 (by decide) (svaR hA rfl rfl) (off':=1) rfl)) ?_
        refine .cons (lop rfl rfl fun S hA=>(aG (d:=.str _) rfl rfl (lb rfl) Tryz.underlying9 ag9 ti9 (by decide) (svaR hA rfl rfl) (agi hA rfl rfl) (nle rfl) rfl)) ?_
        refine .cons (lop rfl rfl fun S hA=>(nI rfl rfl (lb rfl) (sv (d:=.str _) (agr hA rfl rfl)) (sv (d:=.str _) (agr hA rfl rfl)) hx43)) ?_
        refine .cons (lop rfl rfl fun S hA=>(aO rfl rfl (lb rfl) Tryz.underlying31 rfl ti3 (by decide) (svaR hA rfl rfl) (off':=0) rfl)) ?_
        refine .cons (lop rfl rfl fun S hA=>(bQ (ds':=q21) rfl rfl ti3 (svaR hA rfl rfl) (agi hA rfl rfl) (svaI hA rfl rfl) rfl rfl rfl (nle rfl) rfl)) ?_
        refine .cons (lop rfl rfl fun S hA=>(aO rfl rfl (lb rfl) Tryz.underlying31 rfl ti9 (by decide) (svaR hA rfl rfl) (off':=1) rfl)) ?_
        refine .cons (lop rfl rfl fun S hA=>(bQ (ds':=q21) rfl rfl ti9 (svaR hA rfl rfl) (agi hA rfl rfl) (sv (d:=.str _) (agr hA rfl rfl)) rfl rfl rfl (nle rfl) rfl)) ?_
        exact .nil
       obtain ⟨x44,hx44,h⟩:=aY h
       refine bD (aA rfl (faR 2 rfl rfl rfl Tryz.underlying31 rfl ti29 (lb rfl) rfl rfl) <|aA rfl (aG (d:=.osl _ _ _) rfl rfl (lb rfl) Tryz.underlying29 ag29 ti29 (by decide) (svR rfl) rfl (nle rfl) rfl) <|aA rfl (dU (r':=.osl 4 aL.sz x44.length) (H1':=[(4,.blk 165 (D.flat (x44.map aL.d)))]) 4 [2] rfl rfl (lb rfl) cl103 (.cons (sv (d:=.osl _ _ _) rfl) (.cons (sv (d:=.int _ 0) rfl) (.cons (sv (d:=.int _ 1) rfl) .nil))) rfl rfl ⟨rfl,rfl,by decide,rfl,List.forall_mem_cons.2 ⟨⟨rfl,rfl,(aBd aL rfl),(jT aL)⟩,List.forall_mem_nil _⟩⟩ (kF _ _ _ _ hx44) rfl rfl (List.forall_mem_cons.2 ⟨⟨rfl,(jT aL)⟩,List.forall_mem_nil _⟩) (by simp only [List.map_cons,List.map_nil,Ent.ren,eS,fH]; rfl)) <|aA rfl (faR 2 rfl rfl rfl Tryz.underlying31 rfl ti29 (lb rfl) rfl rfl) <|aA rfl (bQ (ds':=q21) rfl rfl ti29 (svR rfl) rfl (sv (d:=.osl _ _ _) rfl) rfl rfl rfl (nle rfl) rfl) <|bW ?_)
       refine aN ⟨(x42,x43,x44),(fun i=>i),⟨(.sames rfl rfl),(.cons (.blk rfl rfl rfl) (.cons (.blk rfl rfl rfl) (.cons (EntW.lst rfl) .nil))),bX [0,1,4] rfl (by decide),fun _ _=>rfl⟩,?_⟩
       exact h
      ·
       replace h:=bU h hc41
       refine aU ?_
       refine aN ⟨(a0.Base,a0.Ready,x25),(fun i=>if i = 4 then 2 else i),⟨(.sames rfl rfl),(.cons (.blk rfl rfl rfl) (.cons (.blk rfl rfl rfl) (.cons (EntW.lst rfl) .nil))),bX [0,1,2] rfl (by decide),(fun i hi=>by first | rfl | (show (if _ then _ else _) = _; (repeat' split) <;> omega))⟩,?_⟩
       exact h
     ·
      rintro ⟨v33,v34,v35⟩ h
      unfold lF at h
      obtain ⟨x36,hx36,h⟩:=aY h
      obtain ⟨x37,hx37,h⟩:=aR h
      refine dG rfl [⟨[3],[0],[(90,.agg [.int .i64 v33,.str v34,.osl 4 aL.sz v35.length])],[]⟩,
       ⟨[3],[0],[(91,.agg [.int .i64 v33,.str v34,.osl 4 aL.sz v35.length])],[]⟩,
       ⟨[91],[4],[(92,.int .i64 x36)],[]⟩,
       ⟨[9],[],[(93,.int .i64 x24)],[]⟩,
       ⟨[92,93],[],[(94,.int .i64 x37)],[]⟩,
       ⟨[6,90],[1],[],[(1,.blk 31 [.int .i64 v33,.str v34,.osl 4 aL.sz v35.length])]⟩,
       ⟨[94],[],[(7,.int .i64 x37)],[]⟩] rfl ?_ (by kernel_rfl) ?_
      ·refine .cons (lop rfl rfl fun S hA=>(cA (cs:=q21) rfl rfl (lb rfl) Tryz.underlying31 ag31 ti31 (by decide) (svaR hA rfl rfl) (agi hA rfl rfl) (nle rfl) rfl)) ?_
       refine .cons (lop rfl rfl fun S hA=>(cA (cs:=q21) rfl rfl (lb rfl) Tryz.underlying31 ag31 ti31 (by decide) (svaR hA rfl rfl) (agi hA rfl rfl) (nle rfl) rfl)) ?_
       refine .cons (lop rfl rfl fun S hA=>(pD (r:=.int .i64 x36) rfl rfl (lb rfl) cl100 (.cons (svaA q21 hA rfl rfl) .nil) (.cons (.agg (.k (.k (.cons (FDT aL (agi hA rfl rfl) rfl) .nil)))) .nil) rfl rfl (uX _ _ hx36))) ?_
       refine .cons (lop rfl rfl fun S hA=>(aK rfl rfl (lb rfl) (svaI hA rfl rfl))) ?_
       refine .cons (lop rfl rfl fun S hA=>(bL rfl rfl (lb rfl) (svaI hA rfl rfl) (svaI hA rfl rfl) rfl hx37)) ?_
       refine .cons (lop rfl rfl fun S hA=>(bQ (ds':=q21) rfl rfl ti31 (svaR hA rfl rfl) (agi hA rfl rfl) (svaA q21 hA rfl rfl) rfl rfl rfl (nle rfl) rfl)) ?_
       refine .cons (lop rfl rfl fun S hA=>(aE rfl rfl (lb rfl) (svaI hA rfl rfl))) ?_
       exact .nil
      refine aS ?_
      obtain rfl:=Option.some.inj h
      refine ⟨.inr rfl,_,(.cons (rva la31 rfl rfl (nle rfl) rfl) (.cons (sv rfl) .nil)),(.cons (.agg (.k (.k (.cons (FDT aL rfl rfl) .nil)))) (.all _))⟩

theorem aCP (a0 : cI) (a1 : Int) (a2 : (List UInt8)) (a3 : Bool) (r : (cI × Int × Int)) (h : sZ a0 a1 a2 a3 = some r) : cD Tryz.prog 28 [.agg (v4 a0),.int .i64 a1,.str a2,.bool a3] (retD [.agg (v4 r.1),.int .i64 r.2.1,.int .u32 r.2.2]):=by
 refine bA (rs:=[.agg (v4 r.1),.int .i64 r.2.1,.int .u32 r.2.2]) Tryz.func28 rfl Tryz.ntmps28 (nle rfl) rfl fun O hO=>?_
 show IWP _ _ _ _ ⟨[(0,.agg (v4 a0)),(1,.int .i64 a1),(2,.str a2),(3,.bool a3)],[]⟩ _
 unfold sZ at h
 refine aC (aA rfl (bR (cs:=q16) 0 rfl rfl (lb rfl) rfl (svA q16 rfl) rfl rfl) <|aA rfl (bJ (cs:=q18) (cs':=(w40 0 [] ([] : List aX) 0)) 1 rfl rfl (lb rfl) rfl ti33 rfl rfl (.k (.k (.cons (.nils _) (.all _))))) <|aA rfl (aE rfl rfl (lb rfl) (sv (d:=.int _ 0) rfl)) <|aA rfl (aE rfl rfl (lb rfl) (sv (d:=.int _ 0) rfl)) <|aB ?_)
 refine aV ?_
 obtain ⟨x1,hx1,h⟩:=aR h
 obtain ⟨x2,hx2,h⟩:=aR h
 obtain ⟨x3,hx3,h⟩:=aR h
 obtain ⟨x4,hx4,h⟩:=aR h
 obtain ⟨x5,hx5,h⟩:=aY h
 obtain ⟨x6,hx6,h⟩:=aR h
 obtain ⟨x7,hx7,h⟩:=aR h
 refine aC (aA rfl (mvI rfl rfl rfl rfl) <|aA rfl (aP rfl rfl (lb rfl) (svI rfl) (sv (d:=.int _ 0) rfl) rfl hx1) <|aA rfl (mvB rfl rfl rfl rfl) <|aF rfl rfl (.one rfl) rfl (by decide) (fun hb=>(mvI rfl rfl rfl rfl)) <|aF rfl rfl (.one rfl) rfl (by decide) (fun hb=>(aK rfl rfl (lb rfl) (sv (d:=.str _) rfl))) <|aF rfl rfl (.one rfl) rfl (by decide) (fun hb=>(dB rfl rfl (lb rfl) Tryz.underlying9 (svc (d:=.str _) rfl hb) rfl)) <|aF rfl rfl (.one rfl) rfl (by decide) (fun hb=>(bL rfl rfl (lb rfl) (sv (d:=.int _ 1099511627776) rfl) (svcI rfl hb) rfl hx2)) <|aF rfl rfl (.one rfl) rfl (by decide) (fun hb=>(aP rfl rfl (lb rfl) (svcI rfl hb) (svcI rfl hb) rfl hx3)) <|aA rfl (dM rfl rfl (lb rfl) (svB rfl) rfl rfl hx4) <|aA rfl (mvB rfl rfl rfl rfl) <|aF rfl rfl (.one rfl) rfl (by decide) (fun hb=>(lra q16 la33 rfl rfl rfl rfl rfl (nle rfl) rfl)) <|aF rfl rfl (.one rfl) rfl (by decide) (fun hb=>(aW (r:=.int _ _) rfl rfl (lb rfl) cl40 (.cons (svcA (v4 a0) rfl hb) .nil) rfl (qX _ _ (gd_t hx5 hb)))) <|aF rfl rfl (.one rfl) rfl (by decide) (fun hb=>(aP rfl rfl (lb rfl) (svcI rfl hb) (sv (d:=.int _ 0) rfl) rfl hx6)) <|aA rfl (dM rfl rfl (lb rfl) (svB rfl) rfl rfl hx7) <|aB ?_)
 refine aT (b:=_) rfl (fun hc8=>?_) (fun hc8=>?_)
 ·
  replace h:=bT h hc8
  refine aC (aA rfl (lra q16 la33 rfl rfl rfl rfl rfl (nle rfl) rfl) <|aA rfl (stA q16 q16 ti33 rfl rfl rfl rfl rfl rfl rfl rfl (nle rfl) rfl) <|aA rfl (aE rfl rfl (lb rfl) (sv (d:=.int _ 0) rfl)) <|aA rfl (aE rfl rfl (lb rfl) (sv (d:=.int _ 2) rfl)) <|aB ?_)
  refine aS ?_
  refine aZ ?_
  obtain rfl:=Option.some.inj h
  refine ⟨.inr rfl,(.cons (rva la33 rfl rfl (nle rfl) rfl) (.cons (sv rfl) (.cons (sv rfl) .nil)))⟩
 ·
  replace h:=bU h hc8
  refine aU ?_
  refine aN ?_
  obtain ⟨x9,hx9,h⟩:=aR h
  refine aC (aA rfl (mvI rfl rfl rfl rfl) <|aA rfl (aK rfl rfl (lb rfl) (sv (d:=.str _) rfl)) <|aA rfl (dB rfl rfl (lb rfl) Tryz.underlying9 (sv (d:=.str _) rfl) rfl) <|aA rfl (bL rfl rfl (lb rfl) (svI rfl) (svI rfl) rfl hx9) <|aA rfl (asI rfl rfl rfl rfl) <|aB ?_)
  refine aV ?_
  obtain ⟨x10,hx10,h⟩:=aY h
  obtain ⟨x11,hx11,h⟩:=aY h
  refine aC (aA rfl (lra q16 la33 rfl rfl rfl rfl rfl (nle rfl) rfl) <|aA rfl (aW (r:=.agg q16) rfl rfl (lb rfl) cl59 (.cons (svA q16 rfl) .nil) rfl (sO _ _ hx10)) <|aA rfl (mvI rfl rfl rfl rfl) <|aA rfl (mvB rfl rfl rfl rfl) <|aA rfl (aW (r:=.bool _) rfl rfl (lb rfl) cl60 (.cons (svA q16 rfl) (.cons (svI rfl) (.cons (svB rfl) .nil))) rfl (rW _ _ _ _ hx11)) <|aB ?_)
  refine aT (b:=_) rfl (fun hc12=>?_) (fun hc12=>?_)
  ·
   replace h:=bT h hc12
   refine aC (aA rfl (lra q16 la33 rfl rfl rfl rfl rfl (nle rfl) rfl) <|aA rfl (stA q16 q16 ti33 rfl rfl rfl rfl rfl rfl rfl rfl (nle rfl) rfl) <|aA rfl (aE rfl rfl (lb rfl) (sv (d:=.int _ 0) rfl)) <|aA rfl (aE rfl rfl (lb rfl) (sv (d:=.int _ 5) rfl)) <|aB ?_)
   refine aS ?_
   refine aZ ?_
   obtain rfl:=Option.some.inj h
   refine ⟨.inr rfl,(.cons (rva la33 rfl rfl (nle rfl) rfl) (.cons (sv rfl) (.cons (sv rfl) .nil)))⟩
  ·
   replace h:=bU h hc12
   refine aU ?_
   refine aN ?_
   obtain ⟨x13,hx13,h⟩:=aY h
   refine aC (aA rfl (faR 0 rfl rfl rfl Tryz.underlying33 rfl ti31 (lb rfl) rfl rfl) <|aA rfl (lra q19 la31 rfl rfl rfl rfl rfl (nle rfl) rfl) <|aA rfl (mvI rfl rfl rfl rfl) <|aA rfl (aK rfl rfl (lb rfl) (sv (d:=.str _) rfl)) <|aA rfl (aW (r:=.tuple [.agg q19,.int _ _]) rfl rfl (lb rfl) cl61 (.cons (svA q19 rfl) (.cons (svI rfl) (.cons (sv (d:=.str _) rfl) .nil))) rfl (aBR _ _ _ _ hx13)) <|aA rfl (aK rfl rfl (lb rfl) (sv (d:=.tuple [.agg q19,.int _ _]) rfl)) <|aA rfl (bE (d:=.agg q19) rfl rfl (lb rfl) (sv (d:=.tuple [.agg q19,.int _ _]) rfl) rfl) <|aA rfl (bE (d:=.int _ _) rfl rfl (lb rfl) (sv (d:=.tuple [.agg q19,.int _ _]) rfl) rfl) <|aA rfl (bJ (cs:=q23) (cs':=[.int .i64 0,.str [],.slice false (([] : List aX).map aL.d)]) 2 rfl rfl (lb rfl) rfl ti31 rfl rfl (.k (.k (.cons (.nils _) .nil)))) <|aA rfl (stA q19 q19 ti31 rfl rfl rfl rfl rfl rfl rfl rfl (nle rfl) rfl) <|aA rfl (asI rfl rfl rfl rfl) <|aB ?_)
   refine aC (aA rfl (lra q19 la31 rfl rfl rfl rfl rfl (nle rfl) rfl) <|aA rfl (faR 0 rfl rfl rfl Tryz.underlying33 rfl ti31 (lb rfl) rfl rfl) <|aA rfl (stA q19 q16 ti31 rfl rfl rfl rfl rfl rfl rfl rfl (nle rfl) rfl) <|aB ?_)
   refine gK (α:=Int) (fun z=>⟨[(4,.ref 0 0),(8,.ref 1 0),(13,.int .i64 x13.2)],[(0,.blk 33 (w40 x13.1.Base x13.1.Ready x13.1.Parts z)),(1,.blk 33 (w40 0 [] ([] : List aX) 0))]⟩) (fun z=>pT x13 z = some r) ?_ ?_
   ·
    refine aC (aA rfl (mvB rfl rfl rfl rfl) <|aB ?_)
    refine aT (b:=_) rfl (fun hc16=>?_) (fun hc16=>?_)
    ·
     replace h:=bT h hc16
     refine bD (aA rfl (mvI rfl rfl rfl rfl) <|aA rfl (faR 3 rfl rfl rfl Tryz.underlying33 rfl ti3 (lb rfl) rfl rfl) <|aA rfl (bQ (ds':=q16) rfl rfl ti3 (svR rfl) rfl (svI rfl) rfl rfl rfl (nle rfl) rfl) <|bW ?_)
     refine aN ⟨x9,(fun i=>i),⟨(.sames rfl rfl),(.cons (.blk rfl rfl rfl) (.cons (.blk rfl rfl rfl) .nil)),bX [0,1] rfl (by decide),fun _ _=>rfl⟩,?_⟩
     exact h
    ·
     replace h:=bU h hc16
     refine aU ?_
     refine aN ⟨a0.End,(fun i=>i),⟨(.sames rfl rfl),(.cons (.blk rfl rfl rfl) (.cons (.blk rfl rfl rfl) .nil)),bX [0,1] rfl (by decide),fun _ _=>rfl⟩,?_⟩
     exact h
   ·
    rintro v15 h
    unfold pT at h
    refine aC (aA rfl (lra q16 la33 rfl rfl rfl rfl rfl (nle rfl) rfl) <|aA rfl (mvI rfl rfl rfl rfl) <|aA rfl (stA q16 q16 ti33 rfl rfl rfl rfl rfl rfl rfl rfl (nle rfl) rfl) <|aA rfl (asI rfl rfl rfl rfl) <|aA rfl (aE rfl rfl (lb rfl) (sv (d:=.int _ 0) rfl)) <|aB ?_)
    refine aS ?_
    obtain rfl:=Option.some.inj h
    refine ⟨.inr rfl,(.cons (rva la33 rfl rfl (nle rfl) rfl) (.cons (sv rfl) (.cons (sv rfl) .nil)))⟩

theorem aAd (a0 : bS) (a1 : Int) (r : (bS × (List UInt8))) (h : oY a0 a1 = some r) : cD Tryz.prog 62 [.agg (v5 a0),.int .i64 a1] (retD [.agg (v5 r.1),.str r.2]):=by
 refine bA (rs:=[.agg (v5 r.1),.str r.2]) Tryz.func62 rfl Tryz.ntmps62 (nle rfl) rfl fun O hO=>?_
 show IWP _ _ _ _ ⟨[(0,.agg (v5 a0)),(1,.int .i64 a1)],[]⟩ _
 unfold oY at h
 refine aC (aA rfl (bR (cs:=q19) 0 rfl rfl (lb rfl) rfl (svA q19 rfl) rfl rfl) <|aA rfl (bJ (cs:=q23) (cs':=[.int .i64 0,.str [],.slice false (([] : List aX).map aL.d)]) 1 rfl rfl (lb rfl) rfl ti31 rfl rfl (.k (.k (.cons (.nils _) .nil)))) <|aA rfl (aE rfl rfl (lb rfl) (sv (d:=.str []) rfl)) <|aB ?_)
 obtain ⟨x1,hx1,h⟩:=aY h
 refine aC (aA rfl (faR 2 rfl rfl rfl Tryz.underlying31 rfl ti29 (lb rfl) rfl rfl) <|aA rfl (lrL la29 rfl rfl rfl rfl rfl (nle rfl) rfl) <|aA rfl (aW (r:=.slice _ _) rfl rfl (lb rfl) cl98 (.cons (svL rfl) .nil) rfl (gN _ _ hx1)) <|aA rfl (faR 2 rfl rfl rfl Tryz.underlying31 rfl ti29 (lb rfl) rfl rfl) <|aA rfl (bQ (ds':=q19) rfl rfl ti29 (svR rfl) rfl (svL rfl) rfl rfl rfl (nle rfl) rfl) <|aB ?_)
 refine aV ?_
 obtain ⟨x2,hx2,h⟩:=aR h
 obtain ⟨x3,hx3,h⟩:=aY h
 obtain ⟨x4,hx4,h⟩:=aR h
 obtain ⟨x5,hx5,h⟩:=aR h
 refine aC (aA rfl (mvI rfl rfl rfl rfl) <|aA rfl (aP rfl rfl (lb rfl) (svI rfl) (sv (d:=.int _ 1) rfl) rfl hx2) <|aA rfl (mvB rfl rfl rfl rfl) <|aF rfl rfl (.one rfl) rfl (by decide) (fun hb=>(lra q19 la31 rfl rfl rfl rfl rfl (nle rfl) rfl)) <|aF rfl rfl (.one rfl) rfl (by decide) (fun hb=>(aW (r:=.int _ _) rfl rfl (lb rfl) cl72 (.cons (svc (d:=.agg [.int .i64 a0.Base,.str a0.Ready,.slice false (x1.map aL.d)]) rfl hb) .nil) rfl (pV _ _ (gd_t hx3 hb)))) <|aF rfl rfl (.one rfl) rfl (by decide) (fun hb=>(aP rfl rfl (lb rfl) (svcI rfl hb) (sv (d:=.int _ 0) rfl) rfl hx4)) <|aA rfl (dM rfl rfl (lb rfl) (svB rfl) rfl rfl hx5) <|aB ?_)
 refine aT (b:=_) rfl (fun hc6=>?_) (fun hc6=>?_)
 ·
  replace h:=bT h hc6
  refine aC (aA rfl (lra q19 la31 rfl rfl rfl rfl rfl (nle rfl) rfl) <|aA rfl (stA q19 q19 ti31 rfl rfl rfl rfl rfl rfl rfl rfl (nle rfl) rfl) <|aA rfl (aE rfl rfl (lb rfl) (sv (d:=.str []) rfl)) <|aB ?_)
  refine aS ?_
  refine aZ ?_
  obtain rfl:=Option.some.inj h
  refine ⟨.inr rfl,(.cons (rva la31 rfl rfl (nle rfl) rfl) (.cons (sv rfl) .nil))⟩
 ·
  replace h:=bU h hc6
  refine aU ?_
  refine aN ?_
  obtain ⟨x7,hx7,h⟩:=aR h
  refine aC (aA rfl (mvI rfl rfl rfl rfl) <|aA rfl (faR 1 rfl rfl rfl Tryz.underlying31 rfl ti9 (lb rfl) rfl rfl) <|aA rfl (aG (d:=.str _) rfl rfl (lb rfl) Tryz.underlying9 ag9 ti9 (by decide) (svR rfl) rfl (nle rfl) rfl) <|aA rfl (dB rfl rfl (lb rfl) Tryz.underlying9 (sv (d:=.str _) rfl) rfl) <|aA rfl (mM rfl rfl (lb rfl) (svI rfl) (svI rfl) hx7) <|aA rfl (asI rfl rfl rfl rfl) <|aB ?_)
  obtain ⟨x8,hx8,h⟩:=aY h
  refine aC (aA rfl (faR 1 rfl rfl rfl Tryz.underlying31 rfl ti9 (lb rfl) rfl rfl) <|aA rfl (aG (d:=.str _) rfl rfl (lb rfl) Tryz.underlying9 ag9 ti9 (by decide) (svR rfl) rfl (nle rfl) rfl) <|aA rfl (mvI rfl rfl rfl rfl) <|aA rfl (hT rfl rfl (lb rfl) Tryz.underlying9 (sv (d:=.str _) rfl) rfl ⟨_,(svI rfl)⟩ hx8) <|aA rfl (aE rfl rfl (lb rfl) (sv (d:=.str _) rfl)) <|aB ?_)
  obtain ⟨x9,hx9,h⟩:=aY h
  refine aC (aA rfl (faR 1 rfl rfl rfl Tryz.underlying31 rfl ti9 (lb rfl) rfl rfl) <|aA rfl (aG (d:=.str _) rfl rfl (lb rfl) Tryz.underlying9 ag9 ti9 (by decide) (svR rfl) rfl (nle rfl) rfl) <|aA rfl (mvI rfl rfl rfl rfl) <|aA rfl (hT rfl rfl (lb rfl) Tryz.underlying9 (sv (d:=.str _) rfl) ⟨_,(svI rfl)⟩ rfl hx9) <|aA rfl (faR 1 rfl rfl rfl Tryz.underlying31 rfl ti9 (lb rfl) rfl rfl) <|aA rfl (bQ (ds':=q19) rfl rfl ti9 (svR rfl) rfl (sv (d:=.str _) rfl) rfl rfl rfl (nle rfl) rfl) <|aB ?_)
  refine aC (aA rfl (lra q19 la31 rfl rfl rfl rfl rfl (nle rfl) rfl) <|aA rfl (aK rfl rfl (lb rfl) (sv (d:=.str _) rfl)) <|aA rfl (stA q19 q19 ti31 rfl rfl rfl rfl rfl rfl rfl rfl (nle rfl) rfl) <|aA rfl (aE rfl rfl (lb rfl) (sv (d:=.str _) rfl)) <|aB ?_)
  refine aS ?_
  obtain rfl:=Option.some.inj h
  refine ⟨.inr rfl,(.cons (rva la31 rfl rfl (nle rfl) rfl) (.cons (sv rfl) .nil))⟩

theorem aAe (a0 : cI) (r : Bool) (h : rO a0 = some r) : cD Tryz.prog 104 [.agg (v4 a0)] (.bool r):=by
 refine bA (rs:=[.bool r]) Tryz.func104 rfl Tryz.ntmps104 (nle rfl) rfl fun O hO=>?_
 show IWP _ _ _ _ ⟨[(0,.agg (v4 a0))],[]⟩ _
 unfold rO at h
 refine aC (aA rfl (bR (cs:=q16) 0 rfl rfl (lb rfl) rfl (svA q16 rfl) rfl rfl) <|aA rfl (aE rfl rfl (lb rfl) (sv (d:=.bool false) rfl)) <|aB ?_)
 obtain ⟨x1,hx1,h⟩:=aY h
 refine aC (aA rfl (lra q16 la33 rfl rfl rfl rfl rfl (nle rfl) rfl) <|aA rfl (aW (r:=.agg q16) rfl rfl (lb rfl) cl59 (.cons (svA q16 rfl) .nil) rfl (sO _ _ hx1)) <|aA rfl (bJ (cs:=q18) (cs':=(w40 0 [] ([] : List aX) 0)) 1 rfl rfl (lb rfl) rfl aCD rfl rfl (.k (.k (.cons (.nils _) (.all _))))) <|aA rfl (stA q16 q16 aCD rfl rfl rfl rfl rfl rfl rfl rfl (nle rfl) rfl) <|aB ?_)
 obtain ⟨x2,hx2,h⟩:=aY h
 obtain ⟨x3,hx3,h⟩:=aR h
 obtain ⟨x4,hx4,h⟩:=aR h
 obtain ⟨x5,hx5,h⟩:=aY h
 obtain ⟨x6,hx6,h⟩:=aR h
 obtain ⟨x7,hx7,h⟩:=aR h
 refine aC (aA rfl (lra q16 aEI rfl rfl rfl rfl rfl (nle rfl) rfl) <|aA rfl (aW (r:=.bool _) rfl rfl (lb rfl) cl96 (.cons (svA q16 rfl) .nil) rfl (nQ _ _ hx2)) <|aA rfl (mvB rfl rfl rfl rfl) <|aF rfl rfl (.one rfl) rfl (by decide) (fun hb=>(faR 0 rfl rfl rfl Tryz.underlying121 rfl ti31 (lb rfl) rfl rfl)) <|aF rfl rfl (.one rfl) rfl (by decide) (fun hb=>(aO rfl rfl (lb rfl) Tryz.underlying31 rfl ti3 (by decide) (svcR rfl hb) (off':=0) rfl)) <|aF rfl rfl (.one rfl) rfl (by decide) (fun hb=>(aG (d:=.int _ _) rfl rfl (lb rfl) Tryz.underlying3 ag3 ti3 (by decide) (svcR rfl hb) rfl (nle rfl) rfl)) <|aF rfl rfl (.one rfl) rfl (by decide) (fun hb=>(faR 3 rfl rfl rfl Tryz.underlying121 rfl ti3 (lb rfl) rfl rfl)) <|aF rfl rfl (.one rfl) rfl (by decide) (fun hb=>(aG (d:=.int _ _) rfl rfl (lb rfl) Tryz.underlying3 ag3 ti3 (by decide) (svcR rfl hb) rfl (nle rfl) rfl)) <|aF rfl rfl (.one rfl) rfl (by decide) (fun hb=>(aP rfl rfl (lb rfl) (svcI rfl hb) (svcI rfl hb) rfl hx3)) <|aA rfl (bO rfl rfl (lb rfl) (svB rfl) rfl rfl hx4) <|aA rfl (mvB rfl rfl rfl rfl) <|aF rfl rfl (.one rfl) rfl (by decide) (fun hb=>(lra q16 la33 rfl rfl rfl rfl rfl (nle rfl) rfl)) <|aF rfl rfl (.one rfl) rfl (by decide) (fun hb=>(aW (r:=.int _ _) rfl rfl (lb rfl) cl40 (.cons (svcA (v4 a0) rfl hb) .nil) rfl (qX _ _ (gd_t hx5 hb)))) <|aF rfl rfl (.one rfl) rfl (by decide) (fun hb=>(aP rfl rfl (lb rfl) (svcI rfl hb) (sv (d:=.int _ 0) rfl) rfl hx6)) <|aA rfl (bO rfl rfl (lb rfl) (svB rfl) rfl rfl hx7) <|aA rfl (asB rfl rfl rfl rfl) <|aB ?_)
 refine aS ?_
 obtain rfl:=Option.some.inj h
 refine ⟨.inr rfl,(.cons (sv rfl) .nil)⟩

theorem aAf (a0 : cI) (r : Bool) (h : pA a0 = some r) : cD Tryz.prog 63 [.agg (v4 a0)] (.bool r):=by
 refine bA (rs:=[.bool r]) Tryz.func63 rfl Tryz.ntmps63 (nle rfl) rfl fun O hO=>?_
 show IWP _ _ _ _ ⟨[(0,.agg (v4 a0))],[]⟩ _
 unfold pA at h
 refine aC (aA rfl (bR (cs:=q16) 0 rfl rfl (lb rfl) rfl (svA q16 rfl) rfl rfl) <|aA rfl (aE rfl rfl (lb rfl) (sv (d:=.bool false) rfl)) <|aB ?_)
 obtain ⟨x1,hx1,h⟩:=aR h
 obtain ⟨x2,hx2,h⟩:=aY h
 obtain ⟨x3,hx3,h⟩:=aR h
 refine aC (aA rfl (faR 0 rfl rfl rfl Tryz.underlying33 rfl ti31 (lb rfl) rfl rfl) <|aA rfl (faR 1 rfl rfl rfl Tryz.underlying31 rfl ti9 (lb rfl) rfl rfl) <|aA rfl (aG (d:=.str _) rfl rfl (lb rfl) Tryz.underlying9 ag9 ti9 (by decide) (svR rfl) rfl (nle rfl) rfl) <|aA rfl (jM rfl rfl (lb rfl) (sv (d:=.str _) rfl) (sv (d:=.str []) rfl) rfl hx1) <|aA rfl (mvB rfl rfl rfl rfl) <|aF rfl rfl (.one rfl) rfl (by decide) (fun hb=>(lra q16 la33 rfl rfl rfl rfl rfl (nle rfl) rfl)) <|aF rfl rfl (.one rfl) rfl (by decide) (fun hb=>(aW (r:=.bool _) rfl rfl (lb rfl) cl104 (.cons (svcA (v4 a0) rfl hb) .nil) rfl (aAe _ _ (gd_t hx2 hb)))) <|aA rfl (bO rfl rfl (lb rfl) (svB rfl) rfl rfl hx3) <|aA rfl (asB rfl rfl rfl rfl) <|aB ?_)
 refine aS ?_
 obtain rfl:=Option.some.inj h
 refine ⟨.inr rfl,(.cons (sv rfl) .nil)⟩

theorem aBU (a0 : cI) (a1 : Int) (r : (cI × (List UInt8) × Bool)) (h : qU a0 a1 = some r) : cD Tryz.prog 29 [.agg (v4 a0),.int .i64 a1] (retD [.agg (v4 r.1),.str r.2.1,.bool r.2.2]):=by
 refine bA (rs:=[.agg (v4 r.1),.str r.2.1,.bool r.2.2]) Tryz.func29 rfl Tryz.ntmps29 (nle rfl) rfl fun O hO=>?_
 show IWP _ _ _ _ ⟨[(0,.agg (v4 a0)),(1,.int .i64 a1)],[]⟩ _
 unfold qU at h
 refine aC (aA rfl (bR (cs:=q16) 0 rfl rfl (lb rfl) rfl (svA q16 rfl) rfl rfl) <|aA rfl (bJ (cs:=q18) (cs':=(w40 0 [] ([] : List aX) 0)) 1 rfl rfl (lb rfl) rfl ti33 rfl rfl (.k (.k (.cons (.nils _) (.all _))))) <|aA rfl (aE rfl rfl (lb rfl) (sv (d:=.str []) rfl)) <|aA rfl (aE rfl rfl (lb rfl) (sv (d:=.bool false) rfl)) <|aB ?_)
 obtain ⟨x1,hx1,h⟩:=aY h
 refine aC (aA rfl (faR 0 rfl rfl rfl Tryz.underlying33 rfl ti31 (lb rfl) rfl rfl) <|aA rfl (lra q19 la31 rfl rfl rfl rfl rfl (nle rfl) rfl) <|aA rfl (mvI rfl rfl rfl rfl) <|aA rfl (aW (r:=.tuple [.agg q19,.str _]) rfl rfl (lb rfl) cl62 (.cons (svA q19 rfl) (.cons (svI rfl) .nil)) rfl (aAd _ _ _ hx1)) <|aA rfl (aK rfl rfl (lb rfl) (sv (d:=.tuple [.agg q19,.str _]) rfl)) <|aA rfl (bE (d:=.agg q19) rfl rfl (lb rfl) (sv (d:=.tuple [.agg q19,.str _]) rfl) rfl) <|aA rfl (bE (d:=.str _) rfl rfl (lb rfl) (sv (d:=.tuple [.agg q19,.str _]) rfl) rfl) <|aA rfl (bJ (cs:=q23) (cs':=[.int .i64 0,.str [],.slice false (([] : List aX).map aL.d)]) 2 rfl rfl (lb rfl) rfl ti31 rfl rfl (.k (.k (.cons (.nils _) .nil)))) <|aA rfl (stA q19 q19 ti31 rfl rfl rfl rfl rfl rfl rfl rfl (nle rfl) rfl) <|aA rfl (aE rfl rfl (lb rfl) (sv (d:=.str _) rfl)) <|aB ?_)
 refine aC (aA rfl (lra q19 la31 rfl rfl rfl rfl rfl (nle rfl) rfl) <|aA rfl (faR 0 rfl rfl rfl Tryz.underlying33 rfl ti31 (lb rfl) rfl rfl) <|aA rfl (stA q19 q16 ti31 rfl rfl rfl rfl rfl rfl rfl rfl (nle rfl) rfl) <|aB ?_)
 obtain ⟨x2,hx2,h⟩:=aY h
 refine dG rfl [⟨[2],[0],[(18,.agg (w40 x1.1.Base x1.1.Ready x1.1.Parts a0.End))],[]⟩,
  ⟨[8],[],[(19,.str x1.2)],[]⟩,
  ⟨[2],[0],[(20,.agg (w40 x1.1.Base x1.1.Ready x1.1.Parts a0.End))],[]⟩,
  ⟨[20],[],[(21,.bool x2)],[]⟩,
  ⟨[4,18],[1],[],[(1,.blk 33 (w40 x1.1.Base x1.1.Ready x1.1.Parts a0.End))]⟩,
  ⟨[19],[],[(5,.str x1.2)],[]⟩,
  ⟨[21],[],[(6,.bool x2)],[]⟩] rfl ?_ (by kernel_rfl) ?_
 ·refine .cons (lop rfl rfl fun S hA=>(cA (cs:=q16) rfl rfl (lb rfl) Tryz.underlying33 ag33 ti33 (by decide) (svaR hA rfl rfl) (agi hA rfl rfl) (nle rfl) rfl)) ?_
  refine .cons (lop rfl rfl fun S hA=>(aK rfl rfl (lb rfl) (sv (d:=.str _) (agr hA rfl rfl)))) ?_
  refine .cons (lop rfl rfl fun S hA=>(cA (cs:=q16) rfl rfl (lb rfl) Tryz.underlying33 ag33 ti33 (by decide) (svaR hA rfl rfl) (agi hA rfl rfl) (nle rfl) rfl)) ?_
  refine .cons (lop rfl rfl fun S hA=>(aW (r:=.bool _) rfl rfl (lb rfl) cl63 (.cons (svaA q16 hA rfl rfl) .nil) rfl (aAf _ _ hx2))) ?_
  refine .cons (lop rfl rfl fun S hA=>(bQ (ds':=q16) rfl rfl ti33 (svaR hA rfl rfl) (agi hA rfl rfl) (svaA q16 hA rfl rfl) rfl rfl rfl (nle rfl) rfl)) ?_
  refine .cons (lop rfl rfl fun S hA=>(aE rfl rfl (lb rfl) (sv (d:=.str _) (agr hA rfl rfl)))) ?_
  refine .cons (lop rfl rfl fun S hA=>(aE rfl rfl (lb rfl) (svaB hA rfl rfl))) ?_
  exact .nil
 refine aS ?_
 obtain rfl:=Option.some.inj h
 refine ⟨.inr rfl,(.cons (rva la33 rfl rfl (nle rfl) rfl) (.cons (sv rfl) (.cons (sv rfl) .nil)))⟩

theorem xL (a0 : cX) (a1 : (List UInt8)) (r : (cX × (List aH))) (h : mU a0 a1 = some r) : cD Tryz.prog 30 [.agg (v7 a0), .str a1] (retD [.agg (v7 r.1), .slice false (r.2.map aQ.d)]) := by
 refine bA (rs:=[.agg (v7 r.1),.slice false (r.2.map aQ.d)]) Tryz.func30 rfl Tryz.ntmps30 (nle rfl) rfl fun O hO=>?_
 show IWP _ _ _ _ ⟨[(0,.agg (v7 a0)),(1,.str a1)],[]⟩ _
 unfold mU at h
 refine aC (aA rfl (bR (cs:=q22) 0 rfl rfl (lb rfl) rfl (svA q22 rfl) rfl rfl) <|aA rfl (bJ (cs:=q22) (cs':=[.str [],.int .i64 0,.int .i64 0]) 1 rfl rfl (lb rfl) rfl ti36 rfl rfl (.all _)) <|aA rfl (aE rfl rfl (lb rfl) (sv (d:=.nils) rfl)) <|aB ?_)
 refine aV ?_
 obtain ⟨x1,hx1,h⟩:=aR h
 obtain ⟨x2,hx2,h⟩:=aY h
 obtain ⟨x3,hx3,h⟩:=aR h
 obtain ⟨x4,hx4,h⟩:=aR h
 refine aC (aA rfl (faR 1 rfl rfl rfl Tryz.underlying36 rfl ti34 (lb rfl) rfl rfl) <|aA rfl (aG (d:=.int _ _) rfl rfl (lb rfl) Tryz.underlying34 ag34 ti34 (by decide) (svR rfl) rfl (nle rfl) rfl) <|aA rfl (aP rfl rfl (lb rfl) (svI rfl) (sv (d:=.int _ 0) rfl) rfl hx1) <|aA rfl (mvB rfl rfl rfl rfl) <|aF rfl rfl (.one rfl) rfl (by decide) (fun hb=>(lra q22 la36 rfl rfl rfl rfl rfl (nle rfl) rfl)) <|aF rfl rfl (.one rfl) rfl (by decide) (fun hb=>(aW (r:=.int _ _) rfl rfl (lb rfl) cl41 (.cons (svcA (v7 a0) rfl hb) .nil) rfl (qZ _ _ (gd_t hx2 hb)))) <|aF rfl rfl (.one rfl) rfl (by decide) (fun hb=>(aP rfl rfl (lb rfl) (svcI rfl hb) (sv (d:=.int _ 0) rfl) rfl hx3)) <|aA rfl (dM rfl rfl (lb rfl) (svB rfl) rfl rfl hx4) <|aB ?_)
 refine aT (b:=_) rfl (fun hc5=>?_) (fun hc5=>?_)
 ·
  replace h:=bT h hc5
  refine aC (aA rfl (lra q22 la36 rfl rfl rfl rfl rfl (nle rfl) rfl) <|aA rfl (stA q22 q22 ti36 rfl rfl rfl rfl rfl rfl rfl rfl (nle rfl) rfl) <|aA rfl (aE rfl rfl (lb rfl) (sv (d:=.nils) rfl)) <|aB ?_)
  refine aS ?_
  refine aZ ?_
  obtain rfl:=Option.some.inj h
  refine ⟨.inr rfl,(.cons (rva la36 rfl rfl (nle rfl) rfl) (.cons (sW rfl rfl) .nil))⟩
 ·
  replace h:=bU h hc5
  refine aU ?_
  refine aN ?_
  obtain ⟨x6,hx6,h⟩:=aY h
  refine aC (aA rfl (faR 0 rfl rfl rfl Tryz.underlying36 rfl ti9 (lb rfl) rfl rfl) <|aA rfl (aG (d:=.str _) rfl rfl (lb rfl) Tryz.underlying9 ag9 ti9 (by decide) (svR rfl) rfl (nle rfl) rfl) <|aA rfl (aK rfl rfl (lb rfl) (sv (d:=.str _) rfl)) <|aA rfl (nI rfl rfl (lb rfl) (sv (d:=.str _) rfl) (sv (d:=.str _) rfl) hx6) <|aA rfl (faR 0 rfl rfl rfl Tryz.underlying36 rfl ti9 (lb rfl) rfl rfl) <|aA rfl (bQ (ds':=q22) rfl rfl ti9 (svR rfl) rfl (sv (d:=.str _) rfl) rfl rfl rfl (nle rfl) rfl) <|aB ?_)
  refine aC (aA rfl (bJ (cs:=[.nils]) (cs':=[.nils]) 2 rfl rfl (lb rfl) rfl ti57 rfl rfl (.all _)) <|aB ?_)
  refine gK (α:=(List UInt8) × Int × Int × (List aH)) (fun z=>⟨[(2,.ref 0 0),(4,.ref 1 0),(6,.ref 2 0)],[(0,.blk 36 [.str z.1,.int .i64 z.2.1,.int .i64 z.2.2.1]),(1,.blk 36 [.str [],.int .i64 0,.int .i64 0]),(2,.blk 57 [.gsl 33 aQ.sz (z.2.2.2.map aQ.d)]),(33,.tail 50 aQ.sz z.2.2.2.length)]⟩) (fun z=>jE z.1 z.2.1 z.2.2.1 z.2.2.2 = some r) ?_ ?_
  ·
   refine aC (?_)
   refine vP (S':=⟨[(2,.ref 0 0),(4,.ref 1 0),(6,.ref 2 0)],[(0,.blk 36 [.str x6,.int .i64 a0.Bad,.int .i64 a0.Seen]),(1,.blk 36 [.str [],.int .i64 0,.int .i64 0]),(2,.blk 57 [.nils])]⟩) (fun i=>i) ⟨(.sames rfl rfl),(.cons (.blk rfl rfl rfl) (.cons (.blk rfl rfl rfl) (.cons (.blk rfl rfl rfl) .nil))),bX [0,1,2] rfl (by decide),fun _ _=>rfl⟩ ?_
   refine aDV 1 3 rfl rfl rfl (by decide) cl64 Tryz.func64 rfl (.cons (svR rfl) .nil) Tryz.ntmps64 (nle rfl) rfl hO fun O1 hO1=>?_
   show IWP _ _ _ _ ⟨[(0,.ref 0 0)],[(3,.kept 1 [.dead,.dead,.ref 0 0,.dead,.ref 1 0,.dead,.ref 2 0,.dead,.dead,.dead,.dead,.dead,.dead,.dead,.dead,.dead,.dead,.dead,.dead,.dead,.dead,.dead,.dead,.dead,.dead,.dead,.dead,.dead,.dead,.dead]),(0,.blk 36 [.str x6,.int .i64 a0.Bad,.int .i64 a0.Seen]),(1,.blk 36 [.str [],.int .i64 0,.int .i64 0]),(2,.blk 57 [.nils])]⟩ _
   refine aC (aA rfl (bR (cs:=[.ref _ _]) 4 rfl rfl (lb rfl) rfl (svR rfl) rfl rfl) <|aA rfl (aE rfl rfl (lb rfl) (sv (d:=.nilf) rfl)) <|aB ?_)
   refine aC (aA rfl (kL rfl rfl (lb rfl) (.cons (svR rfl) .nil)) <|aA rfl (aE rfl rfl (lb rfl) (sv (d:=.fn 105 [.ref _ _]) rfl)) <|aB ?_)
   refine aS ?_
   refine ⟨.inr rfl,3,_,[.fn 105 [.ref 4 0]],(.cons (sv rfl) .nil),rfl,rfl,⟨[(2,.ref 0 0),(4,.ref 1 0),(6,.ref 2 0),(22,.fn 105 [.ref 4 0])],[(0,.blk 36 [.str x6,.int .i64 a0.Bad,.int .i64 a0.Seen]),(1,.blk 36 [.str [],.int .i64 0,.int .i64 0]),(2,.blk 57 [.nils]),(4,.blk 169 [.ref 0 0])]⟩,(fun i=>i),⟨(.sames rfl rfl),(.cons (.blk rfl rfl rfl) (.cons (.blk rfl rfl rfl) (.cons (.blk rfl rfl rfl) (.cons (.blk rfl rfl rfl) .nil)))),bX [0,1,2,4] rfl (by decide),fun _ _=>rfl⟩,?_⟩
   refine aB ?_
   refine bG ?_
   refine vN (S':=⟨[(2,.ref 0 0),(4,.ref 1 0),(6,.ref 2 0),(22,.fn 105 [.ref 4 0])],[(0,.blk 36 [.str x6,.int .i64 a0.Bad,.int .i64 a0.Seen]),(1,.blk 36 [.str [],.int .i64 0,.int .i64 0]),(2,.blk 57 [.nils]),(4,.blk 169 [.ref 0 0])]⟩) (fun i=>i) ⟨(.sames rfl rfl),(.cons (.blk rfl rfl rfl) (.cons (.blk rfl rfl rfl) (.cons (.blk rfl rfl rfl) (.cons (.blk rfl rfl rfl) .nil)))),bX [0,1,2,4] rfl (by decide),fun _ _=>rfl⟩ ?_
   refine aAl 1 5 6 (sv (d:=.fn 105 [.ref _ _]) rfl) cl105 Tryz.func105 rfl rfl Tryz.ntmps105 (nle rfl) rfl rfl hO fun O1 hO1 hlc1=>?_
   show IWP _ _ _ _ ⟨[(0,.yld 5),(1,.ref 4 0)],[(6,.kept 1 [.dead,.dead,.ref 0 0,.dead,.ref 1 0,.dead,.ref 2 0,.dead,.dead,.dead,.dead,.dead,.dead,.dead,.dead,.dead,.dead,.dead,.dead,.dead,.dead,.dead,.fn 105 [.ref 4 0],.dead,.dead,.dead,.dead,.dead,.dead,.dead]),(5,.loop 1 [.dead,.dead,.ref 0 0,.dead,.ref 1 0,.dead,.ref 2 0,.dead,.dead,.dead,.dead,.dead,.dead,.dead,.dead,.dead,.dead,.dead,.dead,.dead,.dead,.dead,.fn 105 [.ref 4 0],.dead,.dead,.dead,.dead,.dead,.dead,.dead] .ready none),(0,.blk 36 [.str x6,.int .i64 a0.Bad,.int .i64 a0.Seen]),(1,.blk 36 [.str [],.int .i64 0,.int .i64 0]),(2,.blk 57 [.nils]),(4,.blk 169 [.ref 0 0])]⟩ _
   refine bG ?_
   refine cW (α:=Nat × (List UInt8) × Int × (List aH)) (fun z=>⟨[(0,.yld 5),(1,.ref 4 0)],[(5,.loop 1 [.dead,.dead,.ref 0 0,.dead,.ref 1 0,.dead,.ref 2 0,.dead,.dead,.dead,.dead,.dead,.dead,.dead,.dead,.dead,.dead,.dead,.dead,.dead,.dead,.dead,.fn 105 [.ref 4 0],.dead,.dead,.dead,.dead,.dead,.dead,.dead] .ready none),(4,.blk 169 [.ref 0 0]),(6,.kept 1 [.dead,.dead,.ref 0 0,.dead,.ref 1 0,.dead,.ref 2 0,.dead,.dead,.dead,.dead,.dead,.dead,.dead,.dead,.dead,.dead,.dead,.dead,.dead,.dead,.dead,.fn 105 [.ref 4 0],.dead,.dead,.dead,.dead,.dead,.dead,.dead]),(0,.blk 36 [.str z.2.1,.int .i64 a0.Bad,.int .i64 z.2.2.1]),(1,.blk 36 [.str [],.int .i64 0,.int .i64 0]),(2,.blk 57 [.gsl 28 aQ.sz (z.2.2.2.map aQ.d)]),(28,.tail 50 aQ.sz z.2.2.2.length)]⟩) (fun z=>gZ a0 z.1 z.2.1 z.2.2.1 z.2.2.2 = some r) (fun z=>z.1) (fuel,x6,a0.Seen,([] : (List aH))) (fun i=>if i = 28 then 85 else i) ⟨(.sames rfl rfl),(.cons (.loop rfl rfl rfl) (.cons (.blk rfl rfl rfl) (.cons (.kept rfl rfl rfl) (.cons (.blk rfl rfl rfl) (.cons (.blk rfl rfl rfl) (.cons (.sub rfl (.nilg .nil) rfl) (.cons (.nils rfl) .nil))))))),bX [5,4,6,0,1,2,85] rfl (by decide),(fun i hi=>by first | rfl | (show (if _ then _ else _) = _; (repeat' split) <;> omega))⟩ ?_ ?_
   ·exact h
   ·
    rintro ⟨n2,v50,v51,v52⟩ h
    cases n2 with
    | zero=>exact absurd h (by unfold gZ; exact nofun)
    | succ n2 =>
     unfold gZ at h
     refine bG ?_
     obtain ⟨x62,hx62,h⟩:=aY h
     refine aC (aA rfl (aG (d:=.ref _ _) rfl rfl (lb rfl) Tryz.underlying169 aCg aCC (by decide) (svR rfl) rfl (nle rfl) rfl) <|aA rfl (bM rfl rfl (lb rfl) (svR rfl)) <|aA rfl (faR 0 rfl rfl rfl Tryz.underlying36 rfl ti9 (lb rfl) rfl rfl) <|aA rfl (aG (d:=.str _) rfl rfl (lb rfl) Tryz.underlying9 ag9 ti9 (by decide) (svR rfl) rfl (nle rfl) rfl) <|aA rfl (aW (r:=.tuple q31) rfl rfl (lb rfl) cl74 (.cons (sv (d:=.str _) rfl) .nil) rfl (wQ _ _ hx62)) <|aA rfl (aK rfl rfl (lb rfl) (sv (d:=.tuple q31) rfl)) <|aA rfl (bE (d:=.agg q10) rfl rfl (lb rfl) (sv (d:=.tuple q31) rfl) rfl) <|aA rfl (bE (d:=.int _ _) rfl rfl (lb rfl) (sv (d:=.tuple q31) rfl) rfl) <|aA rfl (bE (d:=.int _ _) rfl rfl (lb rfl) (sv (d:=.tuple q31) rfl) rfl) <|aA rfl (bJ (cs:=q11) (cs':=(w37 0 false 0 0 0 0 0 0 ([] : List bK) [])) 29 rfl rfl (lb rfl) rfl ti50 rfl rfl (.k4 (.k4 (.cons (.nils _) (.all _))))) <|aA rfl (stA q10 q10 ti50 rfl rfl rfl rfl rfl rfl rfl rfl (nle rfl) rfl) <|aA rfl (asI rfl rfl rfl rfl) <|aA rfl (asI rfl rfl rfl rfl) <|aB ?_)
     refine aC (aA rfl (mvI rfl rfl rfl rfl) <|aB ?_)
     refine bG ?_
     obtain ⟨x63,hx63,h⟩:=aR h
     refine aC (aA rfl (aP rfl rfl (lb rfl) (svI rfl) (sv (d:=.int _ 0) rfl) rfl hx63) <|aA rfl (asB rfl rfl rfl rfl) <|aB ?_)
     refine aT (b:=_) rfl (fun hc64=>?_) (fun hc64=>?_)
     ·
      replace h:=bT h hc64
      obtain ⟨x65,hx65,h⟩:=aY h
      refine dG rfl [⟨[1],[4],[(25,.ref 0 0)],[]⟩,
       ⟨[1],[4],[(26,.ref 0 0)],[]⟩,
       ⟨[26],[],[(27,.ref 0 0)],[]⟩,
       ⟨[27],[],[(28,.ref 0 0)],[]⟩,
       ⟨[28],[0],[(29,.str v50)],[]⟩,
       ⟨[4],[],[(30,.int .i64 x62.2.1)],[]⟩,
       ⟨[29,30],[],[(31,.str x65)],[]⟩,
       ⟨[25],[],[(32,.ref 0 0)],[]⟩,
       ⟨[32],[],[(33,.ref 0 0)],[]⟩,
       ⟨[31,33],[0],[],[(0,.blk 36 [.str x65,.int .i64 a0.Bad,.int .i64 v51])]⟩] rfl ?_ (by kernel_rfl) ?_
      ·refine .cons (lop rfl rfl fun S hA=>(aG (d:=.ref _ _) rfl rfl (lb rfl) Tryz.underlying169 aCg aCC (by decide) (svaR hA rfl rfl) (agi hA rfl rfl) (nle rfl) rfl)) ?_
       refine .cons (lop rfl rfl fun S hA=>(aG (d:=.ref _ _) rfl rfl (lb rfl) Tryz.underlying169 aCg aCC (by decide) (svaR hA rfl rfl) (agi hA rfl rfl) (nle rfl) rfl)) ?_
       refine .cons (lop rfl rfl fun S hA=>(bM rfl rfl (lb rfl) (svaR hA rfl rfl))) ?_
       refine .cons (lop rfl rfl fun S hA=>(aO rfl rfl (lb rfl) Tryz.underlying36 rfl ti9 (by decide) (svaR hA rfl rfl) (off':=0) rfl)) ?_
       refine .cons (lop rfl rfl fun S hA=>(aG (d:=.str _) rfl rfl (lb rfl) Tryz.underlying9 ag9 ti9 (by decide) (svaR hA rfl rfl) (agi hA rfl rfl) (nle rfl) rfl)) ?_
       refine .cons (lop rfl rfl fun S hA=>(aK rfl rfl (lb rfl) (svaI hA rfl rfl))) ?_
       refine .cons (lop rfl rfl fun S hA=>(hT rfl rfl (lb rfl) Tryz.underlying9 (sv (d:=.str _) (agr hA rfl rfl)) ⟨_,(svaI hA rfl rfl)⟩ rfl hx65)) ?_
       refine .cons (lop rfl rfl fun S hA=>(bM rfl rfl (lb rfl) (svaR hA rfl rfl))) ?_
       refine .cons (lop rfl rfl fun S hA=>(aO rfl rfl (lb rfl) Tryz.underlying36 rfl ti9 (by decide) (svaR hA rfl rfl) (off':=0) rfl)) ?_
       refine .cons (lop rfl rfl fun S hA=>(bQ (ds':=q22) rfl rfl ti9 (svaR hA rfl rfl) (agi hA rfl rfl) (sv (d:=.str _) (agr hA rfl rfl)) rfl rfl rfl (nle rfl) rfl)) ?_
       exact .nil
      obtain ⟨x66,hx66,h⟩:=aR h
      refine aC (aA rfl (aG (d:=.ref _ _) rfl rfl (lb rfl) Tryz.underlying169 aCg aCC (by decide) (svR rfl) rfl (nle rfl) rfl) <|aA rfl (bM rfl rfl (lb rfl) (svR rfl)) <|aA rfl (faR 2 rfl rfl rfl Tryz.underlying36 rfl ti3 (lb rfl) rfl rfl) <|aA rfl (aG (d:=.int _ _) rfl rfl (lb rfl) Tryz.underlying3 ag3 ti3 (by decide) (svR rfl) rfl (nle rfl) rfl) <|aA rfl (bL rfl rfl (lb rfl) (svI rfl) (sv (d:=.int _ 1) rfl) rfl hx66) <|aA rfl (bM rfl rfl (lb rfl) (svR rfl)) <|aA rfl (faR 2 rfl rfl rfl Tryz.underlying36 rfl ti3 (lb rfl) rfl rfl) <|aA rfl (bQ (ds':=q22) rfl rfl ti3 (svR rfl) rfl (svI rfl) rfl rfl rfl (nle rfl) rfl) <|aB ?_)
      refine aC (aA rfl (aK rfl rfl (lb rfl) (sv (d:=.yld _) rfl)) <|aA rfl (lra q10 la50 rfl rfl rfl rfl rfl (nle rfl) rfl) <|?_)
      refine vP (S':=⟨[(0,.yld 5),(1,.ref 4 0),(41,.yld 5),(42,.agg (v1 x62.1))],[(0,.blk 36 [.str x65,.int .i64 a0.Bad,.int .i64 x66]),(1,.blk 36 [.str [],.int .i64 0,.int .i64 0]),(2,.blk 57 [.gsl 28 aQ.sz (v52.map aQ.d)]),(4,.blk 169 [.ref 0 0]),(5,.loop 1 [.dead,.dead,.ref 0 0,.dead,.ref 1 0,.dead,.ref 2 0,.dead,.dead,.dead,.dead,.dead,.dead,.dead,.dead,.dead,.dead,.dead,.dead,.dead,.dead,.dead,.fn 105 [.ref 4 0],.dead,.dead,.dead,.dead,.dead,.dead,.dead] .ready none),(6,.kept 1 [.dead,.dead,.ref 0 0,.dead,.ref 1 0,.dead,.ref 2 0,.dead,.dead,.dead,.dead,.dead,.dead,.dead,.dead,.dead,.dead,.dead,.dead,.dead,.dead,.dead,.fn 105 [.ref 4 0],.dead,.dead,.dead,.dead,.dead,.dead,.dead]),(28,.tail 50 aQ.sz v52.length)]⟩) (fun i=>i) ⟨(.sames rfl rfl),(.cons (.blk rfl rfl rfl) (.cons (.blk rfl rfl rfl) (.cons (.blk rfl rfl rfl) (.cons (.blk rfl rfl rfl) (.cons (.loop rfl rfl rfl) (.cons (.kept rfl rfl rfl) (.cons (.tail rfl) .nil))))))),bX [0,1,2,4,5,6,28] rfl (by decide),fun _ _=>rfl⟩ ?_
      refine aAy 2 5 30 rfl rfl rfl (by decide) rfl (.cons (svA q10 rfl) .nil) rfl rfl rfl rfl rfl rfl hO1 hlc1 ⟨[(23,.agg (v1 x62.1)),(6,.ref 2 0)],[(0,.blk 36 [.str x65,.int .i64 a0.Bad,.int .i64 x66]),(1,.blk 36 [.str [],.int .i64 0,.int .i64 0]),(2,.blk 57 [.gsl 28 aQ.sz (v52.map aQ.d)]),(4,.blk 169 [.ref 0 0]),(5,.loop 1 [.dead,.dead,.ref 0 0,.dead,.ref 1 0,.dead,.ref 2 0,.dead,.dead,.dead,.dead,.dead,.dead,.dead,.dead,.dead,.dead,.dead,.dead,.dead,.dead,.dead,.fn 105 [.ref 4 0],.dead,.dead,.dead,.dead,.dead,.dead,.dead] .ready none),(6,.kept 1 [.dead,.dead,.ref 0 0,.dead,.ref 1 0,.dead,.ref 2 0,.dead,.dead,.dead,.dead,.dead,.dead,.dead,.dead,.dead,.dead,.dead,.dead,.dead,.dead,.dead,.fn 105 [.ref 4 0],.dead,.dead,.dead,.dead,.dead,.dead,.dead]),(28,.tail 50 aQ.sz v52.length),(30,.kept 2 [.yld 5,.ref 4 0,.dead,.dead,.dead,.dead,.dead,.dead,.dead,.dead,.dead,.dead,.dead,.dead,.dead,.dead,.dead,.dead,.dead,.dead,.dead,.dead,.dead,.dead,.dead,.dead,.dead,.dead,.dead,.dead,.dead,.dead,.dead,.dead,.dead,.dead,.dead,.dead,.dead,.dead,.dead,.yld 5,.agg (v1 x62.1),.dead,.dead,.dead,.dead])]⟩ (fun i=>i) ⟨(.sames rfl rfl),(.cons (.blk rfl rfl rfl) (.cons (.blk rfl rfl rfl) (.cons (.blk rfl rfl rfl) (.cons (.blk rfl rfl rfl) (.cons (.loop rfl rfl rfl) (.cons (.kept rfl rfl rfl) (.cons (.tail rfl) (.cons (.kept rfl rfl rfl) .nil)))))))),bX [0,1,2,4,5,6,28,30] rfl (by decide),fun _ _=>rfl⟩ fun O2=>?_
      refine bD (aA rfl (bJ (cs:=q11) (cs':=(w37 0 false 0 0 0 0 0 0 ([] : List bK) [])) 31 rfl rfl (lb rfl) rfl ti50 rfl rfl (.k4 (.k4 (.cons (.nils _) (.all _))))) <|aA rfl (stA q10 q10 ti50 rfl rfl rfl rfl rfl rfl rfl rfl (nle rfl) rfl) <|bW ?_)
      refine ⟨rfl,5,_,rfl,⟨[(6,.ref 2 0),(7,.ref 31 0)],[(0,.blk 36 [.str x65,.int .i64 a0.Bad,.int .i64 x66]),(1,.blk 36 [.str [],.int .i64 0,.int .i64 0]),(2,.blk 57 [.gsl 28 aQ.sz (v52.map aQ.d)]),(4,.blk 169 [.ref 0 0]),(5,.loop 1 [.dead,.dead,.ref 0 0,.dead,.ref 1 0,.dead,.ref 2 0,.dead,.dead,.dead,.dead,.dead,.dead,.dead,.dead,.dead,.dead,.dead,.dead,.dead,.dead,.dead,.fn 105 [.ref 4 0],.dead,.dead,.dead,.dead,.dead,.dead,.dead] .busy none),(6,.kept 1 [.dead,.dead,.ref 0 0,.dead,.ref 1 0,.dead,.ref 2 0,.dead,.dead,.dead,.dead,.dead,.dead,.dead,.dead,.dead,.dead,.dead,.dead,.dead,.dead,.dead,.fn 105 [.ref 4 0],.dead,.dead,.dead,.dead,.dead,.dead,.dead]),(28,.tail 50 aQ.sz v52.length),(30,.kept 2 [.yld 5,.ref 4 0,.dead,.dead,.dead,.dead,.dead,.dead,.dead,.dead,.dead,.dead,.dead,.dead,.dead,.dead,.dead,.dead,.dead,.dead,.dead,.dead,.dead,.dead,.dead,.dead,.dead,.dead,.dead,.dead,.dead,.dead,.dead,.dead,.dead,.dead,.dead,.dead,.dead,.dead,.dead,.yld 5,.agg (v1 x62.1),.dead,.dead,.dead,.dead]),(31,.blk 50 (v1 x62.1))]⟩,(fun i=>i),⟨(.sames rfl rfl),(.cons (.blk rfl rfl rfl) (.cons (.blk rfl rfl rfl) (.cons (.blk rfl rfl rfl) (.cons (.blk rfl rfl rfl) (.cons (.loop rfl rfl rfl) (.cons (.kept rfl rfl rfl) (.cons (.tail rfl) (.cons (.kept rfl rfl rfl) (.cons (.blk rfl rfl rfl) .nil))))))))),bX [0,1,2,4,5,6,28,30,31] rfl (by decide),fun _ _=>rfl⟩,?_⟩
      refine bG ?_
      obtain ⟨x67,hx67,h⟩:=aY h
      refine bD (aA rfl (aG (d:=.gsl _ _ _) rfl rfl (lb rfl) Tryz.underlying57 ag57 ti57 (by decide) (svR rfl) rfl (nle rfl) rfl) <|aA rfl (lra q10 la50 rfl rfl rfl rfl rfl (nle rfl) rfl) <|aA rfl (oQ aQ ([x62.1] : (List aH)) 32 rfl rfl (lb rfl) Tryz.underlying57 ti50 rfl (.cons (svA q10 rfl) .nil) rfl rfl (by decide)) <|aA rfl (oJ aQ 33 rfl rfl (lb rfl) Tryz.underlying57 ti50 rfl rfl rfl rfl (svg rfl) hx67) <|aA rfl (bQ (ds':=[.gsl _ _ _]) rfl rfl ti57 (svR rfl) rfl (sv (d:=.gsl _ _ _) rfl) rfl rfl rfl (nle rfl) rfl) <|bW ?_)
      refine bZ ?_
      refine ⟨5,30,_,_,none,rfl,rfl,rfl,rfl,(by decide),⟨[(0,.yld 5),(1,.ref 4 0),(43,.bool true)],[(0,.blk 36 [.str x65,.int .i64 a0.Bad,.int .i64 x66]),(1,.blk 36 [.str [],.int .i64 0,.int .i64 0]),(2,.blk 57 [.gsl 33 aQ.sz (x67.map aQ.d)]),(4,.blk 169 [.ref 0 0]),(5,.loop 1 [.dead,.dead,.ref 0 0,.dead,.ref 1 0,.dead,.ref 2 0,.dead,.dead,.dead,.dead,.dead,.dead,.dead,.dead,.dead,.dead,.dead,.dead,.dead,.dead,.dead,.fn 105 [.ref 4 0],.dead,.dead,.dead,.dead,.dead,.dead,.dead] .ready none),(6,.kept 1 [.dead,.dead,.ref 0 0,.dead,.ref 1 0,.dead,.ref 2 0,.dead,.dead,.dead,.dead,.dead,.dead,.dead,.dead,.dead,.dead,.dead,.dead,.dead,.dead,.dead,.fn 105 [.ref 4 0],.dead,.dead,.dead,.dead,.dead,.dead,.dead]),(33,.tail 50 aQ.sz x67.length)]⟩,(fun i=>i),⟨(.sames rfl rfl),(.cons (.blk rfl rfl rfl) (.cons (.blk rfl rfl rfl) (.cons (.blk rfl rfl rfl) (.cons (.blk rfl rfl rfl) (.cons (.loop rfl rfl rfl) (.cons (.kept rfl rfl rfl) (.cons (.tail rfl) .nil))))))),bX [0,1,2,4,5,6,33] rfl (by decide),fun _ _=>rfl⟩,?_⟩
      refine aA rfl (dD rfl rfl (lb rfl) (svB rfl)) <|aB ?_
      refine aT (b:=_) rfl (fun hc68=>?_) (fun hc68=>?_)
      ·
       replace h:=bT h hc68
       refine aS ?_
       refine bP ?_
       refine bP ?_
       refine aZ ?_
       refine bP ?_
       refine ⟨.inr rfl,5,6,_,_,_,_,rfl,(by simp),rfl,rfl,⟨[(2,.ref 0 0),(4,.ref 1 0),(6,.ref 2 0)],[(0,.blk 36 [.str x65,.int .i64 a0.Bad,.int .i64 x66]),(1,.blk 36 [.str [],.int .i64 0,.int .i64 0]),(2,.blk 57 [.gsl 33 aQ.sz (x67.map aQ.d)]),(33,.tail 50 aQ.sz x67.length)]⟩,(fun i=>i),⟨(.sames rfl rfl),(.cons (.blk rfl rfl rfl) (.cons (.blk rfl rfl rfl) (.cons (.blk rfl rfl rfl) (.cons (.tail rfl) .nil)))),bX [0,1,2,33] rfl (by decide),fun _ _=>rfl⟩,?_⟩
       refine bZ ?_
       refine aN ⟨(x65,a0.Bad,x66,x67),(fun i=>i),⟨(.sames rfl rfl),(.cons (.blk rfl rfl rfl) (.cons (.blk rfl rfl rfl) (.cons (.blk rfl rfl rfl) (.cons (.tail rfl) .nil)))),bX [0,1,2,33] rfl (by decide),fun _ _=>rfl⟩,?_⟩
       exact h
      ·
       replace h:=bU h hc68
       refine aU ?_
       refine bZ ?_
       refine bZ ?_
       refine aN ⟨(n2,x65,x66,x67),(fun i=>if i = 28 then 33 else i),⟨(.sames rfl rfl),(.cons (.loop rfl rfl rfl) (.cons (.blk rfl rfl rfl) (.cons (.kept rfl rfl rfl) (.cons (.blk rfl rfl rfl) (.cons (.blk rfl rfl rfl) (.cons (.blk rfl rfl rfl) (.cons (.tail rfl) .nil))))))),bX [5,4,6,0,1,2,33] rfl (by decide),(fun i hi=>by first | rfl | (show (if _ then _ else _) = _; (repeat' split) <;> omega))⟩,?_,?_⟩
       exact h
       exact Nat.lt_succ_self _
     ·
      replace h:=bU h hc64
      obtain ⟨x69,hx69,h⟩:=aR h
      refine aC (aA rfl (aP rfl rfl (lb rfl) (svI rfl) (sv (d:=.int _ 3) rfl) rfl hx69) <|aA rfl (asB rfl rfl rfl rfl) <|aB ?_)
      refine aT (b:=_) rfl (fun hc70=>?_) (fun hc70=>?_)
      ·
       replace h:=bT h hc70
       refine aS ?_
       refine bP ?_
       refine bP ?_
       refine aZ ?_
       refine bP ?_
       refine ⟨.inr rfl,5,6,_,_,_,_,rfl,(by simp),rfl,rfl,⟨[(2,.ref 0 0),(4,.ref 1 0),(6,.ref 2 0)],[(0,.blk 36 [.str v50,.int .i64 a0.Bad,.int .i64 v51]),(1,.blk 36 [.str [],.int .i64 0,.int .i64 0]),(2,.blk 57 [.gsl 28 aQ.sz (v52.map aQ.d)]),(28,.tail 50 aQ.sz v52.length)]⟩,(fun i=>i),⟨(.sames rfl rfl),(.cons (.blk rfl rfl rfl) (.cons (.blk rfl rfl rfl) (.cons (.blk rfl rfl rfl) (.cons (.tail rfl) .nil)))),bX [0,1,2,28] rfl (by decide),fun _ _=>rfl⟩,?_⟩
       refine bZ ?_
       refine aN ⟨(v50,a0.Bad,v51,v52),(fun i=>if i = 33 then 28 else i),⟨(.sames rfl rfl),(.cons (.blk rfl rfl rfl) (.cons (.blk rfl rfl rfl) (.cons (.blk rfl rfl rfl) (.cons (.tail rfl) .nil)))),bX [0,1,2,28] rfl (by decide),(fun i hi=>by first | rfl | (show (if _ then _ else _) = _; (repeat' split) <;> omega))⟩,?_⟩
       exact h
      ·
       replace h:=bU h hc70
       refine dG rfl [⟨[1],[4],[(16,.ref 0 0)],[]⟩,
        ⟨[1],[4],[(17,.ref 0 0)],[]⟩,
        ⟨[5],[],[(18,.int .i64 x62.2.2)],[]⟩,
        ⟨[16],[],[(19,.ref 0 0)],[]⟩,
        ⟨[19],[],[(20,.ref 0 0)],[]⟩,
        ⟨[20],[0],[],[(0,.blk 36 [.str [],.int .i64 a0.Bad,.int .i64 v51])]⟩,
        ⟨[17],[],[(21,.ref 0 0)],[]⟩,
        ⟨[21],[],[(22,.ref 0 1)],[]⟩,
        ⟨[18,22],[0],[],[(0,.blk 36 [.str [],.int .i64 x62.2.2,.int .i64 v51])]⟩] rfl ?_ (by kernel_rfl) ?_
       ·refine .cons (lop rfl rfl fun S hA=>(aG (d:=.ref _ _) rfl rfl (lb rfl) Tryz.underlying169 aCg aCC (by decide) (svaR hA rfl rfl) (agi hA rfl rfl) (nle rfl) rfl)) ?_
        refine .cons (lop rfl rfl fun S hA=>(aG (d:=.ref _ _) rfl rfl (lb rfl) Tryz.underlying169 aCg aCC (by decide) (svaR hA rfl rfl) (agi hA rfl rfl) (nle rfl) rfl)) ?_
        refine .cons (lop rfl rfl fun S hA=>(aK rfl rfl (lb rfl) (svaI hA rfl rfl))) ?_
        refine .cons (lop rfl rfl fun S hA=>(bM rfl rfl (lb rfl) (svaR hA rfl rfl))) ?_
        refine .cons (lop rfl rfl fun S hA=>(aO rfl rfl (lb rfl) Tryz.underlying36 rfl ti9 (by decide) (svaR hA rfl rfl) (off':=0) rfl)) ?_
        refine .cons (lop rfl rfl fun S hA=>(bQ (ds':=q22) rfl rfl ti9 (svaR hA rfl rfl) (agi hA rfl rfl) (sv (d:=.str []) rfl) rfl rfl rfl (nle rfl) rfl)) ?_
        refine .cons (lop rfl rfl fun S hA=>(bM rfl rfl (lb rfl) (svaR hA rfl rfl))) ?_
        refine .cons (lop rfl rfl fun S hA=>(aO rfl rfl (lb rfl) Tryz.underlying36 rfl ti34 (by decide) (svaR hA rfl rfl) (off':=1) rfl)) ?_
        refine .cons (lop rfl rfl fun S hA=>(bQ (ds':=q22) rfl rfl ti34 (svaR hA rfl rfl) (agi hA rfl rfl) (svaI hA rfl rfl) rfl rfl rfl (nle rfl) rfl)) ?_
        exact .nil
       refine aS ?_
       refine bP ?_
       refine bP ?_
       refine aZ ?_
       refine bP ?_
       refine ⟨.inr rfl,5,6,_,_,_,_,rfl,(by simp),rfl,rfl,⟨[(2,.ref 0 0),(4,.ref 1 0),(6,.ref 2 0)],[(0,.blk 36 [.str [],.int .i64 x62.2.2,.int .i64 v51]),(1,.blk 36 [.str [],.int .i64 0,.int .i64 0]),(2,.blk 57 [.gsl 28 aQ.sz (v52.map aQ.d)]),(28,.tail 50 aQ.sz v52.length)]⟩,(fun i=>i),⟨(.sames rfl rfl),(.cons (.blk rfl rfl rfl) (.cons (.blk rfl rfl rfl) (.cons (.blk rfl rfl rfl) (.cons (.tail rfl) .nil)))),bX [0,1,2,28] rfl (by decide),fun _ _=>rfl⟩,?_⟩
       refine bZ ?_
       refine aN ⟨(([] : (List UInt8)),x62.2.2,v51,v52),(fun i=>if i = 33 then 28 else i),⟨(.sames rfl rfl),(.cons (.blk rfl rfl rfl) (.cons (.blk rfl rfl rfl) (.cons (.blk rfl rfl rfl) (.cons (.tail rfl) .nil)))),bX [0,1,2,28] rfl (by decide),(fun i hi=>by first | rfl | (show (if _ then _ else _) = _; (repeat' split) <;> omega))⟩,?_⟩
       exact h
  ·
   rintro ⟨v37,v38,v39,v40⟩ h
   unfold jE at h
   refine dG rfl [⟨[2],[0],[(28,.agg [.str v37,.int .i64 v38,.int .i64 v39])],[]⟩,
    ⟨[6],[2],[(29,.gsl 33 aQ.sz (v40.map aQ.d))],[]⟩,
    ⟨[4,28],[1],[],[(1,.blk 36 [.str v37,.int .i64 v38,.int .i64 v39])]⟩,
    ⟨[29],[],[(5,.gsl 33 aQ.sz (v40.map aQ.d))],[]⟩] rfl ?_ (by kernel_rfl) ?_
   ·refine .cons (lop rfl rfl fun S hA=>(cA (cs:=q22) rfl rfl (lb rfl) Tryz.underlying36 ag36 ti36 (by decide) (svaR hA rfl rfl) (agi hA rfl rfl) (nle rfl) rfl)) ?_
    refine .cons (lop rfl rfl fun S hA=>(aG (d:=.gsl _ _ _) rfl rfl (lb rfl) Tryz.underlying57 ag57 ti57 (by decide) (svaR hA rfl rfl) (agi hA rfl rfl) (nle rfl) rfl)) ?_
    refine .cons (lop rfl rfl fun S hA=>(bQ (ds':=q22) rfl rfl ti36 (svaR hA rfl rfl) (agi hA rfl rfl) (svaA q22 hA rfl rfl) rfl rfl rfl (nle rfl) rfl)) ?_
    refine .cons (lop rfl rfl fun S hA=>(aE rfl rfl (lb rfl) (sv (d:=.gsl _ _ _) (agr hA rfl rfl)))) ?_
    exact .nil
   refine aS ?_
   obtain rfl:=Option.some.inj h
   refine ⟨.inr rfl,(.cons (rva la36 rfl rfl (nle rfl) rfl) (.cons (xV rfl rfl) .nil))⟩

theorem tK (a0 : aH) (r : Bool) (h : jV a0 = some r) : cD Tryz.prog 32 [.agg (v1 a0)] (.bool r):=by
 refine bA (rs:=[.bool r]) Tryz.func32 rfl Tryz.ntmps32 (nle rfl) rfl fun O hO=>?_
 show IWP _ _ _ _ ⟨[(0,.agg (v1 a0))],[]⟩ _
 unfold jV at h
 refine aC (aA rfl (bR (cs:=q10) 0 rfl rfl (lb rfl) rfl (svA q10 rfl) rfl rfl) <|aA rfl (aE rfl rfl (lb rfl) (sv (d:=.bool false) rfl)) <|aB ?_)
 obtain ⟨x1,hx1,h⟩:=aY h
 refine aC (aA rfl (faR 0 rfl rfl rfl Tryz.underlying50 rfl ti5 (lb rfl) rfl rfl) <|aA rfl (aG (d:=.int _ _) rfl rfl (lb rfl) Tryz.underlying5 ag5 ti5 (by decide) (svR rfl) rfl (nle rfl) rfl) <|aA rfl (aW (r:=.bool _) rfl rfl (lb rfl) cl21 (.cons (svI rfl) .nil) rfl (qW _ _ hx1)) <|aA rfl (dD rfl rfl (lb rfl) (svB rfl)) <|aA rfl (asB rfl rfl rfl rfl) <|aB ?_)
 refine aS ?_
 obtain rfl:=Option.some.inj h
 refine ⟨.inr rfl,(.cons (sv rfl) .nil)⟩

theorem gW (a0 : (List aH)) (r : Int) (h : dC a0 = some r) : cD Tryz.prog 31 [.slice false (a0.map aQ.d),.fn 32 []] (.int .i64 r):=by
 refine bA (rs:=[.int .i64 r]) Tryz.func31 rfl Tryz.ntmps31 (nle rfl) rfl fun O hO=>?_
 show IWP _ _ _ _ ⟨[(0,.slice false (a0.map aQ.d)),(1,.fn 32 [])],[]⟩ _
 unfold dC at h
 refine aC (aA rfl (aE rfl rfl (lb rfl) (sv (d:=.int _ 0) rfl)) <|aB ?_)
 refine aV ?_
 refine aC (aA rfl (mvL rfl rfl rfl rfl) <|aA rfl (cJ aQ (l:=a0) rfl rfl (lb rfl) Tryz.underlying57 (svL rfl)) <|aA rfl (aK rfl rfl (lb rfl) (sv (d:=.int _ 0) rfl)) <|aB ?_)
 refine bG ?_
 refine cW (α:=Nat × Int) (fun z=>⟨[(0,.slice false (a0.map aQ.d)),(1,.fn 32 []),(7,.int .i64 (a0.length : Int)),(8,.int .i64 z.2)],[]⟩) (fun z=>bV a0 z.1 z.2 = some r) (fun z=>z.1) (fuel,0) (fun i=>i) ⟨(.sames rfl rfl),.nil,bX [] rfl (by decide),fun _ _=>rfl⟩ ?_ ?_
 ·exact h
 ·
  rintro ⟨n0,v7⟩ h
  cases n0 with
  | zero=>exact absurd h (by unfold bV; exact nofun)
  | succ n0 =>
   unfold bV at h
   obtain ⟨x14,hx14,h⟩:=aR h
   refine aC (aA rfl (aP rfl rfl (lb rfl) (svI rfl) (svI rfl) rfl hx14) <|aB ?_)
   refine aV ?_
   refine aT (b:=_) rfl (fun hc15=>?_) (fun hc15=>?_)
   ·
    replace h:=bT h hc15
    refine aU ?_
    refine aN ?_
    refine aV ?_
    refine bG ?_
    refine aC (aA rfl (mvI rfl rfl rfl rfl) <|aA rfl (asI rfl rfl rfl rfl) <|aB ?_)
    obtain ⟨x16,hx16,h⟩:=aY h
    obtain ⟨x17,hx17,h⟩:=aY h
    refine aC (aA rfl (aK rfl rfl (lb rfl) (sv (d:=.fn 32 []) rfl)) <|aA rfl (mvL rfl rfl rfl rfl) <|aA rfl (mvI rfl rfl rfl rfl) <|aA rfl (cY aQ (cs:=q10) rfl rfl (lb rfl) Tryz.underlying57 ti50 (svL rfl) (svI rfl) hx16 rfl rfl) <|aA rfl (cQ (cs:=q10) rfl rfl (lb rfl) Tryz.underlying50 ag50 ti50 (by decide) (sv (d:=.fptr q10) rfl) (nle rfl) rfl) <|aA rfl (mT (r:=.bool _) rfl rfl (lb rfl) cl32 (sv (d:=.fn 32 []) rfl) (.cons (svA q10 rfl) .nil) rfl (tK _ _ hx17)) <|aB ?_)
    refine aT (b:=_) rfl (fun hc18=>?_) (fun hc18=>?_)
    ·
     replace h:=bT h hc18
     refine aC (aA rfl (mvI rfl rfl rfl rfl) <|aA rfl (asI rfl rfl rfl rfl) <|aB ?_)
     refine aS ?_
     refine bP ?_
     refine aZ ?_
     refine aZ ?_
     refine bP ?_
     refine aZ ?_
     obtain rfl:=Option.some.inj h
     refine ⟨.inr rfl,(.cons (sv rfl) .nil)⟩
    ·
     replace h:=bU h hc18
     refine aU ?_
     refine bZ ?_
     refine aN ?_
     obtain ⟨x19,hx19,h⟩:=aR h
     refine bD (aA rfl (bL rfl rfl (lb rfl) (svI rfl) (sv (d:=.int _ 1) rfl) rfl hx19) <|aA rfl (mvI rfl rfl rfl rfl) <|bW ?_)
     refine aN ⟨(n0,x19),(fun i=>i),⟨(.sames rfl rfl),.nil,bX [] rfl (by decide),fun _ _=>rfl⟩,?_,?_⟩
     exact h
     exact Nat.lt_succ_self _
   ·
    replace h:=bU h hc15
    refine cN ?_
    refine bI ?_
    refine bI ?_
    refine cO ?_
    refine aN ?_
    refine aC (aA rfl (aE rfl rfl (lb rfl) (sv (d:=.int _ (-1)) rfl)) <|aB ?_)
    refine aS ?_
    obtain rfl:=Option.some.inj h
    refine ⟨.inr rfl,(.cons (sv rfl) .nil)⟩

theorem zE (a0 : Int) (r : kN) (h : pR a0 = some r) : cD Tryz.prog 33 [.int .i64 a0] (.agg [.int .i64 r.Scope,.int .u32 r.Code]):=by
 refine bA (rs:=[.agg [.int .i64 r.Scope,.int .u32 r.Code]]) Tryz.func33 rfl Tryz.ntmps33 (nle rfl) rfl fun O hO=>?_
 show IWP _ _ _ _ ⟨[(0,.int .i64 a0)],[]⟩ _
 unfold pR at h
 refine aC (aA rfl (bJ (cs:=q25) (cs':=[.int .i64 0,.int .u32 0]) 0 rfl rfl (lb rfl) rfl ti92 rfl rfl (.all _)) <|aB ?_)
 refine aV ?_
 refine aC (aA rfl (mvI rfl rfl rfl rfl) <|aB ?_)
 refine bG ?_
 obtain ⟨x1,hx1,h⟩:=aR h
 refine aC (aA rfl (aP rfl rfl (lb rfl) (svI rfl) (sv (d:=.int _ 0) rfl) rfl hx1) <|aA rfl (asB rfl rfl rfl rfl) <|aB ?_)
 refine aT (b:=_) rfl (fun hc2=>?_) (fun hc2=>?_)
 ·
  replace h:=bT h hc2
  refine aC (aA rfl (cC (cs:=q25) rfl rfl (lb rfl) Tryz.underlying92 ti92 pl92 rfl .nil rfl) <|aA rfl (stA q25 q25 ti92 rfl rfl rfl rfl rfl rfl rfl rfl (nle rfl) rfl) <|aB ?_)
  refine aS ?_
  refine bP ?_
  refine aZ ?_
  obtain rfl:=Option.some.inj h
  refine ⟨.inr rfl,(.cons (rva la92 rfl rfl (nle rfl) rfl) .nil)⟩
 ·
  replace h:=bU h hc2
  obtain ⟨x3,hx3,h⟩:=aR h
  refine aC (aA rfl (aP rfl rfl (lb rfl) (svI rfl) (sv (d:=.int _ 5) rfl) rfl hx3) <|aA rfl (asB rfl rfl rfl rfl) <|aB ?_)
  refine aT (b:=_) rfl (fun hc4=>?_) (fun hc4=>?_)
  ·
   replace h:=bT h hc4
   refine aC (aA rfl (cC (cs:=q25) rfl rfl (lb rfl) Tryz.underlying92 ti92 pl92 rfl (.cons (sv (d:=.int _ 3) rfl) (.cons (sv (d:=.int _ 6) rfl) .nil)) rfl) <|aA rfl (stA q25 q25 ti92 rfl rfl rfl rfl rfl rfl rfl rfl (nle rfl) rfl) <|aB ?_)
   refine aS ?_
   refine bP ?_
   refine aZ ?_
   obtain rfl:=Option.some.inj h
   refine ⟨.inr rfl,(.cons (rva la92 rfl rfl (nle rfl) rfl) .nil)⟩
  ·
   replace h:=bU h hc4
   refine aU ?_
   refine bZ ?_
   refine aN ?_
   refine aC (aA rfl (cC (cs:=q25) rfl rfl (lb rfl) Tryz.underlying92 ti92 pl92 rfl (.cons (sv (d:=.int _ 3) rfl) (.cons (sv (d:=.int _ 1) rfl) .nil)) rfl) <|aA rfl (stA q25 q25 ti92 rfl rfl rfl rfl rfl rfl rfl rfl (nle rfl) rfl) <|aB ?_)
   refine aS ?_
   obtain rfl:=Option.some.inj h
   refine ⟨.inr rfl,(.cons (rva la92 rfl rfl (nle rfl) rfl) .nil)⟩

theorem iE (a0 : bH) (a1 : Int) (a2 : (List UInt8)) (r : (bH × (List aH) × Int)) (h : eX a0 a1 a2 = some r) : cD Tryz.prog 10 [.agg (v0 a0),.int .i64 a1,.str a2] (retD [.agg (v0 r.1),.slice false (r.2.1.map aQ.d),.int .u32 r.2.2]):=by
 refine bA (rs:=[.agg (v0 r.1),.slice false (r.2.1.map aQ.d),.int .u32 r.2.2]) Tryz.func10 rfl Tryz.ntmps10 (nle rfl) rfl fun O hO=>?_
 show IWP _ _ _ _ ⟨[(0,.agg (v0 a0)),(1,.int .i64 a1),(2,.str a2)],[]⟩ _
 unfold eX at h
 refine aC (aA rfl (bR (cs:=q8) 0 rfl rfl (lb rfl) rfl (svA q8 rfl) rfl rfl) <|aA rfl (bJ (cs:=q9) (cs':=(w36 0 [] 0 ([] : List aM) ([] : List aI) false false false false 0 [] ([] : List aX) 0 [] 0 0)) 1 rfl rfl (lb rfl) rfl ti38 rfl rfl (.k (.k (.k (.cons (.nils _) (.cons (.nils _) (.k4 (.k (.k (.cons (.nils _) (.all _))))))))))) <|aA rfl (aE rfl rfl (lb rfl) (sv (d:=.nils) rfl)) <|aA rfl (aE rfl rfl (lb rfl) (sv (d:=.int _ 0) rfl)) <|aB ?_)
 refine aV ?_
 obtain ⟨x1,hx1,h⟩:=aY h
 obtain ⟨x2,hx2,h⟩:=aR h
 refine aC (aA rfl (lra q8 la38 rfl rfl rfl rfl rfl (nle rfl) rfl) <|aA rfl (aW (r:=.int _ _) rfl rfl (lb rfl) cl16 (.cons (svA q8 rfl) .nil) rfl (fW _ _ hx1)) <|aA rfl (aP rfl rfl (lb rfl) (svI rfl) (sv (d:=.int _ 0) rfl) rfl hx2) <|aB ?_)
 refine aT (b:=_) rfl (fun hc3=>?_) (fun hc3=>?_)
 ·
  replace h:=bT h hc3
  refine aC (aA rfl (lra q8 la38 rfl rfl rfl rfl rfl (nle rfl) rfl) <|aA rfl (stA q8 q8 ti38 rfl rfl rfl rfl rfl rfl rfl rfl (nle rfl) rfl) <|aA rfl (aE rfl rfl (lb rfl) (sv (d:=.nils) rfl)) <|aA rfl (aE rfl rfl (lb rfl) (sv (d:=.int _ 2) rfl)) <|aB ?_)
  refine aS ?_
  refine aZ ?_
  obtain rfl:=Option.some.inj h
  refine ⟨.inr rfl,(.cons (rva la38 rfl rfl (nle rfl) rfl) (.cons (sW rfl rfl) (.cons (sv rfl) .nil)))⟩
 ·
  replace h:=bU h hc3
  refine aU ?_
  refine aN ?_
  obtain ⟨x4,hx4,h⟩:=aY h
  refine aC (aA rfl (faR 9 rfl rfl rfl Tryz.underlying38 rfl ti33 (lb rfl) rfl rfl) <|aA rfl (lra q16 la33 rfl rfl rfl rfl rfl (nle rfl) rfl) <|aA rfl (mvI rfl rfl rfl rfl) <|aA rfl (aK rfl rfl (lb rfl) (sv (d:=.str _) rfl)) <|aA rfl (aW (r:=.tuple q32) rfl rfl (lb rfl) cl28 (.cons (svA q16 rfl) (.cons (svI rfl) (.cons (sv (d:=.str _) rfl) (.cons (sv (d:=.bool false) rfl) .nil)))) rfl (aCP _ _ _ _ _ hx4)) <|aA rfl (aK rfl rfl (lb rfl) (sv (d:=.tuple q32) rfl)) <|aA rfl (bE (d:=.agg q16) rfl rfl (lb rfl) (sv (d:=.tuple q32) rfl) rfl) <|aA rfl (bE (d:=.int _ _) rfl rfl (lb rfl) (sv (d:=.tuple q32) rfl) rfl) <|aA rfl (bE (d:=.int _ _) rfl rfl (lb rfl) (sv (d:=.tuple q32) rfl) rfl) <|aA rfl (bJ (cs:=q18) (cs':=(w40 0 [] ([] : List aX) 0)) 2 rfl rfl (lb rfl) rfl ti33 rfl rfl (.k (.k (.cons (.nils _) (.all _))))) <|aA rfl (stA q16 q16 ti33 rfl rfl rfl rfl rfl rfl rfl rfl (nle rfl) rfl) <|aA rfl (asI rfl rfl rfl rfl) <|aA rfl (asI rfl rfl rfl rfl) <|aB ?_)
  refine aV ?_
  obtain ⟨x5,hx5,h⟩:=aR h
  refine aC (aA rfl (mvI rfl rfl rfl rfl) <|aA rfl (aP rfl rfl (lb rfl) (svI rfl) (sv (d:=.int _ 0) rfl) rfl hx5) <|aB ?_)
  refine aT (b:=_) rfl (fun hc6=>?_) (fun hc6=>?_)
  ·
   replace h:=bT h hc6
   refine aC (aA rfl (lra q8 la38 rfl rfl rfl rfl rfl (nle rfl) rfl) <|aA rfl (mvI rfl rfl rfl rfl) <|aA rfl (stA q8 q8 ti38 rfl rfl rfl rfl rfl rfl rfl rfl (nle rfl) rfl) <|aA rfl (aE rfl rfl (lb rfl) (sv (d:=.nils) rfl)) <|aA rfl (asI rfl rfl rfl rfl) <|aB ?_)
   refine aS ?_
   refine aZ ?_
   obtain rfl:=Option.some.inj h
   refine ⟨.inr rfl,(.cons (rva la38 rfl rfl (nle rfl) rfl) (.cons (sW rfl rfl) (.cons (sv rfl) .nil)))⟩
  ·
   replace h:=bU h hc6
   refine aU ?_
   refine aN ?_
   obtain ⟨x7,hx7,h⟩:=aY h
   refine aC (aA rfl (lra q16 la33 rfl rfl rfl rfl rfl (nle rfl) rfl) <|aA rfl (aW (r:=.tuple q33) rfl rfl (lb rfl) cl29 (.cons (svA q16 rfl) (.cons (sv (d:=.int _ 4096) rfl) .nil)) rfl (aBU _ _ _ hx7)) <|aA rfl (aK rfl rfl (lb rfl) (sv (d:=.tuple q33) rfl)) <|aA rfl (bE (d:=.agg q16) rfl rfl (lb rfl) (sv (d:=.tuple q33) rfl) rfl) <|aA rfl (bE (d:=.str _) rfl rfl (lb rfl) (sv (d:=.tuple q33) rfl) rfl) <|aA rfl (bE (d:=.bool _) rfl rfl (lb rfl) (sv (d:=.tuple q33) rfl) rfl) <|aA rfl (stA q16 q16 ti33 rfl rfl rfl rfl rfl rfl rfl rfl (nle rfl) rfl) <|aA rfl (aE rfl rfl (lb rfl) (sv (d:=.str _) rfl)) <|aA rfl (asB rfl rfl rfl rfl) <|aB ?_)
   obtain ⟨x8,hx8,h⟩:=aY h
   refine aC (aA rfl (faR 13 rfl rfl rfl Tryz.underlying38 rfl ti36 (lb rfl) rfl rfl) <|aA rfl (lra q22 la36 rfl rfl rfl rfl rfl (nle rfl) rfl) <|aA rfl (aK rfl rfl (lb rfl) (sv (d:=.str _) rfl)) <|aA rfl (aW (r:=.tuple [.agg q22,.slice _ _]) rfl rfl (lb rfl) cl30 (.cons (svA q22 rfl) (.cons (sv (d:=.str _) rfl) .nil)) rfl (xL _ _ _ hx8)) <|aA rfl (aK rfl rfl (lb rfl) (sv (d:=.tuple [.agg q22,.slice _ _]) rfl)) <|aA rfl (bE (d:=.agg q22) rfl rfl (lb rfl) (sv (d:=.tuple [.agg q22,.slice _ _]) rfl) rfl) <|aA rfl (bE (d:=.slice _ _) rfl rfl (lb rfl) (sv (d:=.tuple [.agg q22,.slice _ _]) rfl) rfl) <|aA rfl (bJ (cs:=q22) (cs':=[.str [],.int .i64 0,.int .i64 0]) 3 rfl rfl (lb rfl) rfl ti36 rfl rfl (.all _)) <|aA rfl (stA q22 q22 ti36 rfl rfl rfl rfl rfl rfl rfl rfl (nle rfl) rfl) <|aA rfl (aE rfl rfl (lb rfl) (svL rfl)) <|aB ?_)
   refine aV ?_
   obtain ⟨x9,hx9,h⟩:=aY h
   refine aC (aA rfl (mvL rfl rfl rfl rfl) <|aA rfl (aW (r:=.int _ _) rfl rfl (lb rfl) cl31 (.cons (svL rfl) (.cons (sv (d:=.fn 32 []) rfl) .nil)) rfl (gW _ _ hx9)) <|aA rfl (asI rfl rfl rfl rfl) <|aB ?_)
   obtain ⟨x10,hx10,h⟩:=aR h
   refine aC (aA rfl (mvI rfl rfl rfl rfl) <|aA rfl (aP rfl rfl (lb rfl) (svI rfl) (sv (d:=.int _ 0) rfl) rfl hx10) <|aB ?_)
   refine aT (b:=_) rfl (fun hc11=>?_) (fun hc11=>?_)
   ·
    replace h:=bT h hc11
    obtain ⟨x12,hx12,h⟩:=aY h
    refine dG rfl [⟨[3],[0],[(52,.agg (v0 a0))],[]⟩,
     ⟨[15],[],[(53,.slice false (x8.2.map aQ.d))],[]⟩,
     ⟨[16],[],[(54,.int .i64 x9)],[]⟩,
     ⟨[53,54],[],[(55,.slice false (x12.map aQ.d))],[]⟩,
     ⟨[6,52],[1],[],[(1,.blk 38 (v0 a0))]⟩,
     ⟨[55],[],[(7,.slice false (x12.map aQ.d))],[]⟩,
     ⟨[],[],[(8,.int .u32 1)],[]⟩] rfl ?_ (by kernel_rfl) ?_
    ·refine .cons (lop rfl rfl fun S hA=>(cA (cs:=q8) rfl rfl (lb rfl) Tryz.underlying38 ag38 ti38 (by decide) (svaR hA rfl rfl) (agi hA rfl rfl) (nle rfl) rfl)) ?_
     refine .cons (lop rfl rfl fun S hA=>(aK rfl rfl (lb rfl) (svaL hA rfl rfl))) ?_
     refine .cons (lop rfl rfl fun S hA=>(aK rfl rfl (lb rfl) (svaI hA rfl rfl))) ?_
     refine .cons (lop rfl rfl fun S hA=>(vO aQ rfl rfl (lb rfl) Tryz.underlying57 ti50 (svaL hA rfl rfl) rfl ⟨_,(svaI hA rfl rfl)⟩ hx12)) ?_
     refine .cons (lop rfl rfl fun S hA=>(bQ (ds':=q8) rfl rfl ti38 (svaR hA rfl rfl) (agi hA rfl rfl) (svaA q8 hA rfl rfl) rfl rfl rfl (nle rfl) rfl)) ?_
     refine .cons (lop rfl rfl fun S hA=>(aE rfl rfl (lb rfl) (svaL hA rfl rfl))) ?_
     refine .cons (lop rfl rfl fun S hA=>(aE rfl rfl (lb rfl) (sv (d:=.int _ 1) rfl))) ?_
     exact .nil
    refine aS ?_
    refine aZ ?_
    obtain rfl:=Option.some.inj h
    refine ⟨.inr rfl,(.cons (rva la38 rfl rfl (nle rfl) rfl) (.cons (sv rfl) (.cons (sv rfl) .nil)))⟩
   ·
    replace h:=bU h hc11
    refine aU ?_
    refine aN ?_
    refine aV ?_
    obtain ⟨x13,hx13,h⟩:=aY h
    refine aC (aA rfl (faR 1 rfl rfl rfl Tryz.underlying36 rfl ti34 (lb rfl) rfl rfl) <|aA rfl (aG (d:=.int _ _) rfl rfl (lb rfl) Tryz.underlying34 ag34 ti34 (by decide) (svR rfl) rfl (nle rfl) rfl) <|aA rfl (aW (r:=.agg q25) rfl rfl (lb rfl) cl33 (.cons (svI rfl) .nil) rfl (zE _ _ hx13)) <|aA rfl (bJ (cs:=q25) (cs':=[.int .i64 0,.int .u32 0]) 4 rfl rfl (lb rfl) rfl ti92 rfl rfl (.all _)) <|aA rfl (stA q25 q25 ti92 rfl rfl rfl rfl rfl rfl rfl rfl (nle rfl) rfl) <|aB ?_)
    obtain ⟨x14,hx14,h⟩:=aR h
    refine aC (aA rfl (faR 0 rfl rfl rfl Tryz.underlying92 rfl ti3 (lb rfl) rfl rfl) <|aA rfl (aG (d:=.int _ _) rfl rfl (lb rfl) Tryz.underlying3 ag3 ti3 (by decide) (svR rfl) rfl (nle rfl) rfl) <|aA rfl (aP rfl rfl (lb rfl) (svI rfl) (sv (d:=.int _ 0) rfl) rfl hx14) <|aB ?_)
    refine aT (b:=_) rfl (fun hc15=>?_) (fun hc15=>?_)
    ·
     replace h:=bT h hc15
     refine dG rfl [⟨[3],[0],[(62,.agg (v0 a0))],[]⟩,
      ⟨[15],[],[(63,.slice false (x8.2.map aQ.d))],[]⟩,
      ⟨[17],[],[(64,.ref 4 1)],[]⟩,
      ⟨[64],[4],[(65,.int .u32 x13.Code)],[]⟩,
      ⟨[6,62],[1],[],[(1,.blk 38 (v0 a0))]⟩,
      ⟨[63],[],[(7,.slice false (x8.2.map aQ.d))],[]⟩,
      ⟨[65],[],[(8,.int .u32 x13.Code)],[]⟩] rfl ?_ (by kernel_rfl) ?_
     ·refine .cons (lop rfl rfl fun S hA=>(cA (cs:=q8) rfl rfl (lb rfl) Tryz.underlying38 ag38 ti38 (by decide) (svaR hA rfl rfl) (agi hA rfl rfl) (nle rfl) rfl)) ?_
      refine .cons (lop rfl rfl fun S hA=>(aK rfl rfl (lb rfl) (svaL hA rfl rfl))) ?_
      refine .cons (lop rfl rfl fun S hA=>(aO rfl rfl (lb rfl) Tryz.underlying92 rfl ti59 (by decide) (svaR hA rfl rfl) (off':=1) rfl)) ?_
      refine .cons (lop rfl rfl fun S hA=>(aG (d:=.int _ _) rfl rfl (lb rfl) Tryz.underlying59 ag59 ti59 (by decide) (svaR hA rfl rfl) (agi hA rfl rfl) (nle rfl) rfl)) ?_
      refine .cons (lop rfl rfl fun S hA=>(bQ (ds':=q8) rfl rfl ti38 (svaR hA rfl rfl) (agi hA rfl rfl) (svaA q8 hA rfl rfl) rfl rfl rfl (nle rfl) rfl)) ?_
      refine .cons (lop rfl rfl fun S hA=>(aE rfl rfl (lb rfl) (svaL hA rfl rfl))) ?_
      refine .cons (lop rfl rfl fun S hA=>(aE rfl rfl (lb rfl) (svaI hA rfl rfl))) ?_
      exact .nil
     refine aS ?_
     refine aZ ?_
     obtain rfl:=Option.some.inj h
     refine ⟨.inr rfl,(.cons (rva la38 rfl rfl (nle rfl) rfl) (.cons (sv rfl) (.cons (sv rfl) .nil)))⟩
    ·
     replace h:=bU h hc15
     refine aU ?_
     refine aN ?_
     refine dG rfl [⟨[9],[2],[(66,.agg (v4 x7.1))],[]⟩,
      ⟨[14],[3],[(67,.agg (v7 x8.1))],[]⟩,
      ⟨[3],[],[(68,.ref 0 9)],[]⟩,
      ⟨[66,68],[0],[],[(0,.blk 38 (w36 a0.Send.Base a0.Send.Data a0.Send.Next a0.Send.Pieces a0.Send.Lost a0.Send.Closed a0.Send.Sent a0.Send.Again a0.Send.Done x7.1.Recv.Base x7.1.Recv.Ready x7.1.Recv.Parts x7.1.End a0.In.Buf a0.In.Bad a0.In.Seen))]⟩,
      ⟨[3],[],[(69,.ref 0 13)],[]⟩,
      ⟨[67,69],[0],[],[(0,.blk 38 (w36 a0.Send.Base a0.Send.Data a0.Send.Next a0.Send.Pieces a0.Send.Lost a0.Send.Closed a0.Send.Sent a0.Send.Again a0.Send.Done x7.1.Recv.Base x7.1.Recv.Ready x7.1.Recv.Parts x7.1.End x8.1.Buf x8.1.Bad x8.1.Seen))]⟩] rfl ?_ (by kernel_rfl) ?_
     ·refine .cons (lop rfl rfl fun S hA=>(cA (cs:=q16) rfl rfl (lb rfl) Tryz.underlying33 ag33 ti33 (by decide) (svaR hA rfl rfl) (agi hA rfl rfl) (nle rfl) rfl)) ?_
      refine .cons (lop rfl rfl fun S hA=>(cA (cs:=q22) rfl rfl (lb rfl) Tryz.underlying36 ag36 ti36 (by decide) (svaR hA rfl rfl) (agi hA rfl rfl) (nle rfl) rfl)) ?_
      refine .cons (lop rfl rfl fun S hA=>(aO rfl rfl (lb rfl) Tryz.underlying38 rfl ti33 (by decide) (svaR hA rfl rfl) (off':=9) rfl)) ?_
      refine .cons (lop rfl rfl fun S hA=>(bQ (ds':=q8) rfl rfl ti33 (svaR hA rfl rfl) (agi hA rfl rfl) (svaA q16 hA rfl rfl) rfl rfl rfl (nle rfl) rfl)) ?_
      refine .cons (lop rfl rfl fun S hA=>(aO rfl rfl (lb rfl) Tryz.underlying38 rfl ti36 (by decide) (svaR hA rfl rfl) (off':=13) rfl)) ?_
      refine .cons (lop rfl rfl fun S hA=>(bQ (ds':=q8) rfl rfl ti36 (svaR hA rfl rfl) (agi hA rfl rfl) (svaA q22 hA rfl rfl) rfl rfl rfl (nle rfl) rfl)) ?_
      exact .nil
     refine aC (aA rfl (lra q8 la38 rfl rfl rfl rfl rfl (nle rfl) rfl) <|aA rfl (mvL rfl rfl rfl rfl) <|aA rfl (stA q8 q8 ti38 rfl rfl rfl rfl rfl rfl rfl rfl (nle rfl) rfl) <|aA rfl (aE rfl rfl (lb rfl) (svL rfl)) <|aA rfl (aE rfl rfl (lb rfl) (sv (d:=.int _ 0) rfl)) <|aB ?_)
     refine aS ?_
     obtain rfl:=Option.some.inj h
     refine ⟨.inr rfl,(.cons (rva la38 rfl rfl (nle rfl) rfl) (.cons (sv rfl) (.cons (sv rfl) .nil)))⟩

theorem pU (a0 : aM) (a1 : Int) (r : Bool) (h : nO a0 a1 = some r) : cD Tryz.prog 67 [.agg (v6 a0),.fptr [.int .i64 a1]] (.bool r):=by
 refine bA (rs:=[.bool r]) Tryz.func67 rfl Tryz.ntmps67 (nle rfl) rfl fun O hO=>?_
 show IWP _ _ _ _ ⟨[(0,.agg (v6 a0)),(1,.fptr [.int .i64 a1])],[]⟩ _
 unfold nO at h
 refine aC (aA rfl (bR (cs:=q17) 0 rfl rfl (lb rfl) rfl (svA q17 rfl) rfl rfl) <|aA rfl (aE rfl rfl (lb rfl) (sv (d:=.bool false) rfl)) <|aB ?_)
 obtain ⟨x1,hx1,h⟩:=aR h
 refine aC (aA rfl (faR 2 rfl rfl rfl Tryz.underlying52 rfl ti3 (lb rfl) rfl rfl) <|aA rfl (aG (d:=.int _ _) rfl rfl (lb rfl) Tryz.underlying3 ag3 ti3 (by decide) (svR rfl) rfl (nle rfl) rfl) <|aA rfl (eT rfl rfl (lb rfl) Tryz.underlying3 ag3 ti3 (by decide) (sv (d:=.fptr [.int _ _]) rfl) (nle rfl)) <|aA rfl (aP rfl rfl (lb rfl) (svI rfl) (svI rfl) rfl hx1) <|aA rfl (asB rfl rfl rfl rfl) <|aB ?_)
 refine aS ?_
 obtain rfl:=Option.some.inj h
 refine ⟨.inr rfl,(.cons (sv rfl) .nil)⟩

theorem mG (a0 : aI) (a1 : (List aI)) (r : (List aI)) (h : kI a0 a1 = some r) : FnH Tryz.prog 106 [.osl 1000 aJ.sz a1.length,.agg [.int .i64 a0.From,.int .i64 a0.To]] [(1000,.blk 116 (D.flat (a1.map aJ.d)))] (.osl 0 aJ.sz r.length) [(0,.blk 116 (D.flat (r.map aJ.d)))]:=by
 refine eU (rs:=[.osl 0 aJ.sz r.length]) Tryz.func106 rfl Tryz.ntmps106 (nle rfl) fun O hO=>?_
 show IWP _ _ _ _ ⟨[(0,.osl 1000 aJ.sz a1.length),(1,.agg [.int .i64 a0.From,.int .i64 a0.To])],[(1000,.blk 116 (D.flat (a1.map aJ.d)))]⟩ _
 unfold kI at h
 refine aC (aA rfl (bR (cs:=q25) 0 rfl rfl (lb rfl) rfl (svA q25 rfl) rfl rfl) <|aA rfl (aE rfl rfl (lb rfl) (sv (d:=.nils) rfl)) <|aB ?_)
 refine aV ?_
 obtain ⟨x1,hx1,h⟩:=aY h
 refine aC (aA rfl (lra q25 pW rfl rfl rfl rfl rfl (nle rfl) rfl) <|aA rfl (aW (r:=.bool _) rfl rfl (lb rfl) cl89 (.cons (svA q25 rfl) .nil) rfl (gT _ _ hx1)) <|aB ?_)
 refine aT (b:=_) rfl (fun hc2=>?_) (fun hc2=>?_)
 ·
  replace h:=bT h hc2
  refine aC (aA rfl (aK rfl rfl (lb rfl) (sv (d:=.osl _ _ _) rfl)) <|aA rfl (aE rfl rfl (lb rfl) (sv (d:=.osl _ _ _) rfl)) <|aB ?_)
  refine aS ?_
  refine aZ ?_
  obtain rfl:=Option.some.inj h
  refine ⟨.inr rfl,(fun i=>if i = 0 then 1000 else i),⟨.nil,(.cons (EntW.lst rfl) .nil),bX [1000] rfl (by decide),(fun i hi=>by first | rfl | (show (if _ then _ else _) = _; (repeat' split) <;> omega))⟩,(.cons (sv rfl) .nil),rfl⟩
 ·
  replace h:=bU h hc2
  refine aU ?_
  refine aN ?_
  refine aV ?_
  refine aC (aA rfl (aK rfl rfl (lb rfl) (sv (d:=.osl _ _ _) rfl)) <|aA rfl (oH rfl rfl (lb rfl) Tryz.underlying26 (sv (d:=.osl _ _ _) rfl)) <|aA rfl (asI rfl rfl rfl rfl) <|aB ?_)
  obtain ⟨x3,hx3,h⟩:=aR h
  obtain ⟨x4,hx4,h⟩:=aR h
  obtain ⟨x5,hx5,h⟩:=aY h
  obtain ⟨x6,hx6,h⟩:=aY h
  obtain ⟨x7,hx7,h⟩:=aR h
  obtain ⟨x8,hx8,h⟩:=aR h
  refine dG rfl [⟨[5],[],[(11,.int .i64 (a1.length : Int))],[]⟩,
   ⟨[11],[],[(12,.bool x3)],[]⟩,
   ⟨[12],[],[(13,.bool x3)],[]⟩,
   ⟨[0,13],[],[(14,.cnd (x3 == true) (.osl 1000 aJ.sz a1.length))],[]⟩,
   ⟨[5,13],[],[(15,.cnd (x3 == true) (.int .i64 (a1.length : Int)))],[]⟩,
   ⟨[13,15],[],[(16,.cnd (x3 == true) (.int .i64 x4))],[]⟩,
   ⟨[13,14,16],[],[(17,.cnd (x3 == true) (.ref 1000 (((x4 : Int).toNat) * aJ.sz + 0)))],[]⟩,
   ⟨[13,17],[],[(18,.cnd (x3 == true) (.ref 1000 (((x4 : Int).toNat) * aJ.sz + 1)))],[]⟩,
   ⟨[13,18],[1000],[(19,.cnd (x3 == true) (.int .i64 x6.To))],[]⟩,
   ⟨[3,13],[],[(20,.cnd (x3 == true) (.ref 0 0))],[]⟩,
   ⟨[13,20],[0],[(21,.cnd (x3 == true) (.int .i64 a0.From))],[]⟩,
   ⟨[13,19,21],[],[(22,.cnd (x3 == true) (.bool x7))],[]⟩,
   ⟨[13,22],[],[(23,.bool x8)],[]⟩] rfl ?_ (by kernel_rfl) ?_
  ·refine .cons (lop rfl rfl fun S hA=>(aK rfl rfl (lb rfl) (svaI hA rfl rfl))) ?_
   refine .cons (lop rfl rfl fun S hA=>(aP rfl rfl (lb rfl) (svaI hA rfl rfl) (sv (d:=.int _ 0) rfl) rfl hx3)) ?_
   refine .cons (lop rfl rfl fun S hA=>(aK rfl rfl (lb rfl) (svaB hA rfl rfl))) ?_
   refine .cons (lopg rfl rfl rfl rfl (by decide) (fun S hA=>grd1 hA rfl rfl) (fun S hA hb=>(aK rfl rfl (lb rfl) (sv (d:=.osl _ _ _) (agr hA rfl rfl))))) ?_
   refine .cons (lopg rfl rfl rfl rfl (by decide) (fun S hA=>grd1 hA rfl rfl) (fun S hA hb=>(aK rfl rfl (lb rfl) (svaI hA rfl rfl)))) ?_
   refine .cons (lopg rfl rfl rfl rfl (by decide) (fun S hA=>grd1 hA rfl rfl) (fun S hA hb=>(bL rfl rfl (lb rfl) (svc (d:=.int _ _) (agr hA rfl rfl) hb) (sv (d:=.int _ 1) rfl) rfl hx4))) ?_
   refine .cons (lopg rfl rfl rfl rfl (by decide) (fun S hA=>grd1 hA rfl rfl) (fun S hA hb=>(jN aJ.toEnc0 rfl rfl (lb rfl) Tryz.underlying26 fS (svc (d:=.osl _ _ _) (agr hA rfl rfl) hb) rfl (svc (d:=.int _ _) (agr hA rfl rfl) hb) (gd_t hx5 hb)))) ?_
   refine .cons (lopg rfl rfl rfl rfl (by decide) (fun S hA=>grd1 hA rfl rfl) (fun S hA hb=>(jO rfl rfl (lb rfl) Tryz.underlying116 rfl ti3 (by decide) (svc (d:=.ref _ _) (agr hA rfl rfl) hb) (k':=1) rfl))) ?_
   refine .cons (lopg rfl rfl rfl rfl (by decide) (fun S hA=>grd1 hA rfl rfl) (fun S hA hb=>(kR aJ.toEnc0 (d:=.int _ _) rfl rfl (lb rfl) Tryz.underlying3 ag3 ti3 (by decide) (svc (d:=.ref _ _) (agr hA rfl rfl) hb) (agi hA rfl rfl) (gd_t hx6 hb) (nle rfl) rfl))) ?_
   refine .cons (lopg rfl rfl rfl rfl (by decide) (fun S hA=>grd1 hA rfl rfl) (fun S hA hb=>(aO rfl rfl (lb rfl) Tryz.underlying116 rfl ti3 (by decide) (svaR hA rfl rfl) (off':=0) rfl))) ?_
   refine .cons (lopg rfl rfl rfl rfl (by decide) (fun S hA=>grd1 hA rfl rfl) (fun S hA hb=>(aG (d:=.int _ _) rfl rfl (lb rfl) Tryz.underlying3 ag3 ti3 (by decide) (svc (d:=.ref _ _) (agr hA rfl rfl) hb) (agi hA rfl rfl) (nle rfl) rfl))) ?_
   refine .cons (lopg rfl rfl rfl rfl (by decide) (fun S hA=>grd1 hA rfl rfl) (fun S hA hb=>(aP rfl rfl (lb rfl) (svc (d:=.int _ _) (agr hA rfl rfl) hb) (svc (d:=.int _ _) (agr hA rfl rfl) hb) rfl hx7))) ?_
   refine .cons (lop rfl rfl fun S hA=>(bO rfl rfl (lb rfl) (svaB hA rfl rfl) (agr hA rfl rfl) rfl hx8)) ?_
   exact .nil
  refine aT (b:=_) rfl (fun hc9=>?_) (fun hc9=>?_)
  ·
   replace h:=bT h hc9
   obtain ⟨x10,hx10,h⟩:=aR h
   obtain ⟨x11,hx11,h⟩:=aR h
   obtain ⟨x12,hx12,h⟩:=aY h
   obtain ⟨x13,hx13,h⟩:=aY h
   obtain ⟨x14,hx14,h⟩:=aR h
   obtain ⟨x15,hx15,h⟩:=aY h
   obtain ⟨x16,hx16,h⟩:=aY h
   obtain ⟨x17,hx17,h⟩:=aR h
   refine dG rfl [⟨[0],[],[(24,.osl 1000 aJ.sz a1.length)],[]⟩,
    ⟨[5],[],[(25,.int .i64 (a1.length : Int))],[]⟩,
    ⟨[25],[],[(26,.int .i64 x10)],[]⟩,
    ⟨[0],[],[(27,.osl 1000 aJ.sz a1.length)],[]⟩,
    ⟨[5],[],[(28,.int .i64 (a1.length : Int))],[]⟩,
    ⟨[28],[],[(29,.int .i64 x11)],[]⟩,
    ⟨[27,29],[],[(30,.ref 1000 (((x11 : Int).toNat) * aJ.sz + 0))],[]⟩,
    ⟨[30],[],[(31,.ref 1000 (((x11 : Int).toNat) * aJ.sz + 1))],[]⟩,
    ⟨[31],[1000],[(32,.int .i64 x13.To)],[]⟩,
    ⟨[3],[],[(33,.ref 0 1)],[]⟩,
    ⟨[33],[0],[(34,.int .i64 a0.To)],[]⟩,
    ⟨[32,34],[],[(35,.int .i64 x14)],[]⟩,
    ⟨[24,26],[],[(36,.ref 1000 (((x10 : Int).toNat) * aJ.sz + 0))],[]⟩,
    ⟨[36],[],[(37,.ref 1000 (((x10 : Int).toNat) * aJ.sz + 1))],[]⟩,
    ⟨[35,37],[1000],[],[(1000,.blk 116 (D.flat (x17.map aJ.d)))]⟩] rfl ?_ (by kernel_rfl) ?_
   ·refine .cons (lop rfl rfl fun S hA=>(aK rfl rfl (lb rfl) (sv (d:=.osl _ _ _) (agr hA rfl rfl)))) ?_
    refine .cons (lop rfl rfl fun S hA=>(aK rfl rfl (lb rfl) (svaI hA rfl rfl))) ?_
    refine .cons (lop rfl rfl fun S hA=>(bL rfl rfl (lb rfl) (svaI hA rfl rfl) (sv (d:=.int _ 1) rfl) rfl hx10)) ?_
    refine .cons (lop rfl rfl fun S hA=>(aK rfl rfl (lb rfl) (sv (d:=.osl _ _ _) (agr hA rfl rfl)))) ?_
    refine .cons (lop rfl rfl fun S hA=>(aK rfl rfl (lb rfl) (svaI hA rfl rfl))) ?_
    refine .cons (lop rfl rfl fun S hA=>(bL rfl rfl (lb rfl) (svaI hA rfl rfl) (sv (d:=.int _ 1) rfl) rfl hx11)) ?_
    refine .cons (lop rfl rfl fun S hA=>(jN aJ.toEnc0 rfl rfl (lb rfl) Tryz.underlying26 fS (sv (d:=.osl _ _ _) (agr hA rfl rfl)) rfl (svaI hA rfl rfl) hx12)) ?_
    refine .cons (lop rfl rfl fun S hA=>(jO rfl rfl (lb rfl) Tryz.underlying116 rfl ti3 (by decide) (svaR hA rfl rfl) (k':=1) rfl)) ?_
    refine .cons (lop rfl rfl fun S hA=>(kR aJ.toEnc0 (d:=.int _ _) rfl rfl (lb rfl) Tryz.underlying3 ag3 ti3 (by decide) (svaR hA rfl rfl) (agi hA rfl rfl) hx13 (nle rfl) rfl)) ?_
    refine .cons (lop rfl rfl fun S hA=>(aO rfl rfl (lb rfl) Tryz.underlying116 rfl ti3 (by decide) (svaR hA rfl rfl) (off':=1) rfl)) ?_
    refine .cons (lop rfl rfl fun S hA=>(aG (d:=.int _ _) rfl rfl (lb rfl) Tryz.underlying3 ag3 ti3 (by decide) (svaR hA rfl rfl) (agi hA rfl rfl) (nle rfl) rfl)) ?_
    refine .cons (lop rfl rfl fun S hA=>(pZ rfl rfl (lb rfl) (svaI hA rfl rfl) (svaI hA rfl rfl) hx14)) ?_
    refine .cons (lop rfl rfl fun S hA=>(jN aJ.toEnc0 rfl rfl (lb rfl) Tryz.underlying26 fS (sv (d:=.osl _ _ _) (agr hA rfl rfl)) rfl (svaI hA rfl rfl) hx15)) ?_
    refine .cons (lop rfl rfl fun S hA=>(jO rfl rfl (lb rfl) Tryz.underlying116 rfl ti3 (by decide) (svaR hA rfl rfl) (k':=1) rfl)) ?_
    refine .cons (lop rfl rfl fun S hA=>(lJ aJ.toEnc0 (a':=(⟨x16.From,x14⟩ : aI)) rfl rfl ti3 (svaR hA rfl rfl) (agi hA rfl rfl) (svaI hA rfl rfl) rfl rfl rfl hx16 (nle rfl) rfl hx17)) ?_
    exact .nil
   refine aC (aA rfl (aK rfl rfl (lb rfl) (sv (d:=.osl _ _ _) rfl)) <|aA rfl (aE rfl rfl (lb rfl) (sv (d:=.osl _ _ _) rfl)) <|aB ?_)
   refine aS ?_
   refine aZ ?_
   obtain rfl:=Option.some.inj h
   refine ⟨.inr rfl,(fun i=>if i = 0 then 1000 else i),⟨.nil,(.cons (EntW.lst rfl) .nil),bX [1000] rfl (by decide),(fun i hi=>by first | rfl | (show (if _ then _ else _) = _; (repeat' split) <;> omega))⟩,(.cons (sv (congrArg (D.osl _ _) (rB hx17 rfl).symm)) .nil),rfl⟩
  ·
   replace h:=bU h hc9
   refine aU ?_
   refine aN ?_
   obtain ⟨x18,hx18,h⟩:=aY h
   refine aC (aA rfl (aK rfl rfl (lb rfl) (sv (d:=.osl _ _ _) rfl)) <|aA rfl (lra q25 pW rfl rfl rfl rfl rfl (nle rfl) rfl) <|aA rfl (jP aJ.toEnc0 ([(⟨a0.From,a0.To⟩ : aI)] : (List aI)) 1 rfl rfl (lb rfl) Tryz.underlying26 fS rfl (.cons (svA q25 rfl) .nil) rfl rfl (by decide)) <|aA rfl (kS aJ.toEnc0 2 rfl rfl (lb rfl) Tryz.underlying26 fS rfl rfl rfl rfl rfl (qK aJ.toEnc0 rfl rfl rfl) hx18) <|aA rfl (aE rfl rfl (lb rfl) (sv (d:=.osl _ _ _) rfl)) <|aB ?_)
   refine aS ?_
   obtain rfl:=Option.some.inj h
   refine ⟨.inr rfl,(fun i=>if i = 0 then 2 else i),⟨.nil,(.cons (EntW.lst rfl) .nil),bX [2] rfl (by decide),(fun i hi=>by first | rfl | (show (if _ then _ else _) = _; (repeat' split) <;> omega))⟩,(.cons (sv rfl) .nil),rfl⟩

theorem aBW (a0 : (List aI)) (a1 : aI) (r : (List aI)) (h : wV a0 a1 = some r) : cD Tryz.prog 68 [.slice false (a0.map aJ.d),.agg [.int .i64 a1.From,.int .i64 a1.To]] (.slice false (r.map aJ.d)):=by
 refine iM (rs:=[.slice false (r.map aJ.d)]) Tryz.func68 rfl Tryz.ntmps68 (nle rfl) rfl fun O hO=>?_
 show IWP _ _ _ _ ⟨[(0,.slice false (a0.map aJ.d)),(1,.agg [.int .i64 a1.From,.int .i64 a1.To])],[]⟩ _
 unfold wV at h
 refine aC (aA rfl (bR (cs:=q25) 0 rfl rfl (lb rfl) rfl (svA q25 rfl) rfl rfl) <|aA rfl (aE rfl rfl (lb rfl) (sv (d:=.nils) rfl)) <|aB ?_)
 refine aV ?_
 obtain ⟨x1,hx1,h⟩:=aY h
 obtain ⟨x2,hx2,h⟩:=aY h
 obtain ⟨x3,hx3,h⟩:=aR h
 obtain ⟨x4,hx4,h⟩:=aY h
 obtain ⟨x5,hx5,h⟩:=aR h
 obtain ⟨x6,hx6,h⟩:=aR h
 refine aC (aA rfl (lra q25 pW rfl rfl rfl rfl rfl (nle rfl) rfl) <|aA rfl (aW (r:=.bool _) rfl rfl (lb rfl) cl88 (.cons (svA q25 rfl) .nil) rfl (lA _ _ hx1)) <|aA rfl (dD rfl rfl (lb rfl) (svB rfl)) <|aA rfl (mvB rfl rfl rfl rfl) <|aF rfl rfl (.one rfl) rfl (by decide) (fun hb=>(lra q25 pW rfl rfl rfl rfl rfl (nle rfl) rfl)) <|aF rfl rfl (.one rfl) rfl (by decide) (fun hb=>(aW (r:=.bool _) rfl rfl (lb rfl) cl89 (.cons (svc (d:=.agg [.int .i64 a1.From,.int .i64 a1.To]) rfl hb) .nil) rfl (gT _ _ (gd_t hx2 hb)))) <|aA rfl (dM rfl rfl (lb rfl) (svB rfl) rfl rfl hx3) <|aA rfl (mvB rfl rfl rfl rfl) <|aF rfl rfl (.one rfl) rfl (by decide) (fun hb=>(mvL rfl rfl rfl rfl)) <|aF rfl rfl (.one rfl) rfl (by decide) (fun hb=>(aW (r:=.int _ _) rfl rfl (lb rfl) cl90 (.cons (svcL rfl hb) .nil) rfl (nH _ _ (gd_t hx4 hb)))) <|aF rfl rfl (.one rfl) rfl (by decide) (fun hb=>(aP rfl rfl (lb rfl) (svcI rfl hb) (sv (d:=.int _ 0) rfl) rfl hx5)) <|aA rfl (dM rfl rfl (lb rfl) (svB rfl) rfl rfl hx6) <|aB ?_)
 refine aT (b:=_) rfl (fun hc7=>?_) (fun hc7=>?_)
 ·
  replace h:=bT h hc7
  obtain ⟨x8,hx8,h⟩:=aY h
  refine aC (aA rfl (mvL rfl rfl rfl rfl) <|aA rfl (dU (r':=.osl 1 aJ.sz x8.length) (H1':=[(1,.blk 116 (D.flat (x8.map aJ.d)))]) 1 [] rfl rfl (lb rfl) cl87 (.cons (svL rfl) .nil) rfl rfl ⟨rfl,rfl,by decide,rfl,List.forall_mem_nil _⟩ (gI _ _ hx8) rfl rfl (List.forall_mem_cons.2 ⟨⟨rfl,(jT aJ)⟩,List.forall_mem_nil _⟩) (by simp only [List.map_cons,List.map_nil,Ent.ren,eS,fH]; rfl)) <|aA rfl (aE rfl rfl (lb rfl) (sv (d:=.osl _ _ _) rfl)) <|aB ?_)
  refine aS ?_
  refine aZ ?_
  obtain rfl:=Option.some.inj h
  refine ⟨.inr rfl,_,(.cons (sv rfl) .nil),(.cons (FDT aJ rfl rfl) .nil)⟩
 ·
  replace h:=bU h hc7
  refine aU ?_
  refine aN ?_
  refine aC (aA rfl (aE rfl rfl (lb rfl) (sv (d:=.nils) rfl)) <|aB ?_)
  refine aC (aA rfl (aE rfl rfl (lb rfl) (sv (d:=.bool false) rfl)) <|aB ?_)
  refine aV ?_
  refine aC (aA rfl (mvL rfl rfl rfl rfl) <|aA rfl (cJ aJ (l:=a0) rfl rfl (lb rfl) Tryz.underlying26 (svL rfl)) <|aA rfl (aK rfl rfl (lb rfl) (sv (d:=.int _ 0) rfl)) <|aB ?_)
  refine bG ?_
  refine cW (α:=Nat × (List aI) × Bool × Int) (fun z=>⟨[(3,.ref 0 0),(5,.osl 22 aJ.sz z.2.1.length),(6,.bool z.2.2.1),(23,.slice false (a0.map aJ.d)),(24,.int .i64 (a0.length : Int)),(25,.int .i64 z.2.2.2)],[(0,.blk 116 [.int .i64 a1.From,.int .i64 a1.To]),(22,.blk 116 (D.flat (z.2.1.map aJ.d)))]⟩) (fun z=>kK a0 a1 z.1 z.2.1 z.2.2.1 z.2.2.2 = some r) (fun z=>z.1) (fuel,([] : (List aI)),false,0) (fun i=>if i = 22 then 73 else i) ⟨(.s rfl rfl (.cons (.nilo rfl) (.sames rfl rfl))),(.cons (.blk rfl rfl rfl) (.cons (.nilb rfl) .nil)),bX [0,73] rfl (by decide),(fun i hi=>by first | rfl | (show (if _ then _ else _) = _; (repeat' split) <;> omega))⟩ ?_ ?_
  ·exact h
  ·
   rintro ⟨n0,v24,v25,v26⟩ h
   cases n0 with
   | zero=>exact absurd h (by unfold kK; exact nofun)
   | succ n0 =>
    unfold kK at h
    obtain ⟨x42,hx42,h⟩:=aR h
    refine aC (aA rfl (aP rfl rfl (lb rfl) (svI rfl) (svI rfl) rfl hx42) <|aB ?_)
    refine aV ?_
    refine aT (b:=_) rfl (fun hc43=>?_) (fun hc43=>?_)
    ·
     replace h:=bT h hc43
     refine aU ?_
     refine aN ?_
     refine aV ?_
     refine bG ?_
     obtain ⟨x44,hx44,h⟩:=aY h
     refine aC (aA rfl (cY aJ (cs:=q25) rfl rfl (lb rfl) Tryz.underlying26 fS (svL rfl) (svI rfl) hx44 rfl rfl) <|aA rfl (cQ (cs:=q25) rfl rfl (lb rfl) Tryz.underlying116 xS fS (by decide) (sv (d:=.fptr q25) rfl) (nle rfl) rfl) <|aA rfl (bJ (cs:=q25) (cs':=[.int .i64 0,.int .i64 0]) 23 rfl rfl (lb rfl) rfl fS rfl rfl (.all _)) <|aA rfl (stA q25 q25 fS rfl rfl rfl rfl rfl rfl rfl rfl (nle rfl) rfl) <|aB ?_)
     refine gK (α:=(List aI) × Bool) (fun z=>⟨[(3,.ref 0 0),(5,.osl 24 aJ.sz z.1.length),(6,.bool z.2),(23,.slice false (a0.map aJ.d)),(24,.int .i64 (a0.length : Int)),(25,.int .i64 v26),(8,.ref 23 0)],[(0,.blk 116 [.int .i64 a1.From,.int .i64 a1.To]),(24,.blk 116 (D.flat (z.1.map aJ.d))),(23,.blk 116 [.int .i64 x44.From,.int .i64 x44.To])]⟩) (fun z=>oG v26 (kK a0 a1 n0) x44 z.1 z.2 = some r) ?_ ?_
     ·
      obtain ⟨x53,hx53,h⟩:=aR h
      obtain ⟨x54,hx54,h⟩:=aR h
      refine aC (aA rfl (mvB rfl rfl rfl rfl) <|aA rfl (dD rfl rfl (lb rfl) (svB rfl)) <|aA rfl (mvB rfl rfl rfl rfl) <|aF rfl rfl (.one rfl) rfl (by decide) (fun hb=>(faR 0 rfl rfl rfl Tryz.underlying116 rfl ti3 (lb rfl) rfl rfl)) <|aF rfl rfl (.one rfl) rfl (by decide) (fun hb=>(aG (d:=.int _ _) rfl rfl (lb rfl) Tryz.underlying3 ag3 ti3 (by decide) (svcR rfl hb) rfl (nle rfl) rfl)) <|aF rfl rfl (.one rfl) rfl (by decide) (fun hb=>(faR 0 rfl rfl rfl Tryz.underlying116 rfl ti3 (lb rfl) rfl rfl)) <|aF rfl rfl (.one rfl) rfl (by decide) (fun hb=>(aG (d:=.int _ _) rfl rfl (lb rfl) Tryz.underlying3 ag3 ti3 (by decide) (svcR rfl hb) rfl (nle rfl) rfl)) <|aF rfl rfl (.one rfl) rfl (by decide) (fun hb=>(aP rfl rfl (lb rfl) (svcI rfl hb) (svcI rfl hb) rfl hx53)) <|aA rfl (bO rfl rfl (lb rfl) (svB rfl) rfl rfl hx54) <|aB ?_)
      refine aT (b:=_) rfl (fun hc55=>?_) (fun hc55=>?_)
      ·
       replace h:=bT h hc55
       obtain ⟨x56,hx56,h⟩:=aY h
       refine aC (aA rfl (aK rfl rfl (lb rfl) (sv (d:=.osl _ _ _) rfl)) <|aA rfl (lra q25 pW rfl rfl rfl rfl rfl (nle rfl) rfl) <|aA rfl (dU (r':=.osl 24 aJ.sz x56.length) (H1':=[(24,.blk 116 (D.flat (x56.map aJ.d)))]) 24 [22] rfl rfl (lb rfl) cl106 (.cons (sv (d:=.osl _ _ _) rfl) (.cons (svA q25 rfl) .nil)) rfl rfl ⟨rfl,rfl,by decide,rfl,List.forall_mem_cons.2 ⟨⟨rfl,rfl,(aBd aJ rfl),(jT aJ)⟩,List.forall_mem_nil _⟩⟩ (mG _ _ _ hx56) rfl rfl (List.forall_mem_cons.2 ⟨⟨rfl,(jT aJ)⟩,List.forall_mem_nil _⟩) (by simp only [List.map_cons,List.map_nil,Ent.ren,eS,fH]; rfl)) <|aA rfl (aE rfl rfl (lb rfl) (sv (d:=.osl _ _ _) rfl)) <|aB ?_)
       refine bD (aA rfl (aE rfl rfl (lb rfl) (sv (d:=.bool true) rfl)) <|bW ?_)
       refine aN ⟨(x56,true),(fun i=>i),⟨(.sames rfl rfl),(.cons (.blk rfl rfl rfl) (.cons (EntW.lst rfl) (.cons (.blk rfl rfl rfl) .nil))),bX [0,24,23] rfl (by decide),fun _ _=>rfl⟩,?_⟩
       exact h
      ·
       replace h:=bU h hc55
       refine aU ?_
       refine aN ⟨(v24,v25),(fun i=>if i = 24 then 22 else i),⟨(.sames rfl rfl),(.cons (.blk rfl rfl rfl) (.cons (EntW.lst rfl) (.cons (.blk rfl rfl rfl) .nil))),bX [0,22,23] rfl (by decide),(fun i hi=>by first | rfl | (show (if _ then _ else _) = _; (repeat' split) <;> omega))⟩,?_⟩
       exact h
     ·
      rintro ⟨v49,v50⟩ h
      unfold oG at h
      obtain ⟨x51,hx51,h⟩:=aY h
      refine bD (aA rfl (aK rfl rfl (lb rfl) (sv (d:=.osl _ _ _) rfl)) <|aA rfl (lra q25 pW rfl rfl rfl rfl rfl (nle rfl) rfl) <|aA rfl (dU (r':=.osl 25 aJ.sz x51.length) (H1':=[(25,.blk 116 (D.flat (x51.map aJ.d)))]) 25 [24] rfl rfl (lb rfl) cl106 (.cons (sv (d:=.osl _ _ _) rfl) (.cons (svA q25 rfl) .nil)) rfl rfl ⟨rfl,rfl,by decide,rfl,List.forall_mem_cons.2 ⟨⟨rfl,rfl,(aBd aJ rfl),(jT aJ)⟩,List.forall_mem_nil _⟩⟩ (mG _ _ _ hx51) rfl rfl (List.forall_mem_cons.2 ⟨⟨rfl,(jT aJ)⟩,List.forall_mem_nil _⟩) (by simp only [List.map_cons,List.map_nil,Ent.ren,eS,fH]; rfl)) <|aA rfl (aE rfl rfl (lb rfl) (sv (d:=.osl _ _ _) rfl)) <|bW ?_)
      refine bZ ?_
      refine aN ?_
      obtain ⟨x52,hx52,h⟩:=aR h
      refine bD (aA rfl (bL rfl rfl (lb rfl) (svI rfl) (sv (d:=.int _ 1) rfl) rfl hx52) <|aA rfl (mvI rfl rfl rfl rfl) <|bW ?_)
      refine aN ⟨(n0,x51,v50,x52),(fun i=>if i = 22 then 25 else i),⟨(.sames rfl rfl),(.cons (.blk rfl rfl rfl) (.cons (EntW.lst rfl) .nil)),bX [0,25] rfl (by decide),(fun i hi=>by first | rfl | (show (if _ then _ else _) = _; (repeat' split) <;> omega))⟩,?_,?_⟩
      exact h
      exact Nat.lt_succ_self _
    ·
     replace h:=bU h hc43
     refine cN ?_
     refine bI ?_
     refine bI ?_
     refine cO ?_
     refine aN ?_
     refine aV ?_
     refine aC (aA rfl (mvB rfl rfl rfl rfl) <|aA rfl (dD rfl rfl (lb rfl) (svB rfl)) <|aB ?_)
     refine aT (b:=_) rfl (fun hc57=>?_) (fun hc57=>?_)
     ·
      replace h:=bT h hc57
      obtain ⟨x58,hx58,h⟩:=aY h
      refine bD (aA rfl (aK rfl rfl (lb rfl) (sv (d:=.osl _ _ _) rfl)) <|aA rfl (lra q25 pW rfl rfl rfl rfl rfl (nle rfl) rfl) <|aA rfl (dU (r':=.osl 23 aJ.sz x58.length) (H1':=[(23,.blk 116 (D.flat (x58.map aJ.d)))]) 23 [22] rfl rfl (lb rfl) cl106 (.cons (sv (d:=.osl _ _ _) rfl) (.cons (svA q25 rfl) .nil)) rfl rfl ⟨rfl,rfl,by decide,rfl,List.forall_mem_cons.2 ⟨⟨rfl,rfl,(aBd aJ rfl),(jT aJ)⟩,List.forall_mem_nil _⟩⟩ (mG _ _ _ hx58) rfl rfl (List.forall_mem_cons.2 ⟨⟨rfl,(jT aJ)⟩,List.forall_mem_nil _⟩) (by simp only [List.map_cons,List.map_nil,Ent.ren,eS,fH]; rfl)) <|aA rfl (aE rfl rfl (lb rfl) (sv (d:=.osl _ _ _) rfl)) <|bW ?_)
      refine aN ?_
      refine aC (aA rfl (aK rfl rfl (lb rfl) (sv (d:=.osl _ _ _) rfl)) <|aA rfl (aE rfl rfl (lb rfl) (sv (d:=.osl _ _ _) rfl)) <|aB ?_)
      refine aS ?_
      obtain rfl:=Option.some.inj h
      refine ⟨.inr rfl,_,(.cons (sv rfl) .nil),(.cons (FDT aJ rfl rfl) .nil)⟩
     ·
      replace h:=bU h hc57
      refine aU ?_
      refine aN ?_
      refine aC (aA rfl (aK rfl rfl (lb rfl) (sv (d:=.osl _ _ _) rfl)) <|aA rfl (aE rfl rfl (lb rfl) (sv (d:=.osl _ _ _) rfl)) <|aB ?_)
      refine aS ?_
      obtain rfl:=Option.some.inj h
      refine ⟨.inr rfl,_,(.cons (sv rfl) .nil),(.cons (FDT aJ rfl rfl) .nil)⟩

theorem iV (a0 : (List aM)) (a1 : Int) (r : Int) (h : dX a0 a1 = some r) : cD Tryz.prog 94 [.slice false (a0.map aD.d),.fn 67 [.fptr [.int .i64 a1]]] (.int .i64 r):=by
 refine bA (rs:=[.int .i64 r]) Tryz.func94 rfl Tryz.ntmps94 (nle rfl) rfl fun O hO=>?_
 show IWP _ _ _ _ ⟨[(0,.slice false (a0.map aD.d)),(1,.fn 67 [.fptr [.int .i64 a1]])],[]⟩ _
 unfold dX at h
 refine aC (aA rfl (aE rfl rfl (lb rfl) (sv (d:=.int _ 0) rfl)) <|aB ?_)
 refine aV ?_
 refine aC (aA rfl (mvL rfl rfl rfl rfl) <|aA rfl (cJ aD (l:=a0) rfl rfl (lb rfl) Tryz.underlying24 (svL rfl)) <|aA rfl (aK rfl rfl (lb rfl) (sv (d:=.int _ 0) rfl)) <|aB ?_)
 refine bG ?_
 refine cW (α:=Nat × Int) (fun z=>⟨[(0,.slice false (a0.map aD.d)),(1,.fn 67 [.fptr [.int .i64 a1]]),(7,.int .i64 (a0.length : Int)),(8,.int .i64 z.2)],[]⟩) (fun z=>cT a0 a1 z.1 z.2 = some r) (fun z=>z.1) (fuel,0) (fun i=>i) ⟨(.sames rfl rfl),.nil,bX [] rfl (by decide),fun _ _=>rfl⟩ ?_ ?_
 ·exact h
 ·
  rintro ⟨n0,v7⟩ h
  cases n0 with
  | zero=>exact absurd h (by unfold cT; exact nofun)
  | succ n0 =>
   unfold cT at h
   obtain ⟨x14,hx14,h⟩:=aR h
   refine aC (aA rfl (aP rfl rfl (lb rfl) (svI rfl) (svI rfl) rfl hx14) <|aB ?_)
   refine aV ?_
   refine aT (b:=_) rfl (fun hc15=>?_) (fun hc15=>?_)
   ·
    replace h:=bT h hc15
    refine aU ?_
    refine aN ?_
    refine aV ?_
    refine bG ?_
    refine aC (aA rfl (mvI rfl rfl rfl rfl) <|aA rfl (asI rfl rfl rfl rfl) <|aB ?_)
    obtain ⟨x16,hx16,h⟩:=aY h
    obtain ⟨x17,hx17,h⟩:=aY h
    refine aC (aA rfl (aK rfl rfl (lb rfl) (sv (d:=.fn 67 [.fptr [.int _ _]]) rfl)) <|aA rfl (mvL rfl rfl rfl rfl) <|aA rfl (mvI rfl rfl rfl rfl) <|aA rfl (cY aD (cs:=q17) rfl rfl (lb rfl) Tryz.underlying24 ti52 (svL rfl) (svI rfl) hx16 rfl rfl) <|aA rfl (cQ (cs:=q17) rfl rfl (lb rfl) Tryz.underlying52 ag52 ti52 (by decide) (sv (d:=.fptr q17) rfl) (nle rfl) rfl) <|aA rfl (mT (r:=.bool _) rfl rfl (lb rfl) cl67 (sv (d:=.fn 67 [.fptr [.int _ _]]) rfl) (.cons (svA q17 rfl) .nil) rfl (pU _ _ _ hx17)) <|aB ?_)
    refine aT (b:=_) rfl (fun hc18=>?_) (fun hc18=>?_)
    ·
     replace h:=bT h hc18
     refine aC (aA rfl (mvI rfl rfl rfl rfl) <|aA rfl (asI rfl rfl rfl rfl) <|aB ?_)
     refine aS ?_
     refine bP ?_
     refine aZ ?_
     refine aZ ?_
     refine bP ?_
     refine aZ ?_
     obtain rfl:=Option.some.inj h
     refine ⟨.inr rfl,(.cons (sv rfl) .nil)⟩
    ·
     replace h:=bU h hc18
     refine aU ?_
     refine bZ ?_
     refine aN ?_
     obtain ⟨x19,hx19,h⟩:=aR h
     refine bD (aA rfl (bL rfl rfl (lb rfl) (svI rfl) (sv (d:=.int _ 1) rfl) rfl hx19) <|aA rfl (mvI rfl rfl rfl rfl) <|bW ?_)
     refine aN ⟨(n0,x19),(fun i=>i),⟨(.sames rfl rfl),.nil,bX [] rfl (by decide),fun _ _=>rfl⟩,?_,?_⟩
     exact h
     exact Nat.lt_succ_self _
   ·
    replace h:=bU h hc15
    refine cN ?_
    refine bI ?_
    refine bI ?_
    refine cO ?_
    refine aN ?_
    refine aC (aA rfl (aE rfl rfl (lb rfl) (sv (d:=.int _ (-1)) rfl)) <|aB ?_)
    refine aS ?_
    obtain rfl:=Option.some.inj h
    refine ⟨.inr rfl,(.cons (sv rfl) .nil)⟩

theorem hY (a0 : (List aM)) (a1 : Int) (r : (List aM)) (h : dO a0 a1 = some r) : FnH Tryz.prog 65 [.osl 1000 aD.sz a0.length,.fn 67 [.ref 1001 0]] [(1000,.blk 52 (D.flat (a0.map aD.d))),(1001,.blk 3 [.int .i64 a1])] (.osl 0 aD.sz r.length) [(1001,.blk 3 [.int .i64 a1]),(0,.blk 52 (D.flat (r.map aD.d)))]:=by
 refine eU (rs:=[.osl 0 aD.sz r.length]) Tryz.func65 rfl Tryz.ntmps65 (nle rfl) fun O hO=>?_
 show IWP _ _ _ _ ⟨[(0,.osl 1000 aD.sz a0.length),(1,.fn 67 [.ref 1001 0])],[(1000,.blk 52 (D.flat (a0.map aD.d))),(1001,.blk 3 [.int .i64 a1])]⟩ _
 unfold dO at h
 refine aC (aA rfl (aE rfl rfl (lb rfl) (sv (d:=.nils) rfl)) <|aB ?_)
 obtain ⟨x1,hx1,h⟩:=aY h
 refine aC (aA rfl (aK rfl rfl (lb rfl) (sv (d:=.osl _ _ _) rfl)) <|aA rfl (aK rfl rfl (lb rfl) (sv (d:=.fn 67 [.ref _ _]) rfl)) <|aA rfl (pD (r:=.int .i64 x1) rfl rfl (lb rfl) cl94 (.cons (sv (d:=.osl _ _ _) rfl) (.cons (sv (d:=.fn 67 [.ref _ _]) rfl) .nil)) (.cons (FDT aD rfl rfl) (.cons (.fn (.cons (.ref rfl rfl (rS _) rfl) .nil)) .nil)) rfl rfl (iV _ _ _ hx1)) <|aA rfl (asI rfl rfl rfl rfl) <|aB ?_)
 refine aV ?_
 obtain ⟨x2,hx2,h⟩:=aR h
 refine aC (aA rfl (mvI rfl rfl rfl rfl) <|aA rfl (aP rfl rfl (lb rfl) (svI rfl) (sv (d:=.int _ (-1)) rfl) rfl hx2) <|aB ?_)
 refine aT (b:=_) rfl (fun hc3=>?_) (fun hc3=>?_)
 ·
  replace h:=bT h hc3
  refine aC (aA rfl (aK rfl rfl (lb rfl) (sv (d:=.osl _ _ _) rfl)) <|aA rfl (aE rfl rfl (lb rfl) (sv (d:=.osl _ _ _) rfl)) <|aB ?_)
  refine aS ?_
  refine aZ ?_
  obtain rfl:=Option.some.inj h
  refine ⟨.inr rfl,(fun i=>if i = 0 then 1000 else i),⟨.nil,(.cons (.blk rfl rfl rfl) (.cons (EntW.lst rfl) .nil)),bX [1001,1000] rfl (by decide),(fun i hi=>by first | rfl | (show (if _ then _ else _) = _; (repeat' split) <;> omega))⟩,(.cons (sv rfl) .nil),rfl⟩
 ·
  replace h:=bU h hc3
  refine aU ?_
  refine aN ?_
  refine aV ?_
  obtain ⟨x4,hx4,h⟩:=aR h
  refine aC (aA rfl (mvI rfl rfl rfl rfl) <|aA rfl (bL rfl rfl (lb rfl) (svI rfl) (sv (d:=.int _ 1) rfl) rfl hx4) <|aA rfl (asI rfl rfl rfl rfl) <|aB ?_)
  refine bG ?_
  refine cW (α:=Nat × (List aM) × Int × Int) (fun z=>⟨[(0,.osl 1000 aD.sz z.2.1.length),(1,.fn 67 [.ref 1001 0]),(5,.int .i64 z.2.2.1),(6,.int .i64 z.2.2.2)],[(1000,.blk 52 (D.flat (z.2.1.map aD.d))),(1001,.blk 3 [.int .i64 a1])]⟩) (fun z=>cG a1 z.1 z.2.1 z.2.2.1 z.2.2.2 = some r) (fun z=>z.1) (fuel,a0,x1,x4) (fun i=>i) ⟨(.sames rfl rfl),(.cons (EntW.lst rfl) (.cons (.blk rfl rfl rfl) .nil)),bX [1000,1001] rfl (by decide),fun _ _=>rfl⟩ ?_ ?_
  ·exact h
  ·
   rintro ⟨n0,v17,v18,v19⟩ h
   cases n0 with
   | zero=>exact absurd h (by unfold cG; exact nofun)
   | succ n0 =>
    unfold cG at h
    refine aV ?_
    obtain ⟨x32,hx32,h⟩:=aR h
    refine aC (aA rfl (mvI rfl rfl rfl rfl) <|aA rfl (aK rfl rfl (lb rfl) (sv (d:=.osl _ _ _) rfl)) <|aA rfl (oH rfl rfl (lb rfl) Tryz.underlying24 (sv (d:=.osl _ _ _) rfl)) <|aA rfl (aP rfl rfl (lb rfl) (svI rfl) (svI rfl) rfl hx32) <|aB ?_)
    refine aT (b:=_) rfl (fun hc33=>?_) (fun hc33=>?_)
    ·
     replace h:=bT h hc33
     refine aU ?_
     refine aN ?_
     refine aV ?_
     refine bG ?_
     obtain ⟨x34,hx34,h⟩:=aY h
     obtain ⟨x35,hx35,h⟩:=aY h
     refine aC (aA rfl (aK rfl rfl (lb rfl) (sv (d:=.osl _ _ _) rfl)) <|aA rfl (mvI rfl rfl rfl rfl) <|aA rfl (jN aD.toEnc0 rfl rfl (lb rfl) Tryz.underlying24 ti52 (sv (d:=.osl _ _ _) rfl) rfl (svI rfl) hx34) <|aA rfl (uN aD.toEnc0 (cs:=q17) rfl rfl (lb rfl) Tryz.underlying52 ag52 ti52 (by decide) (svR rfl) rfl hx35 (nle rfl) rfl) <|aA rfl (bJ (cs:=q17) (cs':=(w42 0 0 0 false)) 0 rfl rfl (lb rfl) rfl ti52 rfl rfl (.all _)) <|aA rfl (stA q17 q17 ti52 rfl rfl rfl rfl rfl rfl rfl rfl (nle rfl) rfl) <|aB ?_)
     obtain ⟨x36,hx36,h⟩:=aY h
     refine aC (aA rfl (aK rfl rfl (lb rfl) (sv (d:=.fn 67 [.ref _ _]) rfl)) <|aA rfl (lra q17 la52 rfl rfl rfl rfl rfl (nle rfl) rfl) <|aA rfl (yJ (r:=.bool x36) rfl rfl (lb rfl) cl67 (sv (d:=.fn 67 [.ref _ _]) rfl) (.cons (svA q17 rfl) .nil) (.k (.cons (.ref rfl rfl (rS _) rfl) .nil)) rfl rfl (pU _ _ _ hx36)) <|aA rfl (dD rfl rfl (lb rfl) (svB rfl)) <|aB ?_)
     refine aT (b:=_) rfl (fun hc37=>?_) (fun hc37=>?_)
     ·
      replace h:=bT h hc37
      obtain ⟨x38,hx38,h⟩:=aY h
      obtain ⟨x39,hx39,h⟩:=aY h
      obtain ⟨x40,hx40,h⟩:=aR h
      refine aC (aA rfl (aK rfl rfl (lb rfl) (sv (d:=.osl _ _ _) rfl)) <|aA rfl (mvI rfl rfl rfl rfl) <|aA rfl (lra q17 la52 rfl rfl rfl rfl rfl (nle rfl) rfl) <|aA rfl (jN aD.toEnc0 rfl rfl (lb rfl) Tryz.underlying24 ti52 (sv (d:=.osl _ _ _) rfl) rfl (svI rfl) hx38) <|aA rfl (lJ aD.toEnc0 (a':=x35) rfl rfl ti52 (svR rfl) rfl (svA q17 rfl) rfl rfl rfl hx39 (nle rfl) rfl hx40) <|aB ?_)
      obtain ⟨x41,hx41,h⟩:=aR h
      refine bD (aA rfl (mvI rfl rfl rfl rfl) <|aA rfl (bL rfl rfl (lb rfl) (svI rfl) (sv (d:=.int _ 1) rfl) rfl hx41) <|aA rfl (asI rfl rfl rfl rfl) <|bW ?_)
      refine bZ ?_
      refine aN ?_
      obtain ⟨x42,hx42,h⟩:=aR h
      refine bD (aA rfl (mvI rfl rfl rfl rfl) <|aA rfl (bL rfl rfl (lb rfl) (svI rfl) (sv (d:=.int _ 1) rfl) rfl hx42) <|aA rfl (asI rfl rfl rfl rfl) <|bW ?_)
      refine aN ⟨(n0,x40,x41,x42),(fun i=>i),⟨(.cons (.same (congrArg (D.osl _ _) (rB hx40 rfl).symm) rfl) (.sames rfl rfl)),(.cons (EntW.lst rfl) (.cons (.blk rfl rfl rfl) .nil)),bX [1000,1001] rfl (by decide),fun _ _=>rfl⟩,?_,?_⟩
      exact h
      exact Nat.lt_succ_self _
     ·
      replace h:=bU h hc37
      refine aU ?_
      refine bZ ?_
      refine aN ?_
      obtain ⟨x43,hx43,h⟩:=aR h
      refine bD (aA rfl (mvI rfl rfl rfl rfl) <|aA rfl (bL rfl rfl (lb rfl) (svI rfl) (sv (d:=.int _ 1) rfl) rfl hx43) <|aA rfl (asI rfl rfl rfl rfl) <|bW ?_)
      refine aN ⟨(n0,v17,v18,x43),(fun i=>i),⟨(.sames rfl rfl),(.cons (EntW.lst rfl) (.cons (.blk rfl rfl rfl) .nil)),bX [1000,1001] rfl (by decide),fun _ _=>rfl⟩,?_,?_⟩
      exact h
      exact Nat.lt_succ_self _
    ·
     replace h:=bU h hc33
     refine cN ?_
     refine bI ?_
     refine bI ?_
     refine cO ?_
     refine aN ?_
     obtain ⟨x44,hx44,h⟩:=aY h
     refine aC (aA rfl (aK rfl rfl (lb rfl) (sv (d:=.osl _ _ _) rfl)) <|aA rfl (mvI rfl rfl rfl rfl) <|xD aD.toEnc0 rfl rfl rfl rfl (by decide) rfl rfl Tryz.underlying24 ti52 rfl rfl rfl rfl rfl (fun S1 h9=>sv ((h9 37 (by decide)).trans rfl)) hx44 <|aB ?_)
     obtain ⟨x45,hx45,h⟩:=aY h
     refine aC (aA rfl (aK rfl rfl (lb rfl) (sv (d:=.osl _ _ _) rfl)) <|aA rfl (mvI rfl rfl rfl rfl) <|aA rfl (yF aD.toEnc0 rfl rfl (lb rfl) Tryz.underlying24 ti52 (sv (d:=.osl _ _ _) rfl) rfl (Nat.le_trans (aFB hx44) (Nat.le_of_eq rfl)) (svI rfl) hx45) <|aA rfl (aE rfl rfl (lb rfl) (sv (d:=.osl _ _ _) rfl)) <|aB ?_)
     refine aS ?_
     obtain rfl:=Option.some.inj h
     refine ⟨.inr rfl,(fun i=>if i = 0 then 1000 else i),⟨.nil,(.cons (.blk rfl rfl rfl) (.cons (EntW.lst rfl) .nil)),bX [1001,1000] rfl (by decide),(fun i hi=>by first | rfl | (show (if _ then _ else _) = _; (repeat' split) <;> omega))⟩,(.cons (sv rfl) .nil),rfl⟩

theorem aBP (a0 : bB) (a1 : Int) (r : bB) (h : wC a0 a1 = some r) : cD Tryz.prog 37 [.agg (v2 a0),.int .i64 a1] (.agg (v2 r)):=by
 refine iM (rs:=[.agg (v2 r)]) Tryz.func37 rfl Tryz.ntmps37 (nle rfl) rfl fun O hO=>?_
 show IWP _ _ _ _ ⟨[(0,.agg (v2 a0)),(1,.int .i64 a1)],[]⟩ _
 unfold wC at h
 refine aC (aA rfl (bR (cs:=q12) 0 rfl rfl (lb rfl) rfl (svA q12 rfl) rfl rfl) <|aA rfl (bR (cs:=[.int _ _]) 1 rfl rfl (lb rfl) rfl (svI rfl) rfl rfl) <|aA rfl (bJ (cs:=q14) (cs':=(w38 0 [] 0 ([] : List aM) ([] : List aI) false false false false)) 2 rfl rfl (lb rfl) rfl ti28 rfl rfl (.k (.k (.k (.cons (.nils _) (.cons (.nils _) (.all _))))))) <|aB ?_)
 obtain ⟨x1,hx1,h⟩:=aY h
 refine aC (aA rfl (lra q12 la28 rfl rfl rfl rfl rfl (nle rfl) rfl) <|aA rfl (dU (r':=.agg (w39 x1.1 x1.2.1 x1.2.2.1 (.osl 3 aD.sz x1.2.2.2.1.length) x1.2.2.2.2.1 x1.2.2.2.2.2.1 x1.2.2.2.2.2.2.1 x1.2.2.2.2.2.2.2.1 x1.2.2.2.2.2.2.2.2)) (H1':=[(3,.blk 52 (D.flat (x1.2.2.2.1.map aD.d)))]) 3 [] rfl rfl (lb rfl) cl50 (.cons (svA q12 rfl) .nil) rfl rfl ⟨rfl,rfl,by decide,rfl,List.forall_mem_nil _⟩ (kB _ _ hx1) rfl rfl (List.forall_mem_cons.2 ⟨⟨rfl,(jT aD)⟩,List.forall_mem_nil _⟩) (by simp only [List.map_cons,List.map_nil,Ent.ren,eS,fH]; rfl)) <|aA rfl (bJ (cs:=q14) (cs':=(w38 0 [] 0 ([] : List aM) ([] : List aI) false false false false)) 4 rfl rfl (lb rfl) rfl ti28 rfl rfl (.k (.k (.k (.cons (.nils _) (.cons (.nils _) (.all _))))))) <|aA rfl (stA q13 q13 ti28 rfl rfl rfl rfl rfl rfl rfl rfl (nle rfl) rfl) <|aB ?_)
 refine aV ?_
 obtain ⟨x2,hx2,h⟩:=aY h
 obtain ⟨x3,hx3,h⟩:=aR h
 refine aC (aA rfl (lra q12 la28 rfl rfl rfl rfl rfl (nle rfl) rfl) <|aA rfl (aW (r:=.int _ _) rfl rfl (lb rfl) cl39 (.cons (svA q12 rfl) .nil) rfl (lH _ _ hx2)) <|aA rfl (aP rfl rfl (lb rfl) (svI rfl) (sv (d:=.int _ 0) rfl) rfl hx3) <|aB ?_)
 refine aT (b:=_) rfl (fun hc4=>?_) (fun hc4=>?_)
 ·
  replace h:=bT h hc4
  refine aC (aA rfl (lra q13 la28 rfl rfl rfl rfl rfl (nle rfl) rfl) <|aA rfl (stA q13 q13 ti28 rfl rfl rfl rfl rfl rfl rfl rfl (nle rfl) rfl) <|aB ?_)
  refine aS ?_
  refine aZ ?_
  obtain rfl:=Option.some.inj h
  refine ⟨.inr rfl,_,(.cons (rva la28 rfl rfl (nle rfl) rfl) .nil),(.cons (.agg (.k (.k (.k (.cons (FDT aD rfl rfl) (.all _)))))) .nil)⟩
 ·
  replace h:=bU h hc4
  refine aU ?_
  refine aN ?_
  refine aC (aA rfl (kL rfl rfl (lb rfl) (.cons (svR rfl) .nil)) <|aA rfl (aE rfl rfl (lb rfl) (sv (d:=.fn 67 [.ref _ _]) rfl)) <|aB ?_)
  refine aV ?_
  refine aC (aA rfl (faR 3 rfl rfl rfl Tryz.underlying28 rfl ti24 (lb rfl) rfl rfl) <|aA rfl (lrL la24 rfl rfl rfl rfl rfl (nle rfl) rfl) <|aA rfl (cJ aD (l:=a0.Pieces) rfl rfl (lb rfl) Tryz.underlying24 (svL rfl)) <|aA rfl (aK rfl rfl (lb rfl) (sv (d:=.int _ 0) rfl)) <|aB ?_)
  refine bG ?_
  refine cW (α:=Nat × Int × (List aI) × Bool) (fun z=>⟨[(4,.ref 2 0),(5,.ref 4 0),(6,.fn 67 [.ref 1 0]),(17,.slice false (a0.Pieces.map aD.d)),(18,.int .i64 (a0.Pieces.length : Int)),(19,.int .i64 z.2.1)],[(2,.blk 28 (w38 0 [] 0 ([] : List aM) ([] : List aI) false false false false)),(4,.blk 28 (w39 x1.1 x1.2.1 x1.2.2.1 (.osl 3 aD.sz x1.2.2.2.1.length) z.2.2.1 x1.2.2.2.2.2.1 x1.2.2.2.2.2.2.1 z.2.2.2 x1.2.2.2.2.2.2.2.2)),(1,.blk 3 [.int .i64 a1]),(3,.blk 52 (D.flat (x1.2.2.2.1.map aD.d)))]⟩) (fun z=>lE a0 a1 x1 z.1 z.2.1 z.2.2.1 z.2.2.2 = some r) (fun z=>z.1) (fuel,0,x1.2.2.2.2.1,x1.2.2.2.2.2.2.2.1) (fun i=>i) ⟨(.sames rfl rfl),(.cons (.blk rfl rfl rfl) (.cons (.blk rfl rfl rfl) (.cons (.blk rfl rfl rfl) (.cons (EntW.lst rfl) .nil)))),bX [2,4,1,3] rfl (by decide),fun _ _=>rfl⟩ ?_ ?_
  ·exact h
  ·
   rintro ⟨n0,v15,v16,v17⟩ h
   cases n0 with
   | zero=>exact absurd h (by unfold lE; exact nofun)
   | succ n0 =>
    unfold lE at h
    obtain ⟨x28,hx28,h⟩:=aR h
    refine aC (aA rfl (aP rfl rfl (lb rfl) (svI rfl) (svI rfl) rfl hx28) <|aB ?_)
    refine aV ?_
    refine aT (b:=_) rfl (fun hc29=>?_) (fun hc29=>?_)
    ·
     replace h:=bT h hc29
     refine aU ?_
     refine aN ?_
     refine aV ?_
     refine bG ?_
     obtain ⟨x30,hx30,h⟩:=aY h
     refine aC (aA rfl (cY aD (cs:=q17) rfl rfl (lb rfl) Tryz.underlying24 ti52 (svL rfl) (svI rfl) hx30 rfl rfl) <|aA rfl (cQ (cs:=q17) rfl rfl (lb rfl) Tryz.underlying52 ag52 ti52 (by decide) (sv (d:=.fptr q17) rfl) (nle rfl) rfl) <|aA rfl (bJ (cs:=q17) (cs':=(w42 0 0 0 false)) 5 rfl rfl (lb rfl) rfl ti52 rfl rfl (.all _)) <|aA rfl (stA q17 q17 ti52 rfl rfl rfl rfl rfl rfl rfl rfl (nle rfl) rfl) <|aB ?_)
     obtain ⟨x31,hx31,h⟩:=aY h
     refine aC (aA rfl (aK rfl rfl (lb rfl) (sv (d:=.fn 67 [.ref _ _]) rfl)) <|aA rfl (lra q17 la52 rfl rfl rfl rfl rfl (nle rfl) rfl) <|aA rfl (yJ (r:=.bool x31) rfl rfl (lb rfl) cl67 (sv (d:=.fn 67 [.ref _ _]) rfl) (.cons (svA q17 rfl) .nil) (.k (.cons (.ref rfl rfl (rS _) rfl) .nil)) rfl rfl (pU _ _ _ hx31)) <|aB ?_)
     refine aT (b:=_) rfl (fun hc32=>?_) (fun hc32=>?_)
     ·
      replace h:=bT h hc32
      obtain ⟨x33,hx33,h⟩:=aY h
      obtain ⟨x34,hx34,h⟩:=aY h
      refine dG rfl [⟨[5],[],[(26,.ref 4 4)],[]⟩,
       ⟨[26],[4],[(27,.slice false (v16.map aJ.d))],[]⟩,
       ⟨[8],[5],[(28,.agg (v6 x30))],[]⟩,
       ⟨[28],[],[(29,.agg [.int .i64 x33.From,.int .i64 x33.To])],[]⟩,
       ⟨[27,29],[],[(30,.slice false (x34.map aJ.d))],[]⟩,
       ⟨[5],[],[(31,.ref 4 4)],[]⟩,
       ⟨[30,31],[4],[],[(4,.blk 28 (w39 x1.1 x1.2.1 x1.2.2.1 (.osl 3 aD.sz x1.2.2.2.1.length) x34 x1.2.2.2.2.2.1 x1.2.2.2.2.2.2.1 v17 x1.2.2.2.2.2.2.2.2))]⟩] rfl ?_ (by kernel_rfl) ?_
      ·refine .cons (lop rfl rfl fun S hA=>(aO rfl rfl (lb rfl) Tryz.underlying28 rfl ti26 (by decide) (svaR hA rfl rfl) (off':=4) rfl)) ?_
       refine .cons (lop rfl rfl fun S hA=>(aG (d:=.slice _ _) rfl rfl (lb rfl) Tryz.underlying26 ag26 ti26 (by decide) (svaR hA rfl rfl) (agi hA rfl rfl) (nle rfl) rfl)) ?_
       refine .cons (lop rfl rfl fun S hA=>(cA (cs:=q17) rfl rfl (lb rfl) Tryz.underlying52 ag52 ti52 (by decide) (svaR hA rfl rfl) (agi hA rfl rfl) (nle rfl) rfl)) ?_
       refine .cons (lop rfl rfl fun S hA=>(aW (r:=.agg q25) rfl rfl (lb rfl) cl55 (.cons (svaA q17 hA rfl rfl) .nil) rfl (kQ _ _ hx33))) ?_
       refine .cons (lop rfl rfl fun S hA=>(aW (r:=.slice _ _) rfl rfl (lb rfl) cl68 (.cons (svaL hA rfl rfl) (.cons (svaA q25 hA rfl rfl) .nil)) rfl (aBW _ _ _ hx34))) ?_
       refine .cons (lop rfl rfl fun S hA=>(aO rfl rfl (lb rfl) Tryz.underlying28 rfl ti26 (by decide) (svaR hA rfl rfl) (off':=4) rfl)) ?_
       refine .cons (lop rfl rfl fun S hA=>(bQ (ds':=q13) rfl rfl ti26 (svaR hA rfl rfl) (agi hA rfl rfl) (svaL hA rfl rfl) rfl rfl rfl (nle rfl) rfl)) ?_
       exact .nil
      obtain ⟨x35,hx35,h⟩:=aR h
      refine bD (aA rfl (faR 7 rfl rfl rfl Tryz.underlying28 rfl ti4 (lb rfl) rfl rfl) <|aA rfl (aG (d:=.bool _) rfl rfl (lb rfl) Tryz.underlying4 ag4 ti4 (by decide) (svR rfl) rfl (nle rfl) rfl) <|aA rfl (mvB rfl rfl rfl rfl) <|aF rfl rfl (.one rfl) rfl (by decide) (fun hb=>(faR 3 rfl rfl rfl Tryz.underlying52 rfl ti4 (lb rfl) rfl rfl)) <|aF rfl rfl (.one rfl) rfl (by decide) (fun hb=>(aG (d:=.bool _) rfl rfl (lb rfl) Tryz.underlying4 ag4 ti4 (by decide) (svcR rfl hb) rfl (nle rfl) rfl)) <|aA rfl (dM rfl rfl (lb rfl) (svB rfl) rfl rfl hx35) <|aA rfl (faR 7 rfl rfl rfl Tryz.underlying28 rfl ti4 (lb rfl) rfl rfl) <|aA rfl (bQ (ds':=q13) rfl rfl ti4 (svR rfl) rfl (svB rfl) rfl rfl rfl (nle rfl) rfl) <|bW ?_)
      refine bZ ?_
      refine aN ?_
      obtain ⟨x36,hx36,h⟩:=aR h
      refine bD (aA rfl (bL rfl rfl (lb rfl) (svI rfl) (sv (d:=.int _ 1) rfl) rfl hx36) <|aA rfl (mvI rfl rfl rfl rfl) <|bW ?_)
      refine aN ⟨(n0,x36,x34,x35),(fun i=>i),⟨(.sames rfl rfl),(.cons (.blk rfl rfl rfl) (.cons (.blk rfl rfl rfl) (.cons (.blk rfl rfl rfl) (.cons (EntW.lst rfl) .nil)))),bX [2,4,1,3] rfl (by decide),fun _ _=>rfl⟩,?_,?_⟩
      exact h
      exact Nat.lt_succ_self _
     ·
      replace h:=bU h hc32
      refine aU ?_
      refine bZ ?_
      refine aN ?_
      obtain ⟨x37,hx37,h⟩:=aR h
      refine bD (aA rfl (bL rfl rfl (lb rfl) (svI rfl) (sv (d:=.int _ 1) rfl) rfl hx37) <|aA rfl (mvI rfl rfl rfl rfl) <|bW ?_)
      refine aN ⟨(n0,x37,v16,v17),(fun i=>i),⟨(.sames rfl rfl),(.cons (.blk rfl rfl rfl) (.cons (.blk rfl rfl rfl) (.cons (.blk rfl rfl rfl) (.cons (EntW.lst rfl) .nil)))),bX [2,4,1,3] rfl (by decide),fun _ _=>rfl⟩,?_,?_⟩
      exact h
      exact Nat.lt_succ_self _
    ·
     replace h:=bU h hc29
     refine cN ?_
     refine bI ?_
     refine bI ?_
     refine cO ?_
     refine aN ?_
     obtain ⟨x38,hx38,h⟩:=aY h
     refine aC (aA rfl (faR 3 rfl rfl rfl Tryz.underlying28 rfl ti24 (lb rfl) rfl rfl) <|aA rfl (aG (d:=.osl _ _ _) rfl rfl (lb rfl) Tryz.underlying24 ag24 ti24 (by decide) (svR rfl) rfl (nle rfl) rfl) <|aA rfl (aK rfl rfl (lb rfl) (sv (d:=.fn 67 [.ref _ _]) rfl)) <|aA rfl (dU (r':=.osl 5 aD.sz x38.length) (H1':=[(1,.blk 3 [.int .i64 a1]),(5,.blk 52 (D.flat (x38.map aD.d)))]) 5 [3,1] rfl rfl (lb rfl) cl65 (.cons (sv (d:=.osl _ _ _) rfl) (.cons (sv (d:=.fn 67 [.ref _ _]) rfl) .nil)) rfl rfl ⟨rfl,rfl,by decide,rfl,List.forall_mem_cons.2 ⟨⟨rfl,rfl,(aBd aD rfl),(jT aD)⟩,List.forall_mem_cons.2 ⟨⟨rfl,rfl,rfl,rfl⟩,List.forall_mem_nil _⟩⟩⟩ (hY _ _ _ hx38) rfl rfl (List.forall_mem_cons.2 ⟨⟨rfl,rfl⟩,List.forall_mem_cons.2 ⟨⟨rfl,(jT aD)⟩,List.forall_mem_nil _⟩⟩) (by simp only [List.map_cons,List.map_nil,Ent.ren,eS,fH]; rfl)) <|aA rfl (faR 3 rfl rfl rfl Tryz.underlying28 rfl ti24 (lb rfl) rfl rfl) <|aA rfl (bQ (ds':=q13) rfl rfl ti24 (svR rfl) rfl (sv (d:=.osl _ _ _) rfl) rfl rfl rfl (nle rfl) rfl) <|aB ?_)
     refine aC (aA rfl (lra q13 la28 rfl rfl rfl rfl rfl (nle rfl) rfl) <|aA rfl (stA q13 q13 ti28 rfl rfl rfl rfl rfl rfl rfl rfl (nle rfl) rfl) <|aB ?_)
     refine aS ?_
     obtain rfl:=Option.some.inj h
     refine ⟨.inr rfl,_,(.cons (rva la28 rfl rfl (nle rfl) rfl) .nil),(.cons (.agg (.k (.k (.k (.cons (FDT aD rfl rfl) (.all _)))))) .nil)⟩

theorem tL (a0 : bB) (a1 : Int) (r : bB) (h : nD a0 a1 = some r) : FnH Tryz.prog 36 [.agg (v2 a0),.ref 1000 0] [(1000,.blk 3 [.int .i64 a1])] (.agg (v2 r)) [(1000,.blk 3 [.int .i64 a1])]:=by
 refine eU (rs:=[.agg (v2 r)]) Tryz.func36 rfl Tryz.ntmps36 (nle rfl) fun O hO=>?_
 show IWP _ _ _ _ ⟨[(0,.agg (v2 a0)),(1,.ref 1000 0)],[(1000,.blk 3 [.int .i64 a1])]⟩ _
 unfold nD at h
 refine aC (aA rfl (bR (cs:=q12) 0 rfl rfl (lb rfl) rfl (svA q12 rfl) rfl rfl) <|aA rfl (bJ (cs:=q14) (cs':=(w38 0 [] 0 ([] : List aM) ([] : List aI) false false false false)) 1 rfl rfl (lb rfl) rfl ti28 rfl rfl (.k (.k (.k (.cons (.nils _) (.cons (.nils _) (.all _))))))) <|aB ?_)
 obtain ⟨x1,hx1,h⟩:=aY h
 refine aC (aA rfl (lra q12 la28 rfl rfl rfl rfl rfl (nle rfl) rfl) <|aA rfl (aG (d:=.int _ _) rfl rfl (lb rfl) Tryz.underlying3 ag3 ti3 (by decide) (svR rfl) rfl (nle rfl) rfl) <|aA rfl (aW (r:=.agg q12) rfl rfl (lb rfl) cl37 (.cons (svA q12 rfl) (.cons (svI rfl) .nil)) rfl (aBP _ _ _ hx1)) <|aA rfl (stA q12 q12 ti28 rfl rfl rfl rfl rfl rfl rfl rfl (nle rfl) rfl) <|aB ?_)
 refine aS ?_
 obtain rfl:=Option.some.inj h
 refine ⟨.inr rfl,(fun i=>i),⟨.nil,(.cons (.blk rfl rfl rfl) .nil),bX [1000] rfl (by decide),fun _ _=>rfl⟩,(.cons (rva la28 rfl rfl (nle rfl) rfl) .nil),rfl⟩

theorem nB (a0 : bH) (a1 : Int) (r : bH) (h : hM a0 a1 = some r) : FnH Tryz.prog 25 [.agg (v0 a0),.fn 36 [.ref 1000 0]] [(1000,.blk 3 [.int .i64 a1])] (.agg (v0 r)) [(1000,.blk 3 [.int .i64 a1])]:=by
 refine eU (rs:=[.agg (v0 r)]) Tryz.func25 rfl Tryz.ntmps25 (nle rfl) fun O hO=>?_
 show IWP _ _ _ _ ⟨[(0,.agg (v0 a0)),(1,.fn 36 [.ref 1000 0])],[(1000,.blk 3 [.int .i64 a1])]⟩ _
 unfold hM at h
 refine aC (aA rfl (bR (cs:=q8) 0 rfl rfl (lb rfl) rfl (svA q8 rfl) rfl rfl) <|aA rfl (bJ (cs:=q9) (cs':=(w36 0 [] 0 ([] : List aM) ([] : List aI) false false false false 0 [] ([] : List aX) 0 [] 0 0)) 1 rfl rfl (lb rfl) rfl ti38 rfl rfl (.k (.k (.k (.cons (.nils _) (.cons (.nils _) (.k4 (.k (.k (.cons (.nils _) (.all _))))))))))) <|aB ?_)
 refine aV ?_
 obtain ⟨x1,hx1,h⟩:=aY h
 obtain ⟨x2,hx2,h⟩:=aR h
 refine aC (aA rfl (lra q8 la38 rfl rfl rfl rfl rfl (nle rfl) rfl) <|aA rfl (aW (r:=.int _ _) rfl rfl (lb rfl) cl16 (.cons (svA q8 rfl) .nil) rfl (fW _ _ hx1)) <|aA rfl (aP rfl rfl (lb rfl) (svI rfl) (sv (d:=.int _ 0) rfl) rfl hx2) <|aB ?_)
 refine aT (b:=_) rfl (fun hc3=>?_) (fun hc3=>?_)
 ·
  replace h:=bT h hc3
  obtain ⟨x4,hx4,h⟩:=aY h
  refine bD (aA rfl (aK rfl rfl (lb rfl) (sv (d:=.fn 36 [.ref _ _]) rfl)) <|aA rfl (faR 0 rfl rfl rfl Tryz.underlying38 rfl ti28 (lb rfl) rfl rfl) <|aA rfl (lra q12 la28 rfl rfl rfl rfl rfl (nle rfl) rfl) <|aA rfl (sQ (r':=.agg (v2 x4)) (H1':=[(1000,.blk 3 [.int .i64 a1])]) 2 [1000] rfl rfl (lb rfl) cl36 (sv (d:=.fn 36 [.ref _ _]) rfl) (.cons (svA q12 rfl) .nil) rfl rfl ⟨rfl,rfl,by decide,rfl,List.forall_mem_cons.2 ⟨⟨rfl,rfl,rfl,rfl⟩,List.forall_mem_nil _⟩⟩ (tL _ _ _ hx4) rfl rfl (List.forall_mem_cons.2 ⟨⟨rfl,rfl⟩,List.forall_mem_nil _⟩) rfl) <|aA rfl (faR 0 rfl rfl rfl Tryz.underlying38 rfl ti28 (lb rfl) rfl rfl) <|aA rfl (stA q12 q8 ti28 rfl rfl rfl rfl rfl rfl rfl rfl (nle rfl) rfl) <|bW ?_)
  refine aN ?_
  refine aC (aA rfl (lra q8 la38 rfl rfl rfl rfl rfl (nle rfl) rfl) <|aA rfl (stA q8 q8 ti38 rfl rfl rfl rfl rfl rfl rfl rfl (nle rfl) rfl) <|aB ?_)
  refine aS ?_
  obtain rfl:=Option.some.inj h
  refine ⟨.inr rfl,(fun i=>i),⟨.nil,(.cons (.blk rfl rfl rfl) .nil),bX [1000] rfl (by decide),fun _ _=>rfl⟩,(.cons (rva la38 rfl rfl (nle rfl) rfl) .nil),rfl⟩
 ·
  replace h:=bU h hc3
  refine aU ?_
  refine aN ?_
  refine aC (aA rfl (lra q8 la38 rfl rfl rfl rfl rfl (nle rfl) rfl) <|aA rfl (stA q8 q8 ti38 rfl rfl rfl rfl rfl rfl rfl rfl (nle rfl) rfl) <|aB ?_)
  refine aS ?_
  obtain rfl:=Option.some.inj h
  refine ⟨.inr rfl,(fun i=>i),⟨.nil,(.cons (.blk rfl rfl rfl) .nil),bX [1000] rfl (by decide),fun _ _=>rfl⟩,(.cons (rva la38 rfl rfl (nle rfl) rfl) .nil),rfl⟩

theorem xM (a0 : bH) (a1 : Int) (r : bH) (h : rF a0 a1 = some r) : cD Tryz.prog 14 [.agg (v0 a0),.int .i64 a1] (.agg (v0 r)):=by
 refine bA (rs:=[.agg (v0 r)]) Tryz.func14 rfl Tryz.ntmps14 (nle rfl) rfl fun O hO=>?_
 show IWP _ _ _ _ ⟨[(0,.agg (v0 a0)),(1,.int .i64 a1)],[]⟩ _
 unfold rF at h
 refine aC (aA rfl (bR (cs:=q8) 0 rfl rfl (lb rfl) rfl (svA q8 rfl) rfl rfl) <|aA rfl (bR (cs:=[.int _ _]) 1 rfl rfl (lb rfl) rfl (svI rfl) rfl rfl) <|aA rfl (bJ (cs:=q9) (cs':=(w36 0 [] 0 ([] : List aM) ([] : List aI) false false false false 0 [] ([] : List aX) 0 [] 0 0)) 2 rfl rfl (lb rfl) rfl ti38 rfl rfl (.k (.k (.k (.cons (.nils _) (.cons (.nils _) (.k4 (.k (.k (.cons (.nils _) (.all _))))))))))) <|aB ?_)
 obtain ⟨x1,hx1,h⟩:=aY h
 refine aC (aA rfl (lra q8 la38 rfl rfl rfl rfl rfl (nle rfl) rfl) <|aA rfl (kL rfl rfl (lb rfl) (.cons (svR rfl) .nil)) <|aA rfl (dU (r':=.agg (v0 x1)) (H1':=[(1,.blk 3 [.int .i64 a1])]) 3 [1] rfl rfl (lb rfl) cl25 (.cons (svA q8 rfl) (.cons (sv (d:=.fn 36 [.ref _ _]) rfl) .nil)) rfl rfl ⟨rfl,rfl,by decide,rfl,List.forall_mem_cons.2 ⟨⟨rfl,rfl,rfl,rfl⟩,List.forall_mem_nil _⟩⟩ (nB _ _ _ hx1) rfl rfl (List.forall_mem_cons.2 ⟨⟨rfl,rfl⟩,List.forall_mem_nil _⟩) rfl) <|aA rfl (stA q8 q8 ti38 rfl rfl rfl rfl rfl rfl rfl rfl (nle rfl) rfl) <|aB ?_)
 refine aS ?_
 obtain rfl:=Option.some.inj h
 refine ⟨.inr rfl,(.cons (rva la38 rfl rfl (nle rfl) rfl) .nil)⟩

theorem tE (a0 : aM) (r : Bool) (h : pQ a0 = some r) : cD Tryz.prog 66 [.agg (v6 a0)] (.bool r):=by
 refine bA (rs:=[.bool r]) Tryz.func66 rfl Tryz.ntmps66 (nle rfl) rfl fun O hO=>?_
 show IWP _ _ _ _ ⟨[(0,.agg (v6 a0))],[]⟩ _
 unfold pQ at h
 refine aC (aA rfl (bR (cs:=q17) 0 rfl rfl (lb rfl) rfl (svA q17 rfl) rfl rfl) <|aA rfl (aE rfl rfl (lb rfl) (sv (d:=.bool false) rfl)) <|aB ?_)
 obtain ⟨x1,hx1,h⟩:=aR h
 obtain ⟨x2,hx2,h⟩:=aR h
 refine aC (aA rfl (faR 0 rfl rfl rfl Tryz.underlying52 rfl ti3 (lb rfl) rfl rfl) <|aA rfl (aG (d:=.int _ _) rfl rfl (lb rfl) Tryz.underlying3 ag3 ti3 (by decide) (svR rfl) rfl (nle rfl) rfl) <|aA rfl (faR 1 rfl rfl rfl Tryz.underlying52 rfl ti3 (lb rfl) rfl rfl) <|aA rfl (aG (d:=.int _ _) rfl rfl (lb rfl) Tryz.underlying3 ag3 ti3 (by decide) (svR rfl) rfl (nle rfl) rfl) <|aA rfl (aP rfl rfl (lb rfl) (svI rfl) (svI rfl) rfl hx1) <|aA rfl (mvB rfl rfl rfl rfl) <|aF rfl rfl (.one rfl) rfl (by decide) (fun hb=>(faR 3 rfl rfl rfl Tryz.underlying52 rfl ti4 (lb rfl) rfl rfl)) <|aF rfl rfl (.one rfl) rfl (by decide) (fun hb=>(aG (d:=.bool _) rfl rfl (lb rfl) Tryz.underlying4 ag4 ti4 (by decide) (svcR rfl hb) rfl (nle rfl) rfl)) <|aF rfl rfl (.one rfl) rfl (by decide) (fun hb=>(dD rfl rfl (lb rfl) (svcB rfl hb))) <|aA rfl (bO rfl rfl (lb rfl) (svB rfl) rfl rfl hx2) <|aA rfl (asB rfl rfl rfl rfl) <|aB ?_)
 refine aS ?_
 obtain rfl:=Option.some.inj h
 refine ⟨.inr rfl,(.cons (sv rfl) .nil)⟩

theorem iW (a0 : (List aM)) (r : Int) (h : dY a0 = some r) : cD Tryz.prog 94 [.slice false (a0.map aD.d),.fn 66 []] (.int .i64 r):=by
 refine bA (rs:=[.int .i64 r]) Tryz.func94 rfl Tryz.ntmps94 (nle rfl) rfl fun O hO=>?_
 show IWP _ _ _ _ ⟨[(0,.slice false (a0.map aD.d)),(1,.fn 66 [])],[]⟩ _
 unfold dY at h
 refine aC (aA rfl (aE rfl rfl (lb rfl) (sv (d:=.int _ 0) rfl)) <|aB ?_)
 refine aV ?_
 refine aC (aA rfl (mvL rfl rfl rfl rfl) <|aA rfl (cJ aD (l:=a0) rfl rfl (lb rfl) Tryz.underlying24 (svL rfl)) <|aA rfl (aK rfl rfl (lb rfl) (sv (d:=.int _ 0) rfl)) <|aB ?_)
 refine bG ?_
 refine cW (α:=Nat × Int) (fun z=>⟨[(0,.slice false (a0.map aD.d)),(1,.fn 66 []),(7,.int .i64 (a0.length : Int)),(8,.int .i64 z.2)],[]⟩) (fun z=>cU a0 z.1 z.2 = some r) (fun z=>z.1) (fuel,0) (fun i=>i) ⟨(.sames rfl rfl),.nil,bX [] rfl (by decide),fun _ _=>rfl⟩ ?_ ?_
 ·exact h
 ·
  rintro ⟨n0,v7⟩ h
  cases n0 with
  | zero=>exact absurd h (by unfold cU; exact nofun)
  | succ n0 =>
   unfold cU at h
   obtain ⟨x14,hx14,h⟩:=aR h
   refine aC (aA rfl (aP rfl rfl (lb rfl) (svI rfl) (svI rfl) rfl hx14) <|aB ?_)
   refine aV ?_
   refine aT (b:=_) rfl (fun hc15=>?_) (fun hc15=>?_)
   ·
    replace h:=bT h hc15
    refine aU ?_
    refine aN ?_
    refine aV ?_
    refine bG ?_
    refine aC (aA rfl (mvI rfl rfl rfl rfl) <|aA rfl (asI rfl rfl rfl rfl) <|aB ?_)
    obtain ⟨x16,hx16,h⟩:=aY h
    obtain ⟨x17,hx17,h⟩:=aY h
    refine aC (aA rfl (aK rfl rfl (lb rfl) (sv (d:=.fn 66 []) rfl)) <|aA rfl (mvL rfl rfl rfl rfl) <|aA rfl (mvI rfl rfl rfl rfl) <|aA rfl (cY aD (cs:=q17) rfl rfl (lb rfl) Tryz.underlying24 ti52 (svL rfl) (svI rfl) hx16 rfl rfl) <|aA rfl (cQ (cs:=q17) rfl rfl (lb rfl) Tryz.underlying52 ag52 ti52 (by decide) (sv (d:=.fptr q17) rfl) (nle rfl) rfl) <|aA rfl (mT (r:=.bool _) rfl rfl (lb rfl) cl66 (sv (d:=.fn 66 []) rfl) (.cons (svA q17 rfl) .nil) rfl (tE _ _ hx17)) <|aB ?_)
    refine aT (b:=_) rfl (fun hc18=>?_) (fun hc18=>?_)
    ·
     replace h:=bT h hc18
     refine aC (aA rfl (mvI rfl rfl rfl rfl) <|aA rfl (asI rfl rfl rfl rfl) <|aB ?_)
     refine aS ?_
     refine bP ?_
     refine aZ ?_
     refine aZ ?_
     refine bP ?_
     refine aZ ?_
     obtain rfl:=Option.some.inj h
     refine ⟨.inr rfl,(.cons (sv rfl) .nil)⟩
    ·
     replace h:=bU h hc18
     refine aU ?_
     refine bZ ?_
     refine aN ?_
     obtain ⟨x19,hx19,h⟩:=aR h
     refine bD (aA rfl (bL rfl rfl (lb rfl) (svI rfl) (sv (d:=.int _ 1) rfl) rfl hx19) <|aA rfl (mvI rfl rfl rfl rfl) <|bW ?_)
     refine aN ⟨(n0,x19),(fun i=>i),⟨(.sames rfl rfl),.nil,bX [] rfl (by decide),fun _ _=>rfl⟩,?_,?_⟩
     exact h
     exact Nat.lt_succ_self _
   ·
    replace h:=bU h hc15
    refine cN ?_
    refine bI ?_
    refine bI ?_
    refine cO ?_
    refine aN ?_
    refine aC (aA rfl (aE rfl rfl (lb rfl) (sv (d:=.int _ (-1)) rfl)) <|aB ?_)
    refine aS ?_
    obtain rfl:=Option.some.inj h
    refine ⟨.inr rfl,(.cons (sv rfl) .nil)⟩

theorem iA (a0 : (List aM)) (r : (List aM)) (h : dP a0 = some r) : FnH Tryz.prog 65 [.osl 1000 aD.sz a0.length,.fn 66 []] [(1000,.blk 52 (D.flat (a0.map aD.d)))] (.osl 0 aD.sz r.length) [(0,.blk 52 (D.flat (r.map aD.d)))]:=by
 refine eU (rs:=[.osl 0 aD.sz r.length]) Tryz.func65 rfl Tryz.ntmps65 (nle rfl) fun O hO=>?_
 show IWP _ _ _ _ ⟨[(0,.osl 1000 aD.sz a0.length),(1,.fn 66 [])],[(1000,.blk 52 (D.flat (a0.map aD.d)))]⟩ _
 unfold dP at h
 refine aC (aA rfl (aE rfl rfl (lb rfl) (sv (d:=.nils) rfl)) <|aB ?_)
 obtain ⟨x1,hx1,h⟩:=aY h
 refine aC (aA rfl (aK rfl rfl (lb rfl) (sv (d:=.osl _ _ _) rfl)) <|aA rfl (aK rfl rfl (lb rfl) (sv (d:=.fn 66 []) rfl)) <|aA rfl (pD (r:=.int .i64 x1) rfl rfl (lb rfl) cl94 (.cons (sv (d:=.osl _ _ _) rfl) (.cons (sv (d:=.fn 66 []) rfl) .nil)) (.cons (FDT aD rfl rfl) (.all _)) rfl rfl (iW _ _ hx1)) <|aA rfl (asI rfl rfl rfl rfl) <|aB ?_)
 refine aV ?_
 obtain ⟨x2,hx2,h⟩:=aR h
 refine aC (aA rfl (mvI rfl rfl rfl rfl) <|aA rfl (aP rfl rfl (lb rfl) (svI rfl) (sv (d:=.int _ (-1)) rfl) rfl hx2) <|aB ?_)
 refine aT (b:=_) rfl (fun hc3=>?_) (fun hc3=>?_)
 ·
  replace h:=bT h hc3
  refine aC (aA rfl (aK rfl rfl (lb rfl) (sv (d:=.osl _ _ _) rfl)) <|aA rfl (aE rfl rfl (lb rfl) (sv (d:=.osl _ _ _) rfl)) <|aB ?_)
  refine aS ?_
  refine aZ ?_
  obtain rfl:=Option.some.inj h
  refine ⟨.inr rfl,(fun i=>if i = 0 then 1000 else i),⟨.nil,(.cons (EntW.lst rfl) .nil),bX [1000] rfl (by decide),(fun i hi=>by first | rfl | (show (if _ then _ else _) = _; (repeat' split) <;> omega))⟩,(.cons (sv rfl) .nil),rfl⟩
 ·
  replace h:=bU h hc3
  refine aU ?_
  refine aN ?_
  refine aV ?_
  obtain ⟨x4,hx4,h⟩:=aR h
  refine aC (aA rfl (mvI rfl rfl rfl rfl) <|aA rfl (bL rfl rfl (lb rfl) (svI rfl) (sv (d:=.int _ 1) rfl) rfl hx4) <|aA rfl (asI rfl rfl rfl rfl) <|aB ?_)
  refine bG ?_
  refine cW (α:=Nat × (List aM) × Int × Int) (fun z=>⟨[(0,.osl 1000 aD.sz z.2.1.length),(1,.fn 66 []),(5,.int .i64 z.2.2.1),(6,.int .i64 z.2.2.2)],[(1000,.blk 52 (D.flat (z.2.1.map aD.d)))]⟩) (fun z=>cH z.1 z.2.1 z.2.2.1 z.2.2.2 = some r) (fun z=>z.1) (fuel,a0,x1,x4) (fun i=>i) ⟨(.sames rfl rfl),(.cons (EntW.lst rfl) .nil),bX [1000] rfl (by decide),fun _ _=>rfl⟩ ?_ ?_
  ·exact h
  ·
   rintro ⟨n0,v17,v18,v19⟩ h
   cases n0 with
   | zero=>exact absurd h (by unfold cH; exact nofun)
   | succ n0 =>
    unfold cH at h
    refine aV ?_
    obtain ⟨x32,hx32,h⟩:=aR h
    refine aC (aA rfl (mvI rfl rfl rfl rfl) <|aA rfl (aK rfl rfl (lb rfl) (sv (d:=.osl _ _ _) rfl)) <|aA rfl (oH rfl rfl (lb rfl) Tryz.underlying24 (sv (d:=.osl _ _ _) rfl)) <|aA rfl (aP rfl rfl (lb rfl) (svI rfl) (svI rfl) rfl hx32) <|aB ?_)
    refine aT (b:=_) rfl (fun hc33=>?_) (fun hc33=>?_)
    ·
     replace h:=bT h hc33
     refine aU ?_
     refine aN ?_
     refine aV ?_
     refine bG ?_
     obtain ⟨x34,hx34,h⟩:=aY h
     obtain ⟨x35,hx35,h⟩:=aY h
     refine aC (aA rfl (aK rfl rfl (lb rfl) (sv (d:=.osl _ _ _) rfl)) <|aA rfl (mvI rfl rfl rfl rfl) <|aA rfl (jN aD.toEnc0 rfl rfl (lb rfl) Tryz.underlying24 ti52 (sv (d:=.osl _ _ _) rfl) rfl (svI rfl) hx34) <|aA rfl (uN aD.toEnc0 (cs:=q17) rfl rfl (lb rfl) Tryz.underlying52 ag52 ti52 (by decide) (svR rfl) rfl hx35 (nle rfl) rfl) <|aA rfl (bJ (cs:=q17) (cs':=(w42 0 0 0 false)) 0 rfl rfl (lb rfl) rfl ti52 rfl rfl (.all _)) <|aA rfl (stA q17 q17 ti52 rfl rfl rfl rfl rfl rfl rfl rfl (nle rfl) rfl) <|aB ?_)
     obtain ⟨x36,hx36,h⟩:=aY h
     refine aC (aA rfl (aK rfl rfl (lb rfl) (sv (d:=.fn 66 []) rfl)) <|aA rfl (lra q17 la52 rfl rfl rfl rfl rfl (nle rfl) rfl) <|aA rfl (mT (r:=.bool _) rfl rfl (lb rfl) cl66 (sv (d:=.fn 66 []) rfl) (.cons (svA q17 rfl) .nil) rfl (tE _ _ hx36)) <|aA rfl (dD rfl rfl (lb rfl) (svB rfl)) <|aB ?_)
     refine aT (b:=_) rfl (fun hc37=>?_) (fun hc37=>?_)
     ·
      replace h:=bT h hc37
      obtain ⟨x38,hx38,h⟩:=aY h
      obtain ⟨x39,hx39,h⟩:=aY h
      obtain ⟨x40,hx40,h⟩:=aR h
      refine aC (aA rfl (aK rfl rfl (lb rfl) (sv (d:=.osl _ _ _) rfl)) <|aA rfl (mvI rfl rfl rfl rfl) <|aA rfl (lra q17 la52 rfl rfl rfl rfl rfl (nle rfl) rfl) <|aA rfl (jN aD.toEnc0 rfl rfl (lb rfl) Tryz.underlying24 ti52 (sv (d:=.osl _ _ _) rfl) rfl (svI rfl) hx38) <|aA rfl (lJ aD.toEnc0 (a':=x35) rfl rfl ti52 (svR rfl) rfl (svA q17 rfl) rfl rfl rfl hx39 (nle rfl) rfl hx40) <|aB ?_)
      obtain ⟨x41,hx41,h⟩:=aR h
      refine bD (aA rfl (mvI rfl rfl rfl rfl) <|aA rfl (bL rfl rfl (lb rfl) (svI rfl) (sv (d:=.int _ 1) rfl) rfl hx41) <|aA rfl (asI rfl rfl rfl rfl) <|bW ?_)
      refine bZ ?_
      refine aN ?_
      obtain ⟨x42,hx42,h⟩:=aR h
      refine bD (aA rfl (mvI rfl rfl rfl rfl) <|aA rfl (bL rfl rfl (lb rfl) (svI rfl) (sv (d:=.int _ 1) rfl) rfl hx42) <|aA rfl (asI rfl rfl rfl rfl) <|bW ?_)
      refine aN ⟨(n0,x40,x41,x42),(fun i=>i),⟨(.cons (.same (congrArg (D.osl _ _) (rB hx40 rfl).symm) rfl) (.sames rfl rfl)),(.cons (EntW.lst rfl) .nil),bX [1000] rfl (by decide),fun _ _=>rfl⟩,?_,?_⟩
      exact h
      exact Nat.lt_succ_self _
     ·
      replace h:=bU h hc37
      refine aU ?_
      refine bZ ?_
      refine aN ?_
      obtain ⟨x43,hx43,h⟩:=aR h
      refine bD (aA rfl (mvI rfl rfl rfl rfl) <|aA rfl (bL rfl rfl (lb rfl) (svI rfl) (sv (d:=.int _ 1) rfl) rfl hx43) <|aA rfl (asI rfl rfl rfl rfl) <|bW ?_)
      refine aN ⟨(n0,v17,v18,x43),(fun i=>i),⟨(.sames rfl rfl),(.cons (EntW.lst rfl) .nil),bX [1000] rfl (by decide),fun _ _=>rfl⟩,?_,?_⟩
      exact h
      exact Nat.lt_succ_self _
    ·
     replace h:=bU h hc33
     refine cN ?_
     refine bI ?_
     refine bI ?_
     refine cO ?_
     refine aN ?_
     obtain ⟨x44,hx44,h⟩:=aY h
     refine aC (aA rfl (aK rfl rfl (lb rfl) (sv (d:=.osl _ _ _) rfl)) <|aA rfl (mvI rfl rfl rfl rfl) <|xD aD.toEnc0 rfl rfl rfl rfl (by decide) rfl rfl Tryz.underlying24 ti52 rfl rfl rfl rfl rfl (fun S1 h9=>sv ((h9 37 (by decide)).trans rfl)) hx44 <|aB ?_)
     obtain ⟨x45,hx45,h⟩:=aY h
     refine aC (aA rfl (aK rfl rfl (lb rfl) (sv (d:=.osl _ _ _) rfl)) <|aA rfl (mvI rfl rfl rfl rfl) <|aA rfl (yF aD.toEnc0 rfl rfl (lb rfl) Tryz.underlying24 ti52 (sv (d:=.osl _ _ _) rfl) rfl (Nat.le_trans (aFB hx44) (Nat.le_of_eq rfl)) (svI rfl) hx45) <|aA rfl (aE rfl rfl (lb rfl) (sv (d:=.osl _ _ _) rfl)) <|aB ?_)
     refine aS ?_
     obtain rfl:=Option.some.inj h
     refine ⟨.inr rfl,(fun i=>if i = 0 then 1000 else i),⟨.nil,(.cons (EntW.lst rfl) .nil),bX [1000] rfl (by decide),(fun i hi=>by first | rfl | (show (if _ then _ else _) = _; (repeat' split) <;> omega))⟩,(.cons (sv rfl) .nil),rfl⟩

theorem aBQ (a0 : bB) (a1 : Int) (a2 : Bool) (r : bB) (h : wD a0 a1 a2 = some r) : cD Tryz.prog 35 [.agg (v2 a0),.int .i64 a1,.bool a2] (.agg (v2 r)):=by
 refine iM (rs:=[.agg (v2 r)]) Tryz.func35 rfl Tryz.ntmps35 (nle rfl) rfl fun O hO=>?_
 show IWP _ _ _ _ ⟨[(0,.agg (v2 a0)),(1,.int .i64 a1),(2,.bool a2)],[]⟩ _
 unfold wD at h
 refine aC (aA rfl (bR (cs:=q12) 0 rfl rfl (lb rfl) rfl (svA q12 rfl) rfl rfl) <|aA rfl (bJ (cs:=q14) (cs':=(w38 0 [] 0 ([] : List aM) ([] : List aI) false false false false)) 1 rfl rfl (lb rfl) rfl ti28 rfl rfl (.k (.k (.k (.cons (.nils _) (.cons (.nils _) (.all _))))))) <|aB ?_)
 obtain ⟨x1,hx1,h⟩:=aY h
 refine aC (aA rfl (lra q12 la28 rfl rfl rfl rfl rfl (nle rfl) rfl) <|aA rfl (dU (r':=.agg (w39 x1.1 x1.2.1 x1.2.2.1 (.osl 2 aD.sz x1.2.2.2.1.length) x1.2.2.2.2.1 x1.2.2.2.2.2.1 x1.2.2.2.2.2.2.1 x1.2.2.2.2.2.2.2.1 x1.2.2.2.2.2.2.2.2)) (H1':=[(2,.blk 52 (D.flat (x1.2.2.2.1.map aD.d)))]) 2 [] rfl rfl (lb rfl) cl50 (.cons (svA q12 rfl) .nil) rfl rfl ⟨rfl,rfl,by decide,rfl,List.forall_mem_nil _⟩ (kB _ _ hx1) rfl rfl (List.forall_mem_cons.2 ⟨⟨rfl,(jT aD)⟩,List.forall_mem_nil _⟩) (by simp only [List.map_cons,List.map_nil,Ent.ren,eS,fH]; rfl)) <|aA rfl (bJ (cs:=q14) (cs':=(w38 0 [] 0 ([] : List aM) ([] : List aI) false false false false)) 3 rfl rfl (lb rfl) rfl ti28 rfl rfl (.k (.k (.k (.cons (.nils _) (.cons (.nils _) (.all _))))))) <|aA rfl (stA q13 q13 ti28 rfl rfl rfl rfl rfl rfl rfl rfl (nle rfl) rfl) <|aB ?_)
 refine aV ?_
 obtain ⟨x2,hx2,h⟩:=aY h
 obtain ⟨x3,hx3,h⟩:=aR h
 obtain ⟨x4,hx4,h⟩:=aR h
 obtain ⟨x5,hx5,h⟩:=aR h
 obtain ⟨x6,hx6,h⟩:=aR h
 obtain ⟨x7,hx7,h⟩:=aR h
 obtain ⟨x8,hx8,h⟩:=aY h
 obtain ⟨x9,hx9,h⟩:=aR h
 obtain ⟨x10,hx10,h⟩:=aR h
 obtain ⟨x11,hx11,h⟩:=aR h
 obtain ⟨x12,hx12,h⟩:=aR h
 refine aC (aA rfl (lra q12 la28 rfl rfl rfl rfl rfl (nle rfl) rfl) <|aA rfl (aW (r:=.int _ _) rfl rfl (lb rfl) cl39 (.cons (svA q12 rfl) .nil) rfl (lH _ _ hx2)) <|aA rfl (aP rfl rfl (lb rfl) (svI rfl) (sv (d:=.int _ 0) rfl) rfl hx3) <|aA rfl (mvB rfl rfl rfl rfl) <|aF rfl rfl (.one rfl) rfl (by decide) (fun hb=>(mvI rfl rfl rfl rfl)) <|aF rfl rfl (.one rfl) rfl (by decide) (fun hb=>(aP rfl rfl (lb rfl) (svcI rfl hb) (sv (d:=.int _ 0) rfl) rfl hx4)) <|aA rfl (dM rfl rfl (lb rfl) (svB rfl) rfl rfl hx5) <|aA rfl (mvB rfl rfl rfl rfl) <|aF rfl rfl (.one rfl) rfl (by decide) (fun hb=>(mvI rfl rfl rfl rfl)) <|aF rfl rfl (.one rfl) rfl (by decide) (fun hb=>(faR 2 rfl rfl rfl Tryz.underlying28 rfl ti3 (lb rfl) rfl rfl)) <|aF rfl rfl (.one rfl) rfl (by decide) (fun hb=>(aG (d:=.int _ _) rfl rfl (lb rfl) Tryz.underlying3 ag3 ti3 (by decide) (svcR rfl hb) rfl (nle rfl) rfl)) <|aF rfl rfl (.one rfl) rfl (by decide) (fun hb=>(aP rfl rfl (lb rfl) (svcI rfl hb) (svcI rfl hb) rfl hx6)) <|aA rfl (dM rfl rfl (lb rfl) (svB rfl) rfl rfl hx7) <|aA rfl (mvB rfl rfl rfl rfl) <|aF rfl rfl (.one rfl) rfl (by decide) (fun hb=>(mvB rfl rfl rfl rfl)) <|aF rfl rfl (.one rfl) rfl (by decide) (fun hb=>(aK rfl rfl (lb rfl) (svcB rfl hb))) <|aF rfl rfl (.two rfl) rfl (by decide) (fun hb=>(mvI rfl rfl rfl rfl)) <|aF rfl rfl (.two rfl) rfl (by decide) (fun hb=>(lra q12 la28 rfl rfl rfl rfl rfl (nle rfl) rfl)) <|aF rfl rfl (.two rfl) rfl (by decide) (fun hb=>(aW (r:=.int _ _) rfl rfl (lb rfl) cl51 (.cons (svcA (v2 a0) rfl hb) .nil) rfl (fN _ _ (gd_t hx8 hb)))) <|aF rfl rfl (.two rfl) rfl (by decide) (fun hb=>(aP rfl rfl (lb rfl) (svcI rfl hb) (svcI rfl hb) rfl hx9)) <|aF rfl rfl (.two rfl) rfl (by decide) (fun hb=>(aK rfl rfl (lb rfl) (svcB rfl hb))) <|aF rfl rfl (.two rfl) rfl (by decide) (fun hb=>(faR 6 rfl rfl rfl Tryz.underlying28 rfl ti4 (lb rfl) rfl rfl)) <|aF rfl rfl (.two rfl) rfl (by decide) (fun hb=>(aG (d:=.bool _) rfl rfl (lb rfl) Tryz.underlying4 ag4 ti4 (by decide) (svcR rfl hb) rfl (nle rfl) rfl)) <|aF rfl rfl (.two rfl) rfl (by decide) (fun hb=>(dD rfl rfl (lb rfl) (svcB rfl hb))) <|aF rfl rfl (.two rfl) rfl (by decide) (fun hb=>(aBv rfl rfl (lb rfl) hb (svcB rfl hb) rfl rfl hx10)) <|aF rfl rfl (.one rfl) rfl (by decide) (fun hb=>(pE rfl rfl (lb rfl) hb (svcB rfl hb) rfl rfl hx11)) <|aA rfl (dM rfl rfl (lb rfl) (svB rfl) rfl rfl hx12) <|aB ?_)
 refine aT (b:=_) rfl (fun hc13=>?_) (fun hc13=>?_)
 ·
  replace h:=bT h hc13
  refine aC (aA rfl (lra q13 la28 rfl rfl rfl rfl rfl (nle rfl) rfl) <|aA rfl (stA q13 q13 ti28 rfl rfl rfl rfl rfl rfl rfl rfl (nle rfl) rfl) <|aB ?_)
  refine aS ?_
  refine aZ ?_
  obtain rfl:=Option.some.inj h
  refine ⟨.inr rfl,_,(.cons (rva la28 rfl rfl (nle rfl) rfl) .nil),(.cons (.agg (.k (.k (.k (.cons (FDT aD rfl rfl) (.all _)))))) .nil)⟩
 ·
  replace h:=bU h hc13
  refine aU ?_
  refine aN ?_
  obtain ⟨x14,hx14,h⟩:=aR h
  refine aC (aA rfl (mvI rfl rfl rfl rfl) <|aA rfl (faR 0 rfl rfl rfl Tryz.underlying28 rfl ti3 (lb rfl) rfl rfl) <|aA rfl (aG (d:=.int _ _) rfl rfl (lb rfl) Tryz.underlying3 ag3 ti3 (by decide) (svR rfl) rfl (nle rfl) rfl) <|aA rfl (pZ rfl rfl (lb rfl) (svI rfl) (svI rfl) hx14) <|aA rfl (asI rfl rfl rfl rfl) <|aB ?_)
  refine aV ?_
  refine aC (aA rfl (faR 3 rfl rfl rfl Tryz.underlying28 rfl ti24 (lb rfl) rfl rfl) <|aA rfl (aG (d:=.osl _ _ _) rfl rfl (lb rfl) Tryz.underlying24 ag24 ti24 (by decide) (svR rfl) rfl (nle rfl) rfl) <|aA rfl (oH rfl rfl (lb rfl) Tryz.underlying24 (sv (d:=.osl _ _ _) rfl)) <|aA rfl (aK rfl rfl (lb rfl) (sv (d:=.int _ 0) rfl)) <|aB ?_)
  refine bG ?_
  refine cW (α:=Nat × Int × (List aM)) (fun z=>⟨[(2,.bool a2),(3,.ref 0 0),(6,.ref 1 0),(7,.ref 3 0),(8,.int .i64 x14),(47,.int .i64 (x1.2.2.2.1.length : Int)),(48,.int .i64 z.2.1)],[(0,.blk 28 (v2 a0)),(1,.blk 28 (w38 0 [] 0 ([] : List aM) ([] : List aI) false false false false)),(3,.blk 28 (w39 x1.1 x1.2.1 x1.2.2.1 (.osl 2 aD.sz z.2.2.length) x1.2.2.2.2.1 x1.2.2.2.2.2.1 x1.2.2.2.2.2.2.1 x1.2.2.2.2.2.2.2.1 x1.2.2.2.2.2.2.2.2)),(2,.blk 52 (D.flat (z.2.2.map aD.d)))]⟩) (fun z=>mN a0 a2 x1 x14 z.1 z.2.1 z.2.2 = some r) (fun z=>z.1) (fuel,0,x1.2.2.2.1) (fun i=>i) ⟨(.sames rfl rfl),(.cons (.blk rfl rfl rfl) (.cons (.blk rfl rfl rfl) (.cons (.blk rfl rfl rfl) (.cons (EntW.lst rfl) .nil)))),bX [0,1,3,2] rfl (by decide),fun _ _=>rfl⟩ ?_ ?_
  ·exact h
  ·
   rintro ⟨n0,v31,v32⟩ h
   cases n0 with
   | zero=>exact absurd h (by unfold mN; exact nofun)
   | succ n0 =>
    unfold mN at h
    obtain ⟨x49,hx49,h⟩:=aR h
    refine aC (aA rfl (aP rfl rfl (lb rfl) (svI rfl) (svI rfl) rfl hx49) <|aB ?_)
    refine aV ?_
    refine aT (b:=_) rfl (fun hc50=>?_) (fun hc50=>?_)
    ·
     replace h:=bT h hc50
     refine aU ?_
     refine aN ?_
     refine aV ?_
     refine bG ?_
     refine aC (aA rfl (mvI rfl rfl rfl rfl) <|aA rfl (asI rfl rfl rfl rfl) <|aB ?_)
     obtain ⟨x51,hx51,h⟩:=aY h
     refine aC (aA rfl (faR 3 rfl rfl rfl Tryz.underlying28 rfl ti24 (lb rfl) rfl rfl) <|aA rfl (aG (d:=.osl _ _ _) rfl rfl (lb rfl) Tryz.underlying24 ag24 ti24 (by decide) (svR rfl) rfl (nle rfl) rfl) <|aA rfl (mvI rfl rfl rfl rfl) <|aA rfl (jN aD.toEnc0 rfl rfl (lb rfl) Tryz.underlying24 ti52 (sv (d:=.osl _ _ _) rfl) rfl (svI rfl) hx51) <|aA rfl (aE rfl rfl (lb rfl) (svR rfl)) <|aB ?_)
     obtain ⟨x52,hx52,h⟩:=aY h
     obtain ⟨x53,hx53,h⟩:=aR h
     obtain ⟨x54,hx54,h⟩:=aY h
     obtain ⟨x55,hx55,h⟩:=aR h
     obtain ⟨x56,hx56,h⟩:=aY h
     obtain ⟨x57,hx57,h⟩:=aR h
     obtain ⟨x58,hx58,h⟩:=aY h
     obtain ⟨x59,hx59,h⟩:=aR h
     refine dG rfl [⟨[10],[],[(55,.ref 2 (((v31 : Int).toNat) * aD.sz + 0))],[]⟩,
      ⟨[10],[],[(56,.ref 2 (((v31 : Int).toNat) * aD.sz + 0))],[]⟩,
      ⟨[10],[],[(57,.ref 2 (((v31 : Int).toNat) * aD.sz + 0))],[]⟩,
      ⟨[57],[],[(58,.ref 2 (((v31 : Int).toNat) * aD.sz + 0))],[]⟩,
      ⟨[58],[],[(59,.ref 2 (((v31 : Int).toNat) * aD.sz + 0))],[]⟩,
      ⟨[59],[2],[(60,.int .i64 x52.From)],[]⟩,
      ⟨[8],[],[(61,.int .i64 x14)],[]⟩,
      ⟨[60,61],[],[(62,.int .i64 x53)],[]⟩,
      ⟨[10],[],[(63,.ref 2 (((v31 : Int).toNat) * aD.sz + 0))],[]⟩,
      ⟨[63],[],[(64,.ref 2 (((v31 : Int).toNat) * aD.sz + 0))],[]⟩,
      ⟨[64],[],[(65,.ref 2 (((v31 : Int).toNat) * aD.sz + 1))],[]⟩,
      ⟨[65],[2],[(66,.int .i64 x54.To)],[]⟩,
      ⟨[8],[],[(67,.int .i64 x14)],[]⟩,
      ⟨[66,67],[],[(68,.int .i64 x55)],[]⟩,
      ⟨[55],[],[(69,.ref 2 (((v31 : Int).toNat) * aD.sz + 0))],[]⟩,
      ⟨[69],[],[(70,.ref 2 (((v31 : Int).toNat) * aD.sz + 0))],[]⟩,
      ⟨[62,70],[2],[],[(2,.blk 52 (D.flat (x57.map aD.d)))]⟩,
      ⟨[56],[],[(71,.ref 2 (((v31 : Int).toNat) * aD.sz + 0))],[]⟩,
      ⟨[71],[],[(72,.ref 2 (((v31 : Int).toNat) * aD.sz + 1))],[]⟩,
      ⟨[68,72],[2],[],[(2,.blk 52 (D.flat (x59.map aD.d)))]⟩] rfl ?_ (by kernel_rfl) ?_
     ·refine .cons (lop rfl rfl fun S hA=>(aK rfl rfl (lb rfl) (svaR hA rfl rfl))) ?_
      refine .cons (lop rfl rfl fun S hA=>(aK rfl rfl (lb rfl) (svaR hA rfl rfl))) ?_
      refine .cons (lop rfl rfl fun S hA=>(aK rfl rfl (lb rfl) (svaR hA rfl rfl))) ?_
      refine .cons (lop rfl rfl fun S hA=>(bM rfl rfl (lb rfl) (svaR hA rfl rfl))) ?_
      refine .cons (lop rfl rfl fun S hA=>(jO rfl rfl (lb rfl) Tryz.underlying52 rfl ti3 (by decide) (svaR hA rfl rfl) (k':=0) rfl)) ?_
      refine .cons (lop rfl rfl fun S hA=>(kR aD.toEnc0 (d:=.int _ _) rfl rfl (lb rfl) Tryz.underlying3 ag3 ti3 (by decide) (svaR hA rfl rfl) (agi hA rfl rfl) hx52 (nle rfl) rfl)) ?_
      refine .cons (lop rfl rfl fun S hA=>(aK rfl rfl (lb rfl) (svaI hA rfl rfl))) ?_
      refine .cons (lop rfl rfl fun S hA=>(pZ rfl rfl (lb rfl) (svaI hA rfl rfl) (svaI hA rfl rfl) hx53)) ?_
      refine .cons (lop rfl rfl fun S hA=>(aK rfl rfl (lb rfl) (svaR hA rfl rfl))) ?_
      refine .cons (lop rfl rfl fun S hA=>(bM rfl rfl (lb rfl) (svaR hA rfl rfl))) ?_
      refine .cons (lop rfl rfl fun S hA=>(jO rfl rfl (lb rfl) Tryz.underlying52 rfl ti3 (by decide) (svaR hA rfl rfl) (k':=1) rfl)) ?_
      refine .cons (lop rfl rfl fun S hA=>(kR aD.toEnc0 (d:=.int _ _) rfl rfl (lb rfl) Tryz.underlying3 ag3 ti3 (by decide) (svaR hA rfl rfl) (agi hA rfl rfl) hx54 (nle rfl) rfl)) ?_
      refine .cons (lop rfl rfl fun S hA=>(aK rfl rfl (lb rfl) (svaI hA rfl rfl))) ?_
      refine .cons (lop rfl rfl fun S hA=>(pZ rfl rfl (lb rfl) (svaI hA rfl rfl) (svaI hA rfl rfl) hx55)) ?_
      refine .cons (lop rfl rfl fun S hA=>(bM rfl rfl (lb rfl) (svaR hA rfl rfl))) ?_
      refine .cons (lop rfl rfl fun S hA=>(jO rfl rfl (lb rfl) Tryz.underlying52 rfl ti3 (by decide) (svaR hA rfl rfl) (k':=0) rfl)) ?_
      refine .cons (lop rfl rfl fun S hA=>(lJ aD.toEnc0 (a':=(⟨x53,x56.To,x56.Path,x56.Fin⟩ : aM)) rfl rfl ti3 (svaR hA rfl rfl) (agi hA rfl rfl) (svaI hA rfl rfl) rfl rfl rfl hx56 (nle rfl) rfl hx57)) ?_
      refine .cons (lop rfl rfl fun S hA=>(bM rfl rfl (lb rfl) (svaR hA rfl rfl))) ?_
      refine .cons (lop rfl rfl fun S hA=>(jO rfl rfl (lb rfl) Tryz.underlying52 rfl ti3 (by decide) (svaR hA rfl rfl) (k':=1) rfl)) ?_
      refine .cons (lop rfl rfl fun S hA=>(lJ aD.toEnc0 (a':=(⟨x58.From,x55,x58.Path,x58.Fin⟩ : aM)) rfl rfl ti3 (svaR hA rfl rfl) (agi hA rfl rfl) (svaI hA rfl rfl) rfl rfl rfl hx58 (nle rfl) rfl hx59)) ?_
      exact .nil
     obtain ⟨x60,hx60,h⟩:=aY h
     obtain ⟨x61,hx61,h⟩:=aR h
     obtain ⟨x62,hx62,h⟩:=aY h
     obtain ⟨x63,hx63,h⟩:=aR h
     refine bD (aA rfl (mvR rfl rfl rfl rfl) <|aA rfl (mvR rfl rfl rfl rfl) <|aA rfl (bM rfl rfl (lb rfl) (svR rfl)) <|aA rfl (jO rfl rfl (lb rfl) Tryz.underlying52 rfl ti4 (by decide) (svR rfl) (k':=3) rfl) <|aA rfl (kR aD.toEnc0 (d:=.bool _) rfl rfl (lb rfl) Tryz.underlying4 ag4 ti4 (by decide) (svR rfl) rfl hx60 (nle rfl) rfl) <|aA rfl (mvB rfl rfl rfl rfl) <|aF rfl rfl (.one rfl) rfl (by decide) (fun hb=>(mvB rfl rfl rfl rfl)) <|aF rfl rfl (.one rfl) rfl (by decide) (fun hb=>(dD rfl rfl (lb rfl) (svcB rfl hb))) <|aA rfl (bO rfl rfl (lb rfl) (svB rfl) rfl rfl hx61) <|aA rfl (bM rfl rfl (lb rfl) (svR rfl)) <|aA rfl (jO rfl rfl (lb rfl) Tryz.underlying52 rfl ti4 (by decide) (svR rfl) (k':=3) rfl) <|aA rfl (lJ aD.toEnc0 (a':=(⟨x62.From,x62.To,x62.Path,x61⟩ : aM)) rfl rfl ti4 (svR rfl) rfl (svB rfl) rfl rfl rfl hx62 (nle rfl) rfl hx63) <|bW ?_)
     refine bZ ?_
     refine aN ?_
     obtain ⟨x64,hx64,h⟩:=aR h
     refine bD (aA rfl (bL rfl rfl (lb rfl) (svI rfl) (sv (d:=.int _ 1) rfl) rfl hx64) <|aA rfl (mvI rfl rfl rfl rfl) <|bW ?_)
     refine aN ⟨(n0,x64,x63),(fun i=>i),⟨(.sames rfl rfl),(.cons (.blk rfl rfl rfl) (.cons (.blk rfl rfl rfl) (.cons (.blk rfl (by rw [← (rB hx63 (rB hx59 (rB hx57 rfl)))]; rfl) rfl) (.cons (EntW.lst rfl) .nil)))),bX [0,1,3,2] rfl (by decide),fun _ _=>rfl⟩,?_,?_⟩
     exact h
     exact Nat.lt_succ_self _
    ·
     replace h:=bU h hc50
     refine cN ?_
     refine bI ?_
     refine bI ?_
     refine cO ?_
     refine aN ?_
     obtain ⟨x65,hx65,h⟩:=aY h
     refine aC (aA rfl (faR 3 rfl rfl rfl Tryz.underlying28 rfl ti24 (lb rfl) rfl rfl) <|aA rfl (aG (d:=.osl _ _ _) rfl rfl (lb rfl) Tryz.underlying24 ag24 ti24 (by decide) (svR rfl) rfl (nle rfl) rfl) <|aA rfl (dU (r':=.osl 4 aD.sz x65.length) (H1':=[(4,.blk 52 (D.flat (x65.map aD.d)))]) 4 [2] rfl rfl (lb rfl) cl65 (.cons (sv (d:=.osl _ _ _) rfl) (.cons (sv (d:=.fn 66 []) rfl) .nil)) rfl rfl ⟨rfl,rfl,by decide,rfl,List.forall_mem_cons.2 ⟨⟨rfl,rfl,(aBd aD rfl),(jT aD)⟩,List.forall_mem_nil _⟩⟩ (iA _ _ hx65) rfl rfl (List.forall_mem_cons.2 ⟨⟨rfl,(jT aD)⟩,List.forall_mem_nil _⟩) (by simp only [List.map_cons,List.map_nil,Ent.ren,eS,fH]; rfl)) <|aA rfl (faR 3 rfl rfl rfl Tryz.underlying28 rfl ti24 (lb rfl) rfl rfl) <|aA rfl (bQ (ds':=q13) rfl rfl ti24 (svR rfl) rfl (sv (d:=.osl _ _ _) rfl) rfl rfl rfl (nle rfl) rfl) <|aB ?_)
     obtain ⟨x66,hx66,h⟩:=aR h
     obtain ⟨x67,hx67,h⟩:=aY h
     refine dG rfl [⟨[8],[],[(89,.int .i64 x14)],[]⟩,
      ⟨[3],[],[(90,.ref 0 1)],[]⟩,
      ⟨[90],[0],[(91,.str a0.Data)],[]⟩,
      ⟨[8],[],[(92,.int .i64 x14)],[]⟩,
      ⟨[3],[],[(93,.ref 0 0)],[]⟩,
      ⟨[93],[0],[(94,.int .i64 a0.Base)],[]⟩,
      ⟨[92,94],[],[(95,.int .i64 x66)],[]⟩,
      ⟨[91,95],[],[(96,.str x67)],[]⟩,
      ⟨[7],[],[(97,.ref 3 0)],[]⟩,
      ⟨[89,97],[3],[],[(3,.blk 28 (w39 x14 x1.2.1 x1.2.2.1 (.osl 4 aD.sz x65.length) x1.2.2.2.2.1 x1.2.2.2.2.2.1 x1.2.2.2.2.2.2.1 x1.2.2.2.2.2.2.2.1 x1.2.2.2.2.2.2.2.2))]⟩,
      ⟨[7],[],[(98,.ref 3 1)],[]⟩,
      ⟨[96,98],[3],[],[(3,.blk 28 (w39 x14 x67 x1.2.2.1 (.osl 4 aD.sz x65.length) x1.2.2.2.2.1 x1.2.2.2.2.2.1 x1.2.2.2.2.2.2.1 x1.2.2.2.2.2.2.2.1 x1.2.2.2.2.2.2.2.2))]⟩] rfl ?_ (by kernel_rfl) ?_
     ·refine .cons (lop rfl rfl fun S hA=>(aK rfl rfl (lb rfl) (svaI hA rfl rfl))) ?_
      refine .cons (lop rfl rfl fun S hA=>(aO rfl rfl (lb rfl) Tryz.underlying28 rfl ti9 (by decide) (svaR hA rfl rfl) (off':=1) rfl)) ?_
      refine .cons (lop rfl rfl fun S hA=>(aG (d:=.str _) rfl rfl (lb rfl) Tryz.underlying9 ag9 ti9 (by decide) (svaR hA rfl rfl) (agi hA rfl rfl) (nle rfl) rfl)) ?_
      refine .cons (lop rfl rfl fun S hA=>(aK rfl rfl (lb rfl) (svaI hA rfl rfl))) ?_
      refine .cons (lop rfl rfl fun S hA=>(aO rfl rfl (lb rfl) Tryz.underlying28 rfl ti3 (by decide) (svaR hA rfl rfl) (off':=0) rfl)) ?_
      refine .cons (lop rfl rfl fun S hA=>(aG (d:=.int _ _) rfl rfl (lb rfl) Tryz.underlying3 ag3 ti3 (by decide) (svaR hA rfl rfl) (agi hA rfl rfl) (nle rfl) rfl)) ?_
      refine .cons (lop rfl rfl fun S hA=>(bL rfl rfl (lb rfl) (svaI hA rfl rfl) (svaI hA rfl rfl) rfl hx66)) ?_
      refine .cons (lop rfl rfl fun S hA=>(hT rfl rfl (lb rfl) Tryz.underlying9 (sv (d:=.str _) (agr hA rfl rfl)) ⟨_,(svaI hA rfl rfl)⟩ rfl hx67)) ?_
      refine .cons (lop rfl rfl fun S hA=>(aO rfl rfl (lb rfl) Tryz.underlying28 rfl ti3 (by decide) (svaR hA rfl rfl) (off':=0) rfl)) ?_
      refine .cons (lop rfl rfl fun S hA=>(bQ (ds':=q13) rfl rfl ti3 (svaR hA rfl rfl) (agi hA rfl rfl) (svaI hA rfl rfl) rfl rfl rfl (nle rfl) rfl)) ?_
      refine .cons (lop rfl rfl fun S hA=>(aO rfl rfl (lb rfl) Tryz.underlying28 rfl ti9 (by decide) (svaR hA rfl rfl) (off':=1) rfl)) ?_
      refine .cons (lop rfl rfl fun S hA=>(bQ (ds':=q13) rfl rfl ti9 (svaR hA rfl rfl) (agi hA rfl rfl) (sv (d:=.str _) (agr hA rfl rfl)) rfl rfl rfl (nle rfl) rfl)) ?_
      exact .nil
     obtain ⟨x68,hx68,h⟩:=aY h
     refine aC (aA rfl (faR 4 rfl rfl rfl Tryz.underlying28 rfl ti26 (lb rfl) rfl rfl) <|aA rfl (lrL la26 rfl rfl rfl rfl rfl (nle rfl) rfl) <|aA rfl (mvI rfl rfl rfl rfl) <|aA rfl (cC (cs:=q25) rfl rfl (lb rfl) Tryz.underlying116 fS aEB rfl (.cons (svI rfl) .nil) rfl) <|aA rfl (aW (r:=.slice _ _) rfl rfl (lb rfl) cl54 (.cons (svL rfl) (.cons (svA q25 rfl) .nil)) rfl (sP _ _ _ hx68)) <|aA rfl (faR 4 rfl rfl rfl Tryz.underlying28 rfl ti26 (lb rfl) rfl rfl) <|aA rfl (bQ (ds':=q13) rfl rfl ti26 (svR rfl) rfl (svL rfl) rfl rfl rfl (nle rfl) rfl) <|aB ?_)
     refine aV ?_
     refine aC (aA rfl (mvB rfl rfl rfl rfl) <|aB ?_)
     refine aT (b:=_) rfl (fun hc69=>?_) (fun hc69=>?_)
     ·
      replace h:=bT h hc69
      refine bD (aA rfl (faR 8 rfl rfl rfl Tryz.underlying28 rfl ti4 (lb rfl) rfl rfl) <|aA rfl (bQ (ds':=q13) rfl rfl ti4 (svR rfl) rfl (sv (d:=.bool true) rfl) rfl rfl rfl (nle rfl) rfl) <|aA rfl (faR 7 rfl rfl rfl Tryz.underlying28 rfl ti4 (lb rfl) rfl rfl) <|aA rfl (bQ (ds':=q13) rfl rfl ti4 (svR rfl) rfl (sv (d:=.bool false) rfl) rfl rfl rfl (nle rfl) rfl) <|bW ?_)
      refine aN ?_
      refine aC (aA rfl (lra q13 la28 rfl rfl rfl rfl rfl (nle rfl) rfl) <|aA rfl (stA q13 q13 ti28 rfl rfl rfl rfl rfl rfl rfl rfl (nle rfl) rfl) <|aB ?_)
      refine aS ?_
      obtain rfl:=Option.some.inj h
      refine ⟨.inr rfl,_,(.cons (rva la28 rfl rfl (nle rfl) rfl) .nil),(.cons (.agg (.k (.k (.k (.cons (FDT aD rfl rfl) (.all _)))))) .nil)⟩
     ·
      replace h:=bU h hc69
      refine aU ?_
      refine aN ?_
      refine aC (aA rfl (lra q13 la28 rfl rfl rfl rfl rfl (nle rfl) rfl) <|aA rfl (stA q13 q13 ti28 rfl rfl rfl rfl rfl rfl rfl rfl (nle rfl) rfl) <|aB ?_)
      refine aS ?_
      obtain rfl:=Option.some.inj h
      refine ⟨.inr rfl,_,(.cons (rva la28 rfl rfl (nle rfl) rfl) .nil),(.cons (.agg (.k (.k (.k (.cons (FDT aD rfl rfl) (.all _)))))) .nil)⟩

theorem rZ (a0 : bB) (a1 : Int) (r : bB) (h : lY a0 a1 = some r) : FnH Tryz.prog 34 [.agg (v2 a0),.ref 1000 0] [(1000,.blk 3 [.int .i64 a1])] (.agg (v2 r)) [(1000,.blk 3 [.int .i64 a1])]:=by
 refine eU (rs:=[.agg (v2 r)]) Tryz.func34 rfl Tryz.ntmps34 (nle rfl) fun O hO=>?_
 show IWP _ _ _ _ ⟨[(0,.agg (v2 a0)),(1,.ref 1000 0)],[(1000,.blk 3 [.int .i64 a1])]⟩ _
 unfold lY at h
 refine aC (aA rfl (bR (cs:=q12) 0 rfl rfl (lb rfl) rfl (svA q12 rfl) rfl rfl) <|aA rfl (bJ (cs:=q14) (cs':=(w38 0 [] 0 ([] : List aM) ([] : List aI) false false false false)) 1 rfl rfl (lb rfl) rfl ti28 rfl rfl (.k (.k (.k (.cons (.nils _) (.cons (.nils _) (.all _))))))) <|aB ?_)
 obtain ⟨x1,hx1,h⟩:=aY h
 refine aC (aA rfl (lra q12 la28 rfl rfl rfl rfl rfl (nle rfl) rfl) <|aA rfl (aG (d:=.int _ _) rfl rfl (lb rfl) Tryz.underlying3 ag3 ti3 (by decide) (svR rfl) rfl (nle rfl) rfl) <|aA rfl (aW (r:=.agg q12) rfl rfl (lb rfl) cl35 (.cons (svA q12 rfl) (.cons (svI rfl) (.cons (sv (d:=.bool false) rfl) .nil))) rfl (aBQ _ _ _ _ hx1)) <|aA rfl (stA q12 q12 ti28 rfl rfl rfl rfl rfl rfl rfl rfl (nle rfl) rfl) <|aB ?_)
 refine aS ?_
 obtain rfl:=Option.some.inj h
 refine ⟨.inr rfl,(fun i=>i),⟨.nil,(.cons (.blk rfl rfl rfl) .nil),bX [1000] rfl (by decide),fun _ _=>rfl⟩,(.cons (rva la28 rfl rfl (nle rfl) rfl) .nil),rfl⟩

theorem mH (a0 : bH) (a1 : Int) (r : bH) (h : gD a0 a1 = some r) : FnH Tryz.prog 25 [.agg (v0 a0),.fn 34 [.ref 1000 0]] [(1000,.blk 3 [.int .i64 a1])] (.agg (v0 r)) [(1000,.blk 3 [.int .i64 a1])]:=by
 refine eU (rs:=[.agg (v0 r)]) Tryz.func25 rfl Tryz.ntmps25 (nle rfl) fun O hO=>?_
 show IWP _ _ _ _ ⟨[(0,.agg (v0 a0)),(1,.fn 34 [.ref 1000 0])],[(1000,.blk 3 [.int .i64 a1])]⟩ _
 unfold gD at h
 refine aC (aA rfl (bR (cs:=q8) 0 rfl rfl (lb rfl) rfl (svA q8 rfl) rfl rfl) <|aA rfl (bJ (cs:=q9) (cs':=(w36 0 [] 0 ([] : List aM) ([] : List aI) false false false false 0 [] ([] : List aX) 0 [] 0 0)) 1 rfl rfl (lb rfl) rfl ti38 rfl rfl (.k (.k (.k (.cons (.nils _) (.cons (.nils _) (.k4 (.k (.k (.cons (.nils _) (.all _))))))))))) <|aB ?_)
 refine aV ?_
 obtain ⟨x1,hx1,h⟩:=aY h
 obtain ⟨x2,hx2,h⟩:=aR h
 refine aC (aA rfl (lra q8 la38 rfl rfl rfl rfl rfl (nle rfl) rfl) <|aA rfl (aW (r:=.int _ _) rfl rfl (lb rfl) cl16 (.cons (svA q8 rfl) .nil) rfl (fW _ _ hx1)) <|aA rfl (aP rfl rfl (lb rfl) (svI rfl) (sv (d:=.int _ 0) rfl) rfl hx2) <|aB ?_)
 refine aT (b:=_) rfl (fun hc3=>?_) (fun hc3=>?_)
 ·
  replace h:=bT h hc3
  obtain ⟨x4,hx4,h⟩:=aY h
  refine bD (aA rfl (aK rfl rfl (lb rfl) (sv (d:=.fn 34 [.ref _ _]) rfl)) <|aA rfl (faR 0 rfl rfl rfl Tryz.underlying38 rfl ti28 (lb rfl) rfl rfl) <|aA rfl (lra q12 la28 rfl rfl rfl rfl rfl (nle rfl) rfl) <|aA rfl (sQ (r':=.agg (v2 x4)) (H1':=[(1000,.blk 3 [.int .i64 a1])]) 2 [1000] rfl rfl (lb rfl) cl34 (sv (d:=.fn 34 [.ref _ _]) rfl) (.cons (svA q12 rfl) .nil) rfl rfl ⟨rfl,rfl,by decide,rfl,List.forall_mem_cons.2 ⟨⟨rfl,rfl,rfl,rfl⟩,List.forall_mem_nil _⟩⟩ (rZ _ _ _ hx4) rfl rfl (List.forall_mem_cons.2 ⟨⟨rfl,rfl⟩,List.forall_mem_nil _⟩) rfl) <|aA rfl (faR 0 rfl rfl rfl Tryz.underlying38 rfl ti28 (lb rfl) rfl rfl) <|aA rfl (stA q12 q8 ti28 rfl rfl rfl rfl rfl rfl rfl rfl (nle rfl) rfl) <|bW ?_)
  refine aN ?_
  refine aC (aA rfl (lra q8 la38 rfl rfl rfl rfl rfl (nle rfl) rfl) <|aA rfl (stA q8 q8 ti38 rfl rfl rfl rfl rfl rfl rfl rfl (nle rfl) rfl) <|aB ?_)
  refine aS ?_
  obtain rfl:=Option.some.inj h
  refine ⟨.inr rfl,(fun i=>i),⟨.nil,(.cons (.blk rfl rfl rfl) .nil),bX [1000] rfl (by decide),fun _ _=>rfl⟩,(.cons (rva la38 rfl rfl (nle rfl) rfl) .nil),rfl⟩
 ·
  replace h:=bU h hc3
  refine aU ?_
  refine aN ?_
  refine aC (aA rfl (lra q8 la38 rfl rfl rfl rfl rfl (nle rfl) rfl) <|aA rfl (stA q8 q8 ti38 rfl rfl rfl rfl rfl rfl rfl rfl (nle rfl) rfl) <|aB ?_)
  refine aS ?_
  obtain rfl:=Option.some.inj h
  refine ⟨.inr rfl,(fun i=>i),⟨.nil,(.cons (.blk rfl rfl rfl) .nil),bX [1000] rfl (by decide),fun _ _=>rfl⟩,(.cons (rva la38 rfl rfl (nle rfl) rfl) .nil),rfl⟩

theorem vJ (a0 : bH) (a1 : Int) (r : bH) (h : oR a0 a1 = some r) : cD Tryz.prog 12 [.agg (v0 a0),.int .i64 a1] (.agg (v0 r)):=by
 refine bA (rs:=[.agg (v0 r)]) Tryz.func12 rfl Tryz.ntmps12 (nle rfl) rfl fun O hO=>?_
 show IWP _ _ _ _ ⟨[(0,.agg (v0 a0)),(1,.int .i64 a1)],[]⟩ _
 unfold oR at h
 refine aC (aA rfl (bR (cs:=q8) 0 rfl rfl (lb rfl) rfl (svA q8 rfl) rfl rfl) <|aA rfl (bR (cs:=[.int _ _]) 1 rfl rfl (lb rfl) rfl (svI rfl) rfl rfl) <|aA rfl (bJ (cs:=q9) (cs':=(w36 0 [] 0 ([] : List aM) ([] : List aI) false false false false 0 [] ([] : List aX) 0 [] 0 0)) 2 rfl rfl (lb rfl) rfl ti38 rfl rfl (.k (.k (.k (.cons (.nils _) (.cons (.nils _) (.k4 (.k (.k (.cons (.nils _) (.all _))))))))))) <|aB ?_)
 obtain ⟨x1,hx1,h⟩:=aY h
 refine aC (aA rfl (lra q8 la38 rfl rfl rfl rfl rfl (nle rfl) rfl) <|aA rfl (kL rfl rfl (lb rfl) (.cons (svR rfl) .nil)) <|aA rfl (dU (r':=.agg (v0 x1)) (H1':=[(1,.blk 3 [.int .i64 a1])]) 3 [1] rfl rfl (lb rfl) cl25 (.cons (svA q8 rfl) (.cons (sv (d:=.fn 34 [.ref _ _]) rfl) .nil)) rfl rfl ⟨rfl,rfl,by decide,rfl,List.forall_mem_cons.2 ⟨⟨rfl,rfl,rfl,rfl⟩,List.forall_mem_nil _⟩⟩ (mH _ _ _ hx1) rfl rfl (List.forall_mem_cons.2 ⟨⟨rfl,rfl⟩,List.forall_mem_nil _⟩) rfl) <|aA rfl (stA q8 q8 ti38 rfl rfl rfl rfl rfl rfl rfl rfl (nle rfl) rfl) <|aB ?_)
 refine aS ?_
 obtain rfl:=Option.some.inj h
 refine ⟨.inr rfl,(.cons (rva la38 rfl rfl (nle rfl) rfl) .nil)⟩

theorem wR (a0 : bH) (r : Int) (h : qE a0 = some r) : cD Tryz.prog 13 [.agg (v0 a0)] (.int .i64 r):=by
 refine bA (rs:=[.int .i64 r]) Tryz.func13 rfl Tryz.ntmps13 (nle rfl) rfl fun O hO=>?_
 show IWP _ _ _ _ ⟨[(0,.agg (v0 a0))],[]⟩ _
 unfold qE at h
 refine aC (aA rfl (bR (cs:=q8) 0 rfl rfl (lb rfl) rfl (svA q8 rfl) rfl rfl) <|aA rfl (aE rfl rfl (lb rfl) (sv (d:=.int _ 0) rfl)) <|aB ?_)
 refine aC (aA rfl (faR 9 rfl rfl rfl Tryz.underlying38 rfl ti33 (lb rfl) rfl rfl) <|aA rfl (faR 9 rfl rfl rfl Tryz.underlying33 rfl ti31 (lb rfl) rfl rfl) <|aA rfl (faR 9 rfl rfl rfl Tryz.underlying31 rfl ti3 (lb rfl) rfl rfl) <|aA rfl (aG (d:=.int _ _) rfl rfl (lb rfl) Tryz.underlying3 ag3 ti3 (by decide) (svR rfl) rfl (nle rfl) rfl) <|aA rfl (asI rfl rfl rfl rfl) <|aB ?_)
 refine aS ?_
 obtain rfl:=Option.some.inj h
 refine ⟨.inr rfl,(.cons (sv rfl) .nil)⟩

theorem aBM (a0 : bB) (a1 : Int) (r : Bool) (h : wA a0 a1 = some r) : cD Tryz.prog 42 [.agg (v2 a0),.int .i64 a1] (.bool r):=by
 refine bA (rs:=[.bool r]) Tryz.func42 rfl Tryz.ntmps42 (nle rfl) rfl fun O hO=>?_
 show IWP _ _ _ _ ⟨[(0,.agg (v2 a0)),(1,.int .i64 a1)],[]⟩ _
 unfold wA at h
 refine aC (aA rfl (bR (cs:=q12) 0 rfl rfl (lb rfl) rfl (svA q12 rfl) rfl rfl) <|aA rfl (aE rfl rfl (lb rfl) (sv (d:=.bool false) rfl)) <|aB ?_)
 refine aV ?_
 obtain ⟨x1,hx1,h⟩:=aY h
 obtain ⟨x2,hx2,h⟩:=aR h
 refine aC (aA rfl (lra q12 la28 rfl rfl rfl rfl rfl (nle rfl) rfl) <|aA rfl (aW (r:=.int _ _) rfl rfl (lb rfl) cl39 (.cons (svA q12 rfl) .nil) rfl (lH _ _ hx1)) <|aA rfl (aP rfl rfl (lb rfl) (svI rfl) (sv (d:=.int _ 0) rfl) rfl hx2) <|aB ?_)
 refine aT (b:=_) rfl (fun hc3=>?_) (fun hc3=>?_)
 ·
  replace h:=bT h hc3
  refine aC (aA rfl (aE rfl rfl (lb rfl) (sv (d:=.bool false) rfl)) <|aB ?_)
  refine aS ?_
  refine aZ ?_
  obtain rfl:=Option.some.inj h
  refine ⟨.inr rfl,(.cons (sv rfl) .nil)⟩
 ·
  replace h:=bU h hc3
  refine aU ?_
  refine aN ?_
  obtain ⟨x4,hx4,h⟩:=aY h
  refine aC (aA rfl (lra q12 la28 rfl rfl rfl rfl rfl (nle rfl) rfl) <|aA rfl (mvI rfl rfl rfl rfl) <|aA rfl (aW (r:=.tuple q34) rfl rfl (lb rfl) cl53 (.cons (svA q12 rfl) (.cons (sv (d:=.int _ 1) rfl) (.cons (svI rfl) .nil))) rfl (pB _ _ _ _ hx4)) <|aA rfl (aK rfl rfl (lb rfl) (sv (d:=.tuple q34) rfl)) <|aA rfl (bE (d:=.agg q17) rfl rfl (lb rfl) (sv (d:=.tuple q34) rfl) rfl) <|aA rfl (bE (d:=.bool _) rfl rfl (lb rfl) (sv (d:=.tuple q34) rfl) rfl) <|aA rfl (bJ (cs:=q17) (cs':=(w42 0 0 0 false)) 1 rfl rfl (lb rfl) rfl ti52 rfl rfl (.all _)) <|aA rfl (stA q17 q17 ti52 rfl rfl rfl rfl rfl rfl rfl rfl (nle rfl) rfl) <|aA rfl (asB rfl rfl rfl rfl) <|aB ?_)
  refine aC (aA rfl (mvB rfl rfl rfl rfl) <|aA rfl (asB rfl rfl rfl rfl) <|aB ?_)
  refine aS ?_
  obtain rfl:=Option.some.inj h
  refine ⟨.inr rfl,(.cons (sv rfl) .nil)⟩

theorem oN (a0 : bH) (r : Bool) (h : mV a0 = some r) : cD Tryz.prog 17 [.agg (v0 a0)] (.bool r):=by
 refine bA (rs:=[.bool r]) Tryz.func17 rfl Tryz.ntmps17 (nle rfl) rfl fun O hO=>?_
 show IWP _ _ _ _ ⟨[(0,.agg (v0 a0))],[]⟩ _
 unfold mV at h
 refine aC (aA rfl (bR (cs:=q8) 0 rfl rfl (lb rfl) rfl (svA q8 rfl) rfl rfl) <|aA rfl (aE rfl rfl (lb rfl) (sv (d:=.bool false) rfl)) <|aB ?_)
 obtain ⟨x1,hx1,h⟩:=aY h
 obtain ⟨x2,hx2,h⟩:=aR h
 obtain ⟨x3,hx3,h⟩:=aY h
 obtain ⟨x4,hx4,h⟩:=aR h
 refine aC (aA rfl (lra q8 la38 rfl rfl rfl rfl rfl (nle rfl) rfl) <|aA rfl (aW (r:=.int _ _) rfl rfl (lb rfl) cl16 (.cons (svA q8 rfl) .nil) rfl (fW _ _ hx1)) <|aA rfl (aP rfl rfl (lb rfl) (svI rfl) (sv (d:=.int _ 0) rfl) rfl hx2) <|aA rfl (mvB rfl rfl rfl rfl) <|aF rfl rfl (.one rfl) rfl (by decide) (fun hb=>(faR 0 rfl rfl rfl Tryz.underlying38 rfl ti28 (lb rfl) rfl rfl)) <|aF rfl rfl (.one rfl) rfl (by decide) (fun hb=>(cA (cs:=q12) rfl rfl (lb rfl) Tryz.underlying28 ag28 ti28 (by decide) (svcR rfl hb) rfl (nle rfl) rfl)) <|aF rfl rfl (.one rfl) rfl (by decide) (fun hb=>(aW (r:=.bool _) rfl rfl (lb rfl) cl42 (.cons (svcA (v2 a0.Send) rfl hb) (.cons (sv (d:=.int _ 1099511627776) rfl) .nil)) rfl (aBM _ _ _ (gd_t hx3 hb)))) <|aA rfl (bO rfl rfl (lb rfl) (svB rfl) rfl rfl hx4) <|aA rfl (asB rfl rfl rfl rfl) <|aB ?_)
 refine aS ?_
 obtain rfl:=Option.some.inj h
 refine ⟨.inr rfl,(.cons (sv rfl) .nil)⟩

theorem kX (a0 : (List aM)) (a1 : (List aM)) (r : Bool) (h : eF a0 a1 = some r) : cD Tryz.prog 75 [.slice false (a0.map aD.d),.slice false (a1.map aD.d)] (.bool r):=by
 refine bA (rs:=[.bool r]) Tryz.func75 rfl Tryz.ntmps75 (nle rfl) rfl fun O hO=>?_
 show IWP _ _ _ _ ⟨[(0,.slice false (a0.map aD.d)),(1,.slice false (a1.map aD.d))],[]⟩ _
 unfold eF at h
 refine aC (aA rfl (aE rfl rfl (lb rfl) (sv (d:=.bool false) rfl)) <|aB ?_)
 refine aV ?_
 obtain ⟨x1,hx1,h⟩:=aR h
 refine aC (aA rfl (mvL rfl rfl rfl rfl) <|aA rfl (cJ aD (l:=a0) rfl rfl (lb rfl) Tryz.underlying24 (svL rfl)) <|aA rfl (mvL rfl rfl rfl rfl) <|aA rfl (cJ aD (l:=a1) rfl rfl (lb rfl) Tryz.underlying24 (svL rfl)) <|aA rfl (aP rfl rfl (lb rfl) (svI rfl) (svI rfl) rfl hx1) <|aB ?_)
 refine aT (b:=_) rfl (fun hc2=>?_) (fun hc2=>?_)
 ·
  replace h:=bT h hc2
  refine aC (aA rfl (aE rfl rfl (lb rfl) (sv (d:=.bool false) rfl)) <|aB ?_)
  refine aS ?_
  refine aZ ?_
  obtain rfl:=Option.some.inj h
  refine ⟨.inr rfl,(.cons (sv rfl) .nil)⟩
 ·
  replace h:=bU h hc2
  refine aU ?_
  refine aN ?_
  refine aV ?_
  refine aC (aA rfl (mvL rfl rfl rfl rfl) <|aA rfl (cJ aD (l:=a0) rfl rfl (lb rfl) Tryz.underlying24 (svL rfl)) <|aA rfl (aK rfl rfl (lb rfl) (sv (d:=.int _ 0) rfl)) <|aB ?_)
  refine bG ?_
  refine cW (α:=Nat × Int) (fun z=>⟨[(0,.slice false (a0.map aD.d)),(1,.slice false (a1.map aD.d)),(12,.int .i64 (a0.length : Int)),(13,.int .i64 z.2)],[]⟩) (fun z=>cL a0 a1 z.1 z.2 = some r) (fun z=>z.1) (fuel,0) (fun i=>i) ⟨(.sames rfl rfl),.nil,bX [] rfl (by decide),fun _ _=>rfl⟩ ?_ ?_
  ·exact h
  ·
   rintro ⟨n0,v10⟩ h
   cases n0 with
   | zero=>exact absurd h (by unfold cL; exact nofun)
   | succ n0 =>
    unfold cL at h
    obtain ⟨x18,hx18,h⟩:=aR h
    refine aC (aA rfl (aP rfl rfl (lb rfl) (svI rfl) (svI rfl) rfl hx18) <|aB ?_)
    refine aV ?_
    refine aT (b:=_) rfl (fun hc19=>?_) (fun hc19=>?_)
    ·
     replace h:=bT h hc19
     refine aU ?_
     refine aN ?_
     refine aV ?_
     refine bG ?_
     refine aC (aA rfl (mvI rfl rfl rfl rfl) <|aA rfl (asI rfl rfl rfl rfl) <|aB ?_)
     obtain ⟨x20,hx20,h⟩:=aY h
     obtain ⟨x21,hx21,h⟩:=aY h
     obtain ⟨x22,hx22,h⟩:=aR h
     refine dG rfl [⟨[0],[],[(16,.slice false (a0.map aD.d))],[]⟩,
      ⟨[5],[],[(17,.int .i64 v10)],[]⟩,
      ⟨[16,17],[],[(18,.fptr (v6 x20))],[]⟩,
      ⟨[18],[],[(19,.agg (v6 x20))],[]⟩,
      ⟨[1],[],[(20,.slice false (a1.map aD.d))],[]⟩,
      ⟨[5],[],[(21,.int .i64 v10)],[]⟩,
      ⟨[20,21],[],[(22,.fptr (v6 x21))],[]⟩,
      ⟨[22],[],[(23,.agg (v6 x21))],[]⟩,
      ⟨[19,23],[],[(24,.bool (!x22))],[]⟩] rfl ?_ (by kernel_rfl) ?_
     ·refine .cons (lop rfl rfl fun S hA=>(aK rfl rfl (lb rfl) (svaL hA rfl rfl))) ?_
      refine .cons (lop rfl rfl fun S hA=>(aK rfl rfl (lb rfl) (svaI hA rfl rfl))) ?_
      refine .cons (lop rfl rfl fun S hA=>(cY aD (cs:=q17) rfl rfl (lb rfl) Tryz.underlying24 ti52 (svaL hA rfl rfl) (svaI hA rfl rfl) hx20 rfl rfl)) ?_
      refine .cons (lop rfl rfl fun S hA=>(cQ (cs:=q17) rfl rfl (lb rfl) Tryz.underlying52 ag52 ti52 (by decide) (sv (d:=.fptr q17) (agr hA rfl rfl)) (nle rfl) rfl)) ?_
      refine .cons (lop rfl rfl fun S hA=>(aK rfl rfl (lb rfl) (svaL hA rfl rfl))) ?_
      refine .cons (lop rfl rfl fun S hA=>(aK rfl rfl (lb rfl) (svaI hA rfl rfl))) ?_
      refine .cons (lop rfl rfl fun S hA=>(cY aD (cs:=q17) rfl rfl (lb rfl) Tryz.underlying24 ti52 (svaL hA rfl rfl) (svaI hA rfl rfl) hx21 rfl rfl)) ?_
      refine .cons (lop rfl rfl fun S hA=>(cQ (cs:=q17) rfl rfl (lb rfl) Tryz.underlying52 ag52 ti52 (by decide) (sv (d:=.fptr q17) (agr hA rfl rfl)) (nle rfl) rfl)) ?_
      refine .cons (lop rfl rfl fun S hA=>(wY rfl rfl (lb rfl) Tryz.underlying52 st52.1 st52.2 (svaA q17 hA rfl rfl) (svaA q17 hA rfl rfl) (congrArg some hx22))) ?_
      exact .nil
     refine aT (b:=_) rfl (fun hc23=>?_) (fun hc23=>?_)
     ·
      replace h:=bT h hc23
      refine aC (aA rfl (aE rfl rfl (lb rfl) (sv (d:=.bool false) rfl)) <|aB ?_)
      refine aS ?_
      refine bP ?_
      refine aZ ?_
      refine aZ ?_
      refine bP ?_
      refine aZ ?_
      obtain rfl:=Option.some.inj h
      refine ⟨.inr rfl,(.cons (sv rfl) .nil)⟩
     ·
      replace h:=bU h hc23
      refine aU ?_
      refine bZ ?_
      refine aN ?_
      obtain ⟨x24,hx24,h⟩:=aR h
      refine bD (aA rfl (bL rfl rfl (lb rfl) (svI rfl) (sv (d:=.int _ 1) rfl) rfl hx24) <|aA rfl (mvI rfl rfl rfl rfl) <|bW ?_)
      refine aN ⟨(n0,x24),(fun i=>i),⟨(.sames rfl rfl),.nil,bX [] rfl (by decide),fun _ _=>rfl⟩,?_,?_⟩
      exact h
      exact Nat.lt_succ_self _
    ·
     replace h:=bU h hc19
     refine cN ?_
     refine bI ?_
     refine bI ?_
     refine cO ?_
     refine aN ?_
     refine aC (aA rfl (aE rfl rfl (lb rfl) (sv (d:=.bool true) rfl)) <|aB ?_)
     refine aS ?_
     obtain rfl:=Option.some.inj h
     refine ⟨.inr rfl,(.cons (sv rfl) .nil)⟩

theorem aBN (a0 : bB) (a1 : bB) (r : Bool) (h : qQ a0 a1 = some r) : cD Tryz.prog 43 [.agg (v2 a0),.agg (v2 a1)] (.bool r):=by
 refine bA (rs:=[.bool r]) Tryz.func43 rfl Tryz.ntmps43 (nle rfl) rfl fun O hO=>?_
 show IWP _ _ _ _ ⟨[(0,.agg (v2 a0)),(1,.agg (v2 a1))],[]⟩ _
 unfold qQ at h
 refine aC (aA rfl (bR (cs:=q12) 0 rfl rfl (lb rfl) rfl (svA q12 rfl) rfl rfl) <|aA rfl (bR (cs:=q12) 1 rfl rfl (lb rfl) rfl (svA q12 rfl) rfl rfl) <|aA rfl (aE rfl rfl (lb rfl) (sv (d:=.bool false) rfl)) <|aB ?_)
 refine aV ?_
 obtain ⟨x1,hx1,h⟩:=aY h
 obtain ⟨x2,hx2,h⟩:=aY h
 obtain ⟨x3,hx3,h⟩:=aR h
 refine aC (aA rfl (faR 3 rfl rfl rfl Tryz.underlying28 rfl ti24 (lb rfl) rfl rfl) <|aA rfl (lrL la24 rfl rfl rfl rfl rfl (nle rfl) rfl) <|aA rfl (faR 3 rfl rfl rfl Tryz.underlying28 rfl ti24 (lb rfl) rfl rfl) <|aA rfl (lrL la24 rfl rfl rfl rfl rfl (nle rfl) rfl) <|aA rfl (aW (r:=.bool _) rfl rfl (lb rfl) cl75 (.cons (svL rfl) (.cons (svL rfl) .nil)) rfl (kX _ _ _ hx1)) <|aA rfl (dD rfl rfl (lb rfl) (svB rfl)) <|aA rfl (mvB rfl rfl rfl rfl) <|aF rfl rfl (.one rfl) rfl (by decide) (fun hb=>(faR 4 rfl rfl rfl Tryz.underlying28 rfl ti26 (lb rfl) rfl rfl)) <|aF rfl rfl (.one rfl) rfl (by decide) (fun hb=>(aG (d:=.slice _ _) rfl rfl (lb rfl) Tryz.underlying26 ag26 ti26 (by decide) (svcR rfl hb) rfl (nle rfl) rfl)) <|aF rfl rfl (.one rfl) rfl (by decide) (fun hb=>(faR 4 rfl rfl rfl Tryz.underlying28 rfl ti26 (lb rfl) rfl rfl)) <|aF rfl rfl (.one rfl) rfl (by decide) (fun hb=>(aG (d:=.slice _ _) rfl rfl (lb rfl) Tryz.underlying26 ag26 ti26 (by decide) (svcR rfl hb) rfl (nle rfl) rfl)) <|aF rfl rfl (.one rfl) rfl (by decide) (fun hb=>(aW (r:=.bool _) rfl rfl (lb rfl) cl76 (.cons (svcL rfl hb) (.cons (svcL rfl hb) .nil)) rfl (uY _ _ _ (gd_t hx2 hb)))) <|aF rfl rfl (.one rfl) rfl (by decide) (fun hb=>(dD rfl rfl (lb rfl) (svcB rfl hb))) <|aA rfl (dM rfl rfl (lb rfl) (svB rfl) rfl rfl hx3) <|aB ?_)
 refine aT (b:=_) rfl (fun hc4=>?_) (fun hc4=>?_)
 ·
  replace h:=bT h hc4
  refine aC (aA rfl (aE rfl rfl (lb rfl) (sv (d:=.bool false) rfl)) <|aB ?_)
  refine aS ?_
  refine aZ ?_
  obtain rfl:=Option.some.inj h
  refine ⟨.inr rfl,(.cons (sv rfl) .nil)⟩
 ·
  replace h:=bU h hc4
  refine aU ?_
  refine aN ?_
  obtain ⟨x5,hx5,h⟩:=aR h
  obtain ⟨x6,hx6,h⟩:=aR h
  obtain ⟨x7,hx7,h⟩:=aR h
  obtain ⟨x8,hx8,h⟩:=aR h
  obtain ⟨x9,hx9,h⟩:=aR h
  obtain ⟨x10,hx10,h⟩:=aR h
  obtain ⟨x11,hx11,h⟩:=aR h
  refine aC (aA rfl (faR 5 rfl rfl rfl Tryz.underlying28 rfl ti4 (lb rfl) rfl rfl) <|aA rfl (aG (d:=.bool _) rfl rfl (lb rfl) Tryz.underlying4 ag4 ti4 (by decide) (svR rfl) rfl (nle rfl) rfl) <|aA rfl (faR 5 rfl rfl rfl Tryz.underlying28 rfl ti4 (lb rfl) rfl rfl) <|aA rfl (aG (d:=.bool _) rfl rfl (lb rfl) Tryz.underlying4 ag4 ti4 (by decide) (svR rfl) rfl (nle rfl) rfl) <|aA rfl (tU rfl rfl (lb rfl) Tryz.underlying4 (svB rfl) (svB rfl) hx5) <|aA rfl (mvB rfl rfl rfl rfl) <|aF rfl rfl (.one rfl) rfl (by decide) (fun hb=>(faR 6 rfl rfl rfl Tryz.underlying28 rfl ti4 (lb rfl) rfl rfl)) <|aF rfl rfl (.one rfl) rfl (by decide) (fun hb=>(aG (d:=.bool _) rfl rfl (lb rfl) Tryz.underlying4 ag4 ti4 (by decide) (svcR rfl hb) rfl (nle rfl) rfl)) <|aF rfl rfl (.one rfl) rfl (by decide) (fun hb=>(faR 6 rfl rfl rfl Tryz.underlying28 rfl ti4 (lb rfl) rfl rfl)) <|aF rfl rfl (.one rfl) rfl (by decide) (fun hb=>(aG (d:=.bool _) rfl rfl (lb rfl) Tryz.underlying4 ag4 ti4 (by decide) (svcR rfl hb) rfl (nle rfl) rfl)) <|aF rfl rfl (.one rfl) rfl (by decide) (fun hb=>(tU rfl rfl (lb rfl) Tryz.underlying4 (svcB rfl hb) (svcB rfl hb) hx6)) <|aA rfl (bO rfl rfl (lb rfl) (svB rfl) rfl rfl hx7) <|aA rfl (mvB rfl rfl rfl rfl) <|aF rfl rfl (.one rfl) rfl (by decide) (fun hb=>(faR 7 rfl rfl rfl Tryz.underlying28 rfl ti4 (lb rfl) rfl rfl)) <|aF rfl rfl (.one rfl) rfl (by decide) (fun hb=>(aG (d:=.bool _) rfl rfl (lb rfl) Tryz.underlying4 ag4 ti4 (by decide) (svcR rfl hb) rfl (nle rfl) rfl)) <|aF rfl rfl (.one rfl) rfl (by decide) (fun hb=>(faR 7 rfl rfl rfl Tryz.underlying28 rfl ti4 (lb rfl) rfl rfl)) <|aF rfl rfl (.one rfl) rfl (by decide) (fun hb=>(aG (d:=.bool _) rfl rfl (lb rfl) Tryz.underlying4 ag4 ti4 (by decide) (svcR rfl hb) rfl (nle rfl) rfl)) <|aF rfl rfl (.one rfl) rfl (by decide) (fun hb=>(tU rfl rfl (lb rfl) Tryz.underlying4 (svcB rfl hb) (svcB rfl hb) hx8)) <|aA rfl (bO rfl rfl (lb rfl) (svB rfl) rfl rfl hx9) <|aA rfl (mvB rfl rfl rfl rfl) <|aF rfl rfl (.one rfl) rfl (by decide) (fun hb=>(faR 8 rfl rfl rfl Tryz.underlying28 rfl ti4 (lb rfl) rfl rfl)) <|aF rfl rfl (.one rfl) rfl (by decide) (fun hb=>(aG (d:=.bool _) rfl rfl (lb rfl) Tryz.underlying4 ag4 ti4 (by decide) (svcR rfl hb) rfl (nle rfl) rfl)) <|aF rfl rfl (.one rfl) rfl (by decide) (fun hb=>(faR 8 rfl rfl rfl Tryz.underlying28 rfl ti4 (lb rfl) rfl rfl)) <|aF rfl rfl (.one rfl) rfl (by decide) (fun hb=>(aG (d:=.bool _) rfl rfl (lb rfl) Tryz.underlying4 ag4 ti4 (by decide) (svcR rfl hb) rfl (nle rfl) rfl)) <|aF rfl rfl (.one rfl) rfl (by decide) (fun hb=>(tU rfl rfl (lb rfl) Tryz.underlying4 (svcB rfl hb) (svcB rfl hb) hx10)) <|aA rfl (bO rfl rfl (lb rfl) (svB rfl) rfl rfl hx11) <|aA rfl (asB rfl rfl rfl rfl) <|aB ?_)
  obtain ⟨x12,hx12,h⟩:=aR h
  obtain ⟨x13,hx13,h⟩:=aR h
  obtain ⟨x14,hx14,h⟩:=aR h
  obtain ⟨x15,hx15,h⟩:=aR h
  obtain ⟨x16,hx16,h⟩:=aR h
  obtain ⟨x17,hx17,h⟩:=aR h
  refine aC (aA rfl (mvB rfl rfl rfl rfl) <|aA rfl (mvB rfl rfl rfl rfl) <|aF rfl rfl (.one rfl) rfl (by decide) (fun hb=>(faR 0 rfl rfl rfl Tryz.underlying28 rfl ti3 (lb rfl) rfl rfl)) <|aF rfl rfl (.one rfl) rfl (by decide) (fun hb=>(aG (d:=.int _ _) rfl rfl (lb rfl) Tryz.underlying3 ag3 ti3 (by decide) (svcR rfl hb) rfl (nle rfl) rfl)) <|aF rfl rfl (.one rfl) rfl (by decide) (fun hb=>(faR 0 rfl rfl rfl Tryz.underlying28 rfl ti3 (lb rfl) rfl rfl)) <|aF rfl rfl (.one rfl) rfl (by decide) (fun hb=>(aG (d:=.int _ _) rfl rfl (lb rfl) Tryz.underlying3 ag3 ti3 (by decide) (svcR rfl hb) rfl (nle rfl) rfl)) <|aF rfl rfl (.one rfl) rfl (by decide) (fun hb=>(aP rfl rfl (lb rfl) (svcI rfl hb) (svcI rfl hb) rfl hx12)) <|aA rfl (bO rfl rfl (lb rfl) (svB rfl) rfl rfl hx13) <|aA rfl (mvB rfl rfl rfl rfl) <|aF rfl rfl (.one rfl) rfl (by decide) (fun hb=>(faR 1 rfl rfl rfl Tryz.underlying28 rfl ti9 (lb rfl) rfl rfl)) <|aF rfl rfl (.one rfl) rfl (by decide) (fun hb=>(aG (d:=.str _) rfl rfl (lb rfl) Tryz.underlying9 ag9 ti9 (by decide) (svcR rfl hb) rfl (nle rfl) rfl)) <|aF rfl rfl (.one rfl) rfl (by decide) (fun hb=>(faR 1 rfl rfl rfl Tryz.underlying28 rfl ti9 (lb rfl) rfl rfl)) <|aF rfl rfl (.one rfl) rfl (by decide) (fun hb=>(aG (d:=.str _) rfl rfl (lb rfl) Tryz.underlying9 ag9 ti9 (by decide) (svcR rfl hb) rfl (nle rfl) rfl)) <|aF rfl rfl (.one rfl) rfl (by decide) (fun hb=>(jM rfl rfl (lb rfl) (svc (d:=.str _) rfl hb) (svc (d:=.str _) rfl hb) rfl hx14)) <|aA rfl (bO rfl rfl (lb rfl) (svB rfl) rfl rfl hx15) <|aA rfl (mvB rfl rfl rfl rfl) <|aF rfl rfl (.one rfl) rfl (by decide) (fun hb=>(faR 2 rfl rfl rfl Tryz.underlying28 rfl ti3 (lb rfl) rfl rfl)) <|aF rfl rfl (.one rfl) rfl (by decide) (fun hb=>(aG (d:=.int _ _) rfl rfl (lb rfl) Tryz.underlying3 ag3 ti3 (by decide) (svcR rfl hb) rfl (nle rfl) rfl)) <|aF rfl rfl (.one rfl) rfl (by decide) (fun hb=>(faR 2 rfl rfl rfl Tryz.underlying28 rfl ti3 (lb rfl) rfl rfl)) <|aF rfl rfl (.one rfl) rfl (by decide) (fun hb=>(aG (d:=.int _ _) rfl rfl (lb rfl) Tryz.underlying3 ag3 ti3 (by decide) (svcR rfl hb) rfl (nle rfl) rfl)) <|aF rfl rfl (.one rfl) rfl (by decide) (fun hb=>(aP rfl rfl (lb rfl) (svcI rfl hb) (svcI rfl hb) rfl hx16)) <|aA rfl (bO rfl rfl (lb rfl) (svB rfl) rfl rfl hx17) <|aA rfl (asB rfl rfl rfl rfl) <|aB ?_)
  refine aS ?_
  obtain rfl:=Option.some.inj h
  refine ⟨.inr rfl,(.cons (sv rfl) .nil)⟩

theorem kY (a0 : (List aX)) (a1 : (List aX)) (r : Bool) (h : eG a0 a1 = some r) : cD Tryz.prog 111 [.slice false (a0.map aL.d),.slice false (a1.map aL.d)] (.bool r):=by
 refine bA (rs:=[.bool r]) Tryz.func111 rfl Tryz.ntmps111 (nle rfl) rfl fun O hO=>?_
 show IWP _ _ _ _ ⟨[(0,.slice false (a0.map aL.d)),(1,.slice false (a1.map aL.d))],[]⟩ _
 unfold eG at h
 refine aC (aA rfl (aE rfl rfl (lb rfl) (sv (d:=.bool false) rfl)) <|aB ?_)
 refine aV ?_
 obtain ⟨x1,hx1,h⟩:=aR h
 refine aC (aA rfl (mvL rfl rfl rfl rfl) <|aA rfl (cJ aL (l:=a0) rfl rfl (lb rfl) Tryz.underlying29 (svL rfl)) <|aA rfl (mvL rfl rfl rfl rfl) <|aA rfl (cJ aL (l:=a1) rfl rfl (lb rfl) Tryz.underlying29 (svL rfl)) <|aA rfl (aP rfl rfl (lb rfl) (svI rfl) (svI rfl) rfl hx1) <|aB ?_)
 refine aT (b:=_) rfl (fun hc2=>?_) (fun hc2=>?_)
 ·
  replace h:=bT h hc2
  refine aC (aA rfl (aE rfl rfl (lb rfl) (sv (d:=.bool false) rfl)) <|aB ?_)
  refine aS ?_
  refine aZ ?_
  obtain rfl:=Option.some.inj h
  refine ⟨.inr rfl,(.cons (sv rfl) .nil)⟩
 ·
  replace h:=bU h hc2
  refine aU ?_
  refine aN ?_
  refine aV ?_
  refine aC (aA rfl (mvL rfl rfl rfl rfl) <|aA rfl (cJ aL (l:=a0) rfl rfl (lb rfl) Tryz.underlying29 (svL rfl)) <|aA rfl (aK rfl rfl (lb rfl) (sv (d:=.int _ 0) rfl)) <|aB ?_)
  refine bG ?_
  refine cW (α:=Nat × Int) (fun z=>⟨[(0,.slice false (a0.map aL.d)),(1,.slice false (a1.map aL.d)),(12,.int .i64 (a0.length : Int)),(13,.int .i64 z.2)],[]⟩) (fun z=>cM a0 a1 z.1 z.2 = some r) (fun z=>z.1) (fuel,0) (fun i=>i) ⟨(.sames rfl rfl),.nil,bX [] rfl (by decide),fun _ _=>rfl⟩ ?_ ?_
  ·exact h
  ·
   rintro ⟨n0,v10⟩ h
   cases n0 with
   | zero=>exact absurd h (by unfold cM; exact nofun)
   | succ n0 =>
    unfold cM at h
    obtain ⟨x18,hx18,h⟩:=aR h
    refine aC (aA rfl (aP rfl rfl (lb rfl) (svI rfl) (svI rfl) rfl hx18) <|aB ?_)
    refine aV ?_
    refine aT (b:=_) rfl (fun hc19=>?_) (fun hc19=>?_)
    ·
     replace h:=bT h hc19
     refine aU ?_
     refine aN ?_
     refine aV ?_
     refine bG ?_
     refine aC (aA rfl (mvI rfl rfl rfl rfl) <|aA rfl (asI rfl rfl rfl rfl) <|aB ?_)
     obtain ⟨x20,hx20,h⟩:=aY h
     obtain ⟨x21,hx21,h⟩:=aY h
     obtain ⟨x22,hx22,h⟩:=aR h
     refine dG rfl [⟨[0],[],[(16,.slice false (a0.map aL.d))],[]⟩,
      ⟨[5],[],[(17,.int .i64 v10)],[]⟩,
      ⟨[16,17],[],[(18,.fptr [.int .i64 x20.At,.str x20.Data])],[]⟩,
      ⟨[18],[],[(19,.agg [.int .i64 x20.At,.str x20.Data])],[]⟩,
      ⟨[1],[],[(20,.slice false (a1.map aL.d))],[]⟩,
      ⟨[5],[],[(21,.int .i64 v10)],[]⟩,
      ⟨[20,21],[],[(22,.fptr [.int .i64 x21.At,.str x21.Data])],[]⟩,
      ⟨[22],[],[(23,.agg [.int .i64 x21.At,.str x21.Data])],[]⟩,
      ⟨[19,23],[],[(24,.bool (!x22))],[]⟩] rfl ?_ (by kernel_rfl) ?_
     ·refine .cons (lop rfl rfl fun S hA=>(aK rfl rfl (lb rfl) (svaL hA rfl rfl))) ?_
      refine .cons (lop rfl rfl fun S hA=>(aK rfl rfl (lb rfl) (svaI hA rfl rfl))) ?_
      refine .cons (lop rfl rfl fun S hA=>(cY aL (cs:=q26) rfl rfl (lb rfl) Tryz.underlying29 gG (svaL hA rfl rfl) (svaI hA rfl rfl) hx20 rfl rfl)) ?_
      refine .cons (lop rfl rfl fun S hA=>(cQ (cs:=q26) rfl rfl (lb rfl) Tryz.underlying165 uB gG (by decide) (sv (d:=.fptr q26) (agr hA rfl rfl)) (nle rfl) rfl)) ?_
      refine .cons (lop rfl rfl fun S hA=>(aK rfl rfl (lb rfl) (svaL hA rfl rfl))) ?_
      refine .cons (lop rfl rfl fun S hA=>(aK rfl rfl (lb rfl) (svaI hA rfl rfl))) ?_
      refine .cons (lop rfl rfl fun S hA=>(cY aL (cs:=q26) rfl rfl (lb rfl) Tryz.underlying29 gG (svaL hA rfl rfl) (svaI hA rfl rfl) hx21 rfl rfl)) ?_
      refine .cons (lop rfl rfl fun S hA=>(cQ (cs:=q26) rfl rfl (lb rfl) Tryz.underlying165 uB gG (by decide) (sv (d:=.fptr q26) (agr hA rfl rfl)) (nle rfl) rfl)) ?_
      refine .cons (lop rfl rfl fun S hA=>(wY rfl rfl (lb rfl) Tryz.underlying165 st165.1 st165.2 (svaA q26 hA rfl rfl) (svaA q26 hA rfl rfl) (congrArg some hx22))) ?_
      exact .nil
     refine aT (b:=_) rfl (fun hc23=>?_) (fun hc23=>?_)
     ·
      replace h:=bT h hc23
      refine aC (aA rfl (aE rfl rfl (lb rfl) (sv (d:=.bool false) rfl)) <|aB ?_)
      refine aS ?_
      refine bP ?_
      refine aZ ?_
      refine aZ ?_
      refine bP ?_
      refine aZ ?_
      obtain rfl:=Option.some.inj h
      refine ⟨.inr rfl,(.cons (sv rfl) .nil)⟩
     ·
      replace h:=bU h hc23
      refine aU ?_
      refine bZ ?_
      refine aN ?_
      obtain ⟨x24,hx24,h⟩:=aR h
      refine bD (aA rfl (bL rfl rfl (lb rfl) (svI rfl) (sv (d:=.int _ 1) rfl) rfl hx24) <|aA rfl (mvI rfl rfl rfl rfl) <|bW ?_)
      refine aN ⟨(n0,x24),(fun i=>i),⟨(.sames rfl rfl),.nil,bX [] rfl (by decide),fun _ _=>rfl⟩,?_,?_⟩
      exact h
      exact Nat.lt_succ_self _
    ·
     replace h:=bU h hc19
     refine cN ?_
     refine bI ?_
     refine bI ?_
     refine cO ?_
     refine aN ?_
     refine aC (aA rfl (aE rfl rfl (lb rfl) (sv (d:=.bool true) rfl)) <|aB ?_)
     refine aS ?_
     obtain rfl:=Option.some.inj h
     refine ⟨.inr rfl,(.cons (sv rfl) .nil)⟩

theorem aAc (a0 : bS) (a1 : bS) (r : Bool) (h : rK a0 a1 = some r) : cD Tryz.prog 77 [.agg (v5 a0),.agg (v5 a1)] (.bool r):=by
 refine bA (rs:=[.bool r]) Tryz.func77 rfl Tryz.ntmps77 (nle rfl) rfl fun O hO=>?_
 show IWP _ _ _ _ ⟨[(0,.agg (v5 a0)),(1,.agg (v5 a1))],[]⟩ _
 unfold rK at h
 refine aC (aA rfl (bR (cs:=q19) 0 rfl rfl (lb rfl) rfl (svA q19 rfl) rfl rfl) <|aA rfl (bR (cs:=q19) 1 rfl rfl (lb rfl) rfl (svA q19 rfl) rfl rfl) <|aA rfl (aE rfl rfl (lb rfl) (sv (d:=.bool false) rfl)) <|aB ?_)
 obtain ⟨x1,hx1,h⟩:=aR h
 obtain ⟨x2,hx2,h⟩:=aR h
 obtain ⟨x3,hx3,h⟩:=aR h
 obtain ⟨x4,hx4,h⟩:=aY h
 obtain ⟨x5,hx5,h⟩:=aR h
 refine aC (aA rfl (faR 0 rfl rfl rfl Tryz.underlying31 rfl ti3 (lb rfl) rfl rfl) <|aA rfl (aG (d:=.int _ _) rfl rfl (lb rfl) Tryz.underlying3 ag3 ti3 (by decide) (svR rfl) rfl (nle rfl) rfl) <|aA rfl (faR 0 rfl rfl rfl Tryz.underlying31 rfl ti3 (lb rfl) rfl rfl) <|aA rfl (aG (d:=.int _ _) rfl rfl (lb rfl) Tryz.underlying3 ag3 ti3 (by decide) (svR rfl) rfl (nle rfl) rfl) <|aA rfl (aP rfl rfl (lb rfl) (svI rfl) (svI rfl) rfl hx1) <|aA rfl (mvB rfl rfl rfl rfl) <|aF rfl rfl (.one rfl) rfl (by decide) (fun hb=>(faR 1 rfl rfl rfl Tryz.underlying31 rfl ti9 (lb rfl) rfl rfl)) <|aF rfl rfl (.one rfl) rfl (by decide) (fun hb=>(aG (d:=.str _) rfl rfl (lb rfl) Tryz.underlying9 ag9 ti9 (by decide) (svcR rfl hb) rfl (nle rfl) rfl)) <|aF rfl rfl (.one rfl) rfl (by decide) (fun hb=>(faR 1 rfl rfl rfl Tryz.underlying31 rfl ti9 (lb rfl) rfl rfl)) <|aF rfl rfl (.one rfl) rfl (by decide) (fun hb=>(aG (d:=.str _) rfl rfl (lb rfl) Tryz.underlying9 ag9 ti9 (by decide) (svcR rfl hb) rfl (nle rfl) rfl)) <|aF rfl rfl (.one rfl) rfl (by decide) (fun hb=>(jM rfl rfl (lb rfl) (svc (d:=.str _) rfl hb) (svc (d:=.str _) rfl hb) rfl hx2)) <|aA rfl (bO rfl rfl (lb rfl) (svB rfl) rfl rfl hx3) <|aA rfl (mvB rfl rfl rfl rfl) <|aF rfl rfl (.one rfl) rfl (by decide) (fun hb=>(faR 2 rfl rfl rfl Tryz.underlying31 rfl ti29 (lb rfl) rfl rfl)) <|aF rfl rfl (.one rfl) rfl (by decide) (fun hb=>(aG (d:=.slice _ _) rfl rfl (lb rfl) Tryz.underlying29 ag29 ti29 (by decide) (svcR rfl hb) rfl (nle rfl) rfl)) <|aF rfl rfl (.one rfl) rfl (by decide) (fun hb=>(faR 2 rfl rfl rfl Tryz.underlying31 rfl ti29 (lb rfl) rfl rfl)) <|aF rfl rfl (.one rfl) rfl (by decide) (fun hb=>(aG (d:=.slice _ _) rfl rfl (lb rfl) Tryz.underlying29 ag29 ti29 (by decide) (svcR rfl hb) rfl (nle rfl) rfl)) <|aF rfl rfl (.one rfl) rfl (by decide) (fun hb=>(aW (r:=.bool _) rfl rfl (lb rfl) cl111 (.cons (svcL rfl hb) (.cons (svcL rfl hb) .nil)) rfl (kY _ _ _ (gd_t hx4 hb)))) <|aA rfl (bO rfl rfl (lb rfl) (svB rfl) rfl rfl hx5) <|aA rfl (asB rfl rfl rfl rfl) <|aB ?_)
 refine aS ?_
 obtain rfl:=Option.some.inj h
 refine ⟨.inr rfl,(.cons (sv rfl) .nil)⟩

theorem aBT (a0 : cI) (a1 : cI) (r : Bool) (h : qT a0 a1 = some r) : cD Tryz.prog 44 [.agg (v4 a0),.agg (v4 a1)] (.bool r):=by
 refine bA (rs:=[.bool r]) Tryz.func44 rfl Tryz.ntmps44 (nle rfl) rfl fun O hO=>?_
 show IWP _ _ _ _ ⟨[(0,.agg (v4 a0)),(1,.agg (v4 a1))],[]⟩ _
 unfold qT at h
 refine aC (aA rfl (bR (cs:=q16) 0 rfl rfl (lb rfl) rfl (svA q16 rfl) rfl rfl) <|aA rfl (bR (cs:=q16) 1 rfl rfl (lb rfl) rfl (svA q16 rfl) rfl rfl) <|aA rfl (aE rfl rfl (lb rfl) (sv (d:=.bool false) rfl)) <|aB ?_)
 obtain ⟨x1,hx1,h⟩:=aR h
 obtain ⟨x2,hx2,h⟩:=aY h
 obtain ⟨x3,hx3,h⟩:=aR h
 refine aC (aA rfl (faR 3 rfl rfl rfl Tryz.underlying33 rfl ti3 (lb rfl) rfl rfl) <|aA rfl (aG (d:=.int _ _) rfl rfl (lb rfl) Tryz.underlying3 ag3 ti3 (by decide) (svR rfl) rfl (nle rfl) rfl) <|aA rfl (faR 3 rfl rfl rfl Tryz.underlying33 rfl ti3 (lb rfl) rfl rfl) <|aA rfl (aG (d:=.int _ _) rfl rfl (lb rfl) Tryz.underlying3 ag3 ti3 (by decide) (svR rfl) rfl (nle rfl) rfl) <|aA rfl (aP rfl rfl (lb rfl) (svI rfl) (svI rfl) rfl hx1) <|aA rfl (mvB rfl rfl rfl rfl) <|aF rfl rfl (.one rfl) rfl (by decide) (fun hb=>(faR 0 rfl rfl rfl Tryz.underlying33 rfl ti31 (lb rfl) rfl rfl)) <|aF rfl rfl (.one rfl) rfl (by decide) (fun hb=>(cA (cs:=q19) rfl rfl (lb rfl) Tryz.underlying31 ag31 ti31 (by decide) (svcR rfl hb) rfl (nle rfl) rfl)) <|aF rfl rfl (.one rfl) rfl (by decide) (fun hb=>(faR 0 rfl rfl rfl Tryz.underlying33 rfl ti31 (lb rfl) rfl rfl)) <|aF rfl rfl (.one rfl) rfl (by decide) (fun hb=>(cA (cs:=q19) rfl rfl (lb rfl) Tryz.underlying31 ag31 ti31 (by decide) (svcR rfl hb) rfl (nle rfl) rfl)) <|aF rfl rfl (.one rfl) rfl (by decide) (fun hb=>(aW (r:=.bool _) rfl rfl (lb rfl) cl77 (.cons (svcA (v5 a0.Recv) rfl hb) (.cons (svcA (v5 a1.Recv) rfl hb) .nil)) rfl (aAc _ _ _ (gd_t hx2 hb)))) <|aA rfl (bO rfl rfl (lb rfl) (svB rfl) rfl rfl hx3) <|aA rfl (asB rfl rfl rfl rfl) <|aB ?_)
 refine aS ?_
 obtain rfl:=Option.some.inj h
 refine ⟨.inr rfl,(.cons (sv rfl) .nil)⟩

theorem kZ (a0 : bH) (a1 : bH) (r : Bool) (h : gR a0 a1 = some r) : cD Tryz.prog 18 [.agg (v0 a0),.agg (v0 a1)] (.bool r):=by
 refine bA (rs:=[.bool r]) Tryz.func18 rfl Tryz.ntmps18 (nle rfl) rfl fun O hO=>?_
 show IWP _ _ _ _ ⟨[(0,.agg (v0 a0)),(1,.agg (v0 a1))],[]⟩ _
 unfold gR at h
 refine aC (aA rfl (bR (cs:=q8) 0 rfl rfl (lb rfl) rfl (svA q8 rfl) rfl rfl) <|aA rfl (bR (cs:=q8) 1 rfl rfl (lb rfl) rfl (svA q8 rfl) rfl rfl) <|aA rfl (aE rfl rfl (lb rfl) (sv (d:=.bool false) rfl)) <|aB ?_)
 obtain ⟨x1,hx1,h⟩:=aR h
 obtain ⟨x2,hx2,h⟩:=aY h
 obtain ⟨x3,hx3,h⟩:=aR h
 obtain ⟨x4,hx4,h⟩:=aY h
 obtain ⟨x5,hx5,h⟩:=aR h
 refine aC (aA rfl (faR 13 rfl rfl rfl Tryz.underlying38 rfl ti36 (lb rfl) rfl rfl) <|aA rfl (lra q22 la36 rfl rfl rfl rfl rfl (nle rfl) rfl) <|aA rfl (faR 13 rfl rfl rfl Tryz.underlying38 rfl ti36 (lb rfl) rfl rfl) <|aA rfl (lra q22 la36 rfl rfl rfl rfl rfl (nle rfl) rfl) <|aA rfl (iop_eqs rfl rfl (lb rfl) Tryz.underlying36 st36.1 st36.2 (svA q22 rfl) (svA q22 rfl) (congrArg some hx1)) <|aA rfl (mvB rfl rfl rfl rfl) <|aF rfl rfl (.one rfl) rfl (by decide) (fun hb=>(faR 0 rfl rfl rfl Tryz.underlying38 rfl ti28 (lb rfl) rfl rfl)) <|aF rfl rfl (.one rfl) rfl (by decide) (fun hb=>(cA (cs:=q12) rfl rfl (lb rfl) Tryz.underlying28 ag28 ti28 (by decide) (svcR rfl hb) rfl (nle rfl) rfl)) <|aF rfl rfl (.one rfl) rfl (by decide) (fun hb=>(faR 0 rfl rfl rfl Tryz.underlying38 rfl ti28 (lb rfl) rfl rfl)) <|aF rfl rfl (.one rfl) rfl (by decide) (fun hb=>(cA (cs:=q12) rfl rfl (lb rfl) Tryz.underlying28 ag28 ti28 (by decide) (svcR rfl hb) rfl (nle rfl) rfl)) <|aF rfl rfl (.one rfl) rfl (by decide) (fun hb=>(aW (r:=.bool _) rfl rfl (lb rfl) cl43 (.cons (svcA (v2 a0.Send) rfl hb) (.cons (svcA (v2 a1.Send) rfl hb) .nil)) rfl (aBN _ _ _ (gd_t hx2 hb)))) <|aA rfl (bO rfl rfl (lb rfl) (svB rfl) rfl rfl hx3) <|aA rfl (mvB rfl rfl rfl rfl) <|aF rfl rfl (.one rfl) rfl (by decide) (fun hb=>(faR 9 rfl rfl rfl Tryz.underlying38 rfl ti33 (lb rfl) rfl rfl)) <|aF rfl rfl (.one rfl) rfl (by decide) (fun hb=>(cA (cs:=q16) rfl rfl (lb rfl) Tryz.underlying33 ag33 ti33 (by decide) (svcR rfl hb) rfl (nle rfl) rfl)) <|aF rfl rfl (.one rfl) rfl (by decide) (fun hb=>(faR 9 rfl rfl rfl Tryz.underlying38 rfl ti33 (lb rfl) rfl rfl)) <|aF rfl rfl (.one rfl) rfl (by decide) (fun hb=>(cA (cs:=q16) rfl rfl (lb rfl) Tryz.underlying33 ag33 ti33 (by decide) (svcR rfl hb) rfl (nle rfl) rfl)) <|aF rfl rfl (.one rfl) rfl (by decide) (fun hb=>(aW (r:=.bool _) rfl rfl (lb rfl) cl44 (.cons (svcA (v4 a0.Recv) rfl hb) (.cons (svcA (v4 a1.Recv) rfl hb) .nil)) rfl (aBT _ _ _ (gd_t hx4 hb)))) <|aA rfl (bO rfl rfl (lb rfl) (svB rfl) rfl rfl hx5) <|aA rfl (asB rfl rfl rfl rfl) <|aB ?_)
 refine aS ?_
 obtain rfl:=Option.some.inj h
 refine ⟨.inr rfl,(.cons (sv rfl) .nil)⟩

theorem gX  (r : Bool) (h : fC = some r) : cD Tryz.prog 5 [] (.bool r):=by
 refine bA (rs:=[.bool r]) Tryz.func5 rfl Tryz.ntmps5 (nle rfl) rfl fun O hO=>?_
 show IWP _ _ _ _ ⟨[],[]⟩ _
 unfold fC at h
 refine aC (aA rfl (aE rfl rfl (lb rfl) (sv (d:=.bool false) rfl)) <|aB ?_)
 obtain ⟨x1,hx1,h⟩:=aY h
 obtain ⟨x2,hx2,h⟩:=aY h
 refine aC (aA rfl (aW (r:=.agg q8) rfl rfl (lb rfl) cl6 .nil rfl (lQ  _ hx1)) <|aA rfl (pX (d':=.agg (w37 6 false 0 0 0 0 7 0 ([] : List bK) [])) (cC (cs:=q11) rfl rfl (lb rfl) Tryz.underlying50 ti50 pl50 rfl (.cons (sv (d:=.int _ 6) rfl) (.cons (sv (d:=.int _ 7) rfl) .nil)) rfl) (.agg (.k4 (.k4 (.cons (.nils _) (.all _)))))) <|aA rfl (aW (r:=.tuple q35) rfl rfl (lb rfl) cl8 (.cons (svA q8 rfl) (.cons (svA q10 rfl) .nil)) rfl (oO _ _ _ hx2)) <|aA rfl (aK rfl rfl (lb rfl) (sv (d:=.tuple q35) rfl)) <|aA rfl (bE (d:=.agg q8) rfl rfl (lb rfl) (sv (d:=.tuple q35) rfl) rfl) <|aA rfl (bE (d:=.int _ _) rfl rfl (lb rfl) (sv (d:=.tuple q35) rfl) rfl) <|aA rfl (bJ (cs:=q9) (cs':=(w36 0 [] 0 ([] : List aM) ([] : List aI) false false false false 0 [] ([] : List aX) 0 [] 0 0)) 0 rfl rfl (lb rfl) rfl ti38 rfl rfl (.k (.k (.k (.cons (.nils _) (.cons (.nils _) (.k4 (.k (.k (.cons (.nils _) (.all _))))))))))) <|aA rfl (stA q8 q8 ti38 rfl rfl rfl rfl rfl rfl rfl rfl (nle rfl) rfl) <|aA rfl (asI rfl rfl rfl rfl) <|aB ?_)
 obtain ⟨x3,hx3,h⟩:=aY h
 refine aC (aA rfl (lra q8 la38 rfl rfl rfl rfl rfl (nle rfl) rfl) <|aA rfl (pX (d':=.agg (w37 9 false 0 0 0 0 0 0 ([] : List bK) [])) (cC (cs:=q11) rfl rfl (lb rfl) Tryz.underlying50 ti50 pl50 rfl (.cons (sv (d:=.int _ 9) rfl) .nil) rfl) (.agg (.k4 (.k4 (.cons (.nils _) (.all _)))))) <|aA rfl (aW (r:=.tuple q35) rfl rfl (lb rfl) cl8 (.cons (svA q8 rfl) (.cons (svA q10 rfl) .nil)) rfl (oO _ _ _ hx3)) <|aA rfl (aK rfl rfl (lb rfl) (sv (d:=.tuple q35) rfl)) <|aA rfl (bE (d:=.agg q8) rfl rfl (lb rfl) (sv (d:=.tuple q35) rfl) rfl) <|aA rfl (bE (d:=.int _ _) rfl rfl (lb rfl) (sv (d:=.tuple q35) rfl) rfl) <|aA rfl (bJ (cs:=q9) (cs':=(w36 0 [] 0 ([] : List aM) ([] : List aI) false false false false 0 [] ([] : List aX) 0 [] 0 0)) 1 rfl rfl (lb rfl) rfl ti38 rfl rfl (.k (.k (.k (.cons (.nils _) (.cons (.nils _) (.k4 (.k (.k (.cons (.nils _) (.all _))))))))))) <|aA rfl (stA q8 q8 ti38 rfl rfl rfl rfl rfl rfl rfl rfl (nle rfl) rfl) <|aA rfl (asI rfl rfl rfl rfl) <|aB ?_)
 obtain ⟨x4,hx4,h⟩:=aY h
 refine aC (aA rfl (lra q8 la38 rfl rfl rfl rfl rfl (nle rfl) rfl) <|aA rfl (aW (r:=.tuple q29) rfl rfl (lb rfl) cl9 (.cons (svA q8 rfl) (.cons (sv (d:=.int _ 1) rfl) (.cons (sv (d:=.int _ 3) rfl) .nil))) rfl (sE _ _ _ _ hx4)) <|aA rfl (aK rfl rfl (lb rfl) (sv (d:=.tuple q29) rfl)) <|aA rfl (bE (d:=.agg q8) rfl rfl (lb rfl) (sv (d:=.tuple q29) rfl) rfl) <|aA rfl (bE (d:=.agg q17) rfl rfl (lb rfl) (sv (d:=.tuple q29) rfl) rfl) <|aA rfl (bE (d:=.str _) rfl rfl (lb rfl) (sv (d:=.tuple q29) rfl) rfl) <|aA rfl (bE (d:=.bool _) rfl rfl (lb rfl) (sv (d:=.tuple q29) rfl) rfl) <|aA rfl (bJ (cs:=q9) (cs':=(w36 0 [] 0 ([] : List aM) ([] : List aI) false false false false 0 [] ([] : List aX) 0 [] 0 0)) 2 rfl rfl (lb rfl) rfl ti38 rfl rfl (.k (.k (.k (.cons (.nils _) (.cons (.nils _) (.k4 (.k (.k (.cons (.nils _) (.all _))))))))))) <|aA rfl (bJ (cs:=q17) (cs':=(w42 0 0 0 false)) 3 rfl rfl (lb rfl) rfl ti52 rfl rfl (.all _)) <|aA rfl (stA q8 q8 ti38 rfl rfl rfl rfl rfl rfl rfl rfl (nle rfl) rfl) <|aA rfl (stA q17 q17 ti52 rfl rfl rfl rfl rfl rfl rfl rfl (nle rfl) rfl) <|aA rfl (aE rfl rfl (lb rfl) (sv (d:=.str _) rfl)) <|aA rfl (asB rfl rfl rfl rfl) <|aB ?_)
 obtain ⟨x5,hx5,h⟩:=aY h
 refine aC (aA rfl (lra q8 la38 rfl rfl rfl rfl rfl (nle rfl) rfl) <|aA rfl (aW (r:=.tuple q29) rfl rfl (lb rfl) cl9 (.cons (svA q8 rfl) (.cons (sv (d:=.int _ 2) rfl) (.cons (sv (d:=.int _ 9) rfl) .nil))) rfl (sE _ _ _ _ hx5)) <|aA rfl (aK rfl rfl (lb rfl) (sv (d:=.tuple q29) rfl)) <|aA rfl (bE (d:=.agg q8) rfl rfl (lb rfl) (sv (d:=.tuple q29) rfl) rfl) <|aA rfl (bE (d:=.agg q17) rfl rfl (lb rfl) (sv (d:=.tuple q29) rfl) rfl) <|aA rfl (bE (d:=.str _) rfl rfl (lb rfl) (sv (d:=.tuple q29) rfl) rfl) <|aA rfl (bE (d:=.bool _) rfl rfl (lb rfl) (sv (d:=.tuple q29) rfl) rfl) <|aA rfl (bJ (cs:=q9) (cs':=(w36 0 [] 0 ([] : List aM) ([] : List aI) false false false false 0 [] ([] : List aX) 0 [] 0 0)) 4 rfl rfl (lb rfl) rfl ti38 rfl rfl (.k (.k (.k (.cons (.nils _) (.cons (.nils _) (.k4 (.k (.k (.cons (.nils _) (.all _))))))))))) <|aA rfl (bJ (cs:=q17) (cs':=(w42 0 0 0 false)) 5 rfl rfl (lb rfl) rfl ti52 rfl rfl (.all _)) <|aA rfl (stA q8 q8 ti38 rfl rfl rfl rfl rfl rfl rfl rfl (nle rfl) rfl) <|aA rfl (stA q17 q17 ti52 rfl rfl rfl rfl rfl rfl rfl rfl (nle rfl) rfl) <|aA rfl (aE rfl rfl (lb rfl) (sv (d:=.str _) rfl)) <|aA rfl (asB rfl rfl rfl rfl) <|aB ?_)
 obtain ⟨x6,hx6,h⟩:=aY h
 obtain ⟨x7,hx7,h⟩:=aY h
 refine aC (aA rfl (aW (r:=.agg q8) rfl rfl (lb rfl) cl6 .nil rfl (lQ  _ hx6)) <|aA rfl (aK rfl rfl (lb rfl) (sv (d:=.str _) rfl)) <|aA rfl (aW (r:=.tuple q30) rfl rfl (lb rfl) cl10 (.cons (svA q8 rfl) (.cons (sv (d:=.int _ 3) rfl) (.cons (sv (d:=.str _) rfl) .nil))) rfl (iE _ _ _ _ hx7)) <|aA rfl (aK rfl rfl (lb rfl) (sv (d:=.tuple q30) rfl)) <|aA rfl (bE (d:=.agg q8) rfl rfl (lb rfl) (sv (d:=.tuple q30) rfl) rfl) <|aA rfl (bE (d:=.slice _ _) rfl rfl (lb rfl) (sv (d:=.tuple q30) rfl) rfl) <|aA rfl (bE (d:=.int _ _) rfl rfl (lb rfl) (sv (d:=.tuple q30) rfl) rfl) <|aA rfl (bJ (cs:=q9) (cs':=(w36 0 [] 0 ([] : List aM) ([] : List aI) false false false false 0 [] ([] : List aX) 0 [] 0 0)) 6 rfl rfl (lb rfl) rfl ti38 rfl rfl (.k (.k (.k (.cons (.nils _) (.cons (.nils _) (.k4 (.k (.k (.cons (.nils _) (.all _))))))))))) <|aA rfl (stA q8 q8 ti38 rfl rfl rfl rfl rfl rfl rfl rfl (nle rfl) rfl) <|aA rfl (aE rfl rfl (lb rfl) (svL rfl)) <|aA rfl (asI rfl rfl rfl rfl) <|aB ?_)
 obtain ⟨x8,hx8,h⟩:=aY h
 refine aC (aA rfl (lra q8 la38 rfl rfl rfl rfl rfl (nle rfl) rfl) <|aA rfl (aK rfl rfl (lb rfl) (sv (d:=.str _) rfl)) <|aA rfl (aW (r:=.tuple q30) rfl rfl (lb rfl) cl10 (.cons (svA q8 rfl) (.cons (sv (d:=.int _ 0) rfl) (.cons (sv (d:=.str _) rfl) .nil))) rfl (iE _ _ _ _ hx8)) <|aA rfl (aK rfl rfl (lb rfl) (sv (d:=.tuple q30) rfl)) <|aA rfl (bE (d:=.agg q8) rfl rfl (lb rfl) (sv (d:=.tuple q30) rfl) rfl) <|aA rfl (bE (d:=.slice _ _) rfl rfl (lb rfl) (sv (d:=.tuple q30) rfl) rfl) <|aA rfl (bE (d:=.int _ _) rfl rfl (lb rfl) (sv (d:=.tuple q30) rfl) rfl) <|aA rfl (bJ (cs:=q9) (cs':=(w36 0 [] 0 ([] : List aM) ([] : List aI) false false false false 0 [] ([] : List aX) 0 [] 0 0)) 7 rfl rfl (lb rfl) rfl ti38 rfl rfl (.k (.k (.k (.cons (.nils _) (.cons (.nils _) (.k4 (.k (.k (.cons (.nils _) (.all _))))))))))) <|aA rfl (stA q8 q8 ti38 rfl rfl rfl rfl rfl rfl rfl rfl (nle rfl) rfl) <|aA rfl (aE rfl rfl (lb rfl) (svL rfl)) <|aA rfl (asI rfl rfl rfl rfl) <|aB ?_)
 obtain ⟨x9,hx9,h⟩:=aY h
 refine aC (aA rfl (lra q8 la38 rfl rfl rfl rfl rfl (nle rfl) rfl) <|aA rfl (aW (r:=.tuple q30) rfl rfl (lb rfl) cl10 (.cons (svA q8 rfl) (.cons (sv (d:=.int _ 4) rfl) (.cons (sv (d:=.str [4,1,0,10,0,2,0,0]) rfl) .nil))) rfl (iE _ _ _ _ hx9)) <|aA rfl (aK rfl rfl (lb rfl) (sv (d:=.tuple q30) rfl)) <|aA rfl (bE (d:=.agg q8) rfl rfl (lb rfl) (sv (d:=.tuple q30) rfl) rfl) <|aA rfl (bE (d:=.slice _ _) rfl rfl (lb rfl) (sv (d:=.tuple q30) rfl) rfl) <|aA rfl (bE (d:=.int _ _) rfl rfl (lb rfl) (sv (d:=.tuple q30) rfl) rfl) <|aA rfl (bJ (cs:=q9) (cs':=(w36 0 [] 0 ([] : List aM) ([] : List aI) false false false false 0 [] ([] : List aX) 0 [] 0 0)) 8 rfl rfl (lb rfl) rfl ti38 rfl rfl (.k (.k (.k (.cons (.nils _) (.cons (.nils _) (.k4 (.k (.k (.cons (.nils _) (.all _))))))))))) <|aA rfl (stA q8 q8 ti38 rfl rfl rfl rfl rfl rfl rfl rfl (nle rfl) rfl) <|aA rfl (aE rfl rfl (lb rfl) (svL rfl)) <|aA rfl (asI rfl rfl rfl rfl) <|aB ?_)
 obtain ⟨x10,hx10,h⟩:=aY h
 refine aC (aA rfl (lra q8 la38 rfl rfl rfl rfl rfl (nle rfl) rfl) <|aA rfl (aW (r:=.agg q8) rfl rfl (lb rfl) cl14 (.cons (svA q8 rfl) (.cons (sv (d:=.int _ 1) rfl) .nil)) rfl (xM _ _ _ hx10)) <|aA rfl (bJ (cs:=q9) (cs':=(w36 0 [] 0 ([] : List aM) ([] : List aI) false false false false 0 [] ([] : List aX) 0 [] 0 0)) 9 rfl rfl (lb rfl) rfl ti38 rfl rfl (.k (.k (.k (.cons (.nils _) (.cons (.nils _) (.k4 (.k (.k (.cons (.nils _) (.all _))))))))))) <|aA rfl (stA q8 q8 ti38 rfl rfl rfl rfl rfl rfl rfl rfl (nle rfl) rfl) <|aB ?_)
 obtain ⟨x11,hx11,h⟩:=aY h
 refine aC (aA rfl (lra q8 la38 rfl rfl rfl rfl rfl (nle rfl) rfl) <|aA rfl (aW (r:=.agg q8) rfl rfl (lb rfl) cl12 (.cons (svA q8 rfl) (.cons (sv (d:=.int _ 4) rfl) .nil)) rfl (vJ _ _ _ hx11)) <|aA rfl (bJ (cs:=q9) (cs':=(w36 0 [] 0 ([] : List aM) ([] : List aI) false false false false 0 [] ([] : List aX) 0 [] 0 0)) 10 rfl rfl (lb rfl) rfl ti38 rfl rfl (.k (.k (.k (.cons (.nils _) (.cons (.nils _) (.k4 (.k (.k (.cons (.nils _) (.all _))))))))))) <|aA rfl (stA q8 q8 ti38 rfl rfl rfl rfl rfl rfl rfl rfl (nle rfl) rfl) <|aB ?_)
 obtain ⟨x12,hx12,h⟩:=aR h
 obtain ⟨x13,hx13,h⟩:=aR h
 obtain ⟨x14,hx14,h⟩:=aR h
 obtain ⟨x15,hx15,h⟩:=aR h
 obtain ⟨x16,hx16,h⟩:=aR h
 obtain ⟨x17,hx17,h⟩:=aR h
 obtain ⟨x18,hx18,h⟩:=aR h
 obtain ⟨x19,hx19,h⟩:=aR h
 obtain ⟨x20,hx20,h⟩:=aR h
 obtain ⟨x21,hx21,h⟩:=aR h
 obtain ⟨x22,hx22,h⟩:=aR h
 obtain ⟨x23,hx23,h⟩:=aR h
 obtain ⟨x24,hx24,h⟩:=aR h
 obtain ⟨x25,hx25,h⟩:=aR h
 obtain ⟨x26,hx26,h⟩:=aR h
 obtain ⟨x27,hx27,h⟩:=aR h
 obtain ⟨x28,hx28,h⟩:=aR h
 obtain ⟨x29,hx29,h⟩:=aR h
 obtain ⟨x30,hx30,h⟩:=aR h
 obtain ⟨x31,hx31,h⟩:=aY h
 obtain ⟨x32,hx32,h⟩:=aR h
 obtain ⟨x33,hx33,h⟩:=aR h
 obtain ⟨x34,hx34,h⟩:=aR h
 obtain ⟨x35,hx35,h⟩:=aR h
 obtain ⟨x36,hx36,h⟩:=aY h
 obtain ⟨x37,hx37,h⟩:=aR h
 obtain ⟨x38,hx38,h⟩:=aR h
 obtain ⟨x39,hx39,h⟩:=aR h
 obtain ⟨x40,hx40,h⟩:=aR h
 obtain ⟨x41,hx41,h⟩:=aY h
 obtain ⟨x42,hx42,h⟩:=aR h
 obtain ⟨x43,hx43,h⟩:=aR h
 obtain ⟨x44,hx44,h⟩:=aR h
 obtain ⟨x45,hx45,h⟩:=aY h
 obtain ⟨x46,hx46,h⟩:=aR h
 obtain ⟨x47,hx47,h⟩:=aY h
 obtain ⟨x48,hx48,h⟩:=aR h
 obtain ⟨x49,hx49,h⟩:=aR h
 obtain ⟨x50,hx50,h⟩:=aR h
 obtain ⟨x51,hx51,h⟩:=aY h
 obtain ⟨x52,hx52,h⟩:=aR h
 obtain ⟨x53,hx53,h⟩:=aY h
 obtain ⟨x54,hx54,h⟩:=aR h
 obtain ⟨x55,hx55,h⟩:=aR h
 obtain ⟨x56,hx56,h⟩:=aY h
 obtain ⟨x57,hx57,h⟩:=aR h
 obtain ⟨x58,hx58,h⟩:=aR h
 obtain ⟨x59,hx59,h⟩:=aY h
 obtain ⟨x60,hx60,h⟩:=aR h
 obtain ⟨x61,hx61,h⟩:=aY h
 obtain ⟨x62,hx62,h⟩:=aR h
 obtain ⟨x63,hx63,h⟩:=aR h
 obtain ⟨x64,hx64,h⟩:=aR h
 obtain ⟨x65,hx65,h⟩:=aR h
 obtain ⟨x66,hx66,h⟩:=aR h
 obtain ⟨x67,hx67,h⟩:=aR h
 refine aC (aA rfl (mvI rfl rfl rfl rfl) <|aA rfl (aP rfl rfl (lb rfl) (svI rfl) (sv (d:=.int _ 0) rfl) rfl hx12) <|aA rfl (mvB rfl rfl rfl rfl) <|aF rfl rfl (.one rfl) rfl (by decide) (fun hb=>(mvI rfl rfl rfl rfl)) <|aF rfl rfl (.one rfl) rfl (by decide) (fun hb=>(aP rfl rfl (lb rfl) (svcI rfl hb) (sv (d:=.int _ 12) rfl) rfl hx13)) <|aA rfl (bO rfl rfl (lb rfl) (svB rfl) rfl rfl hx14) <|aA rfl (mvB rfl rfl rfl rfl) <|aF rfl rfl (.one rfl) rfl (by decide) (fun hb=>(mvB rfl rfl rfl rfl)) <|aA rfl (bO rfl rfl (lb rfl) (svB rfl) rfl rfl hx15) <|aA rfl (mvB rfl rfl rfl rfl) <|aF rfl rfl (.one rfl) rfl (by decide) (fun hb=>(faR 1 rfl rfl rfl Tryz.underlying52 rfl ti3 (lb rfl) rfl rfl)) <|aF rfl rfl (.one rfl) rfl (by decide) (fun hb=>(aG (d:=.int _ _) rfl rfl (lb rfl) Tryz.underlying3 ag3 ti3 (by decide) (svcR rfl hb) rfl (nle rfl) rfl)) <|aF rfl rfl (.one rfl) rfl (by decide) (fun hb=>(aP rfl rfl (lb rfl) (svcI rfl hb) (sv (d:=.int _ 3) rfl) rfl hx16)) <|aA rfl (bO rfl rfl (lb rfl) (svB rfl) rfl rfl hx17) <|aA rfl (mvB rfl rfl rfl rfl) <|aF rfl rfl (.one rfl) rfl (by decide) (fun hb=>(aK rfl rfl (lb rfl) (sv (d:=.str _) rfl))) <|aF rfl rfl (.one rfl) rfl (by decide) (fun hb=>(jM rfl rfl (lb rfl) (svc (d:=.str _) rfl hb) (sv (d:=.str [6,0,1]) rfl) rfl hx18)) <|aA rfl (bO rfl rfl (lb rfl) (svB rfl) rfl rfl hx19) <|aA rfl (mvB rfl rfl rfl rfl) <|aF rfl rfl (.one rfl) rfl (by decide) (fun hb=>(mvB rfl rfl rfl rfl)) <|aA rfl (bO rfl rfl (lb rfl) (svB rfl) rfl rfl hx20) <|aA rfl (mvB rfl rfl rfl rfl) <|aF rfl rfl (.one rfl) rfl (by decide) (fun hb=>(faR 0 rfl rfl rfl Tryz.underlying52 rfl ti3 (lb rfl) rfl rfl)) <|aF rfl rfl (.one rfl) rfl (by decide) (fun hb=>(aG (d:=.int _ _) rfl rfl (lb rfl) Tryz.underlying3 ag3 ti3 (by decide) (svcR rfl hb) rfl (nle rfl) rfl)) <|aF rfl rfl (.one rfl) rfl (by decide) (fun hb=>(aP rfl rfl (lb rfl) (svcI rfl hb) (sv (d:=.int _ 3) rfl) rfl hx21)) <|aA rfl (bO rfl rfl (lb rfl) (svB rfl) rfl rfl hx22) <|aA rfl (mvB rfl rfl rfl rfl) <|aF rfl rfl (.one rfl) rfl (by decide) (fun hb=>(aK rfl rfl (lb rfl) (sv (d:=.str _) rfl))) <|aF rfl rfl (.one rfl) rfl (by decide) (fun hb=>(jM rfl rfl (lb rfl) (svc (d:=.str _) rfl hb) (sv (d:=.str [7]) rfl) rfl hx23)) <|aA rfl (bO rfl rfl (lb rfl) (svB rfl) rfl rfl hx24) <|aA rfl (mvB rfl rfl rfl rfl) <|aF rfl rfl (.one rfl) rfl (by decide) (fun hb=>(mvL rfl rfl rfl rfl)) <|aF rfl rfl (.one rfl) rfl (by decide) (fun hb=>(cJ aQ (l:=x7.2.1) rfl rfl (lb rfl) Tryz.underlying57 (svcL rfl hb))) <|aF rfl rfl (.one rfl) rfl (by decide) (fun hb=>(aP rfl rfl (lb rfl) (svcI rfl hb) (sv (d:=.int _ 0) rfl) rfl hx25)) <|aA rfl (bO rfl rfl (lb rfl) (svB rfl) rfl rfl hx26) <|aA rfl (mvB rfl rfl rfl rfl) <|aF rfl rfl (.one rfl) rfl (by decide) (fun hb=>(mvI rfl rfl rfl rfl)) <|aF rfl rfl (.one rfl) rfl (by decide) (fun hb=>(aP rfl rfl (lb rfl) (svcI rfl hb) (sv (d:=.int _ 0) rfl) rfl hx27)) <|aA rfl (bO rfl rfl (lb rfl) (svB rfl) rfl rfl hx28) <|aA rfl (mvB rfl rfl rfl rfl) <|aF rfl rfl (.one rfl) rfl (by decide) (fun hb=>(mvL rfl rfl rfl rfl)) <|aF rfl rfl (.one rfl) rfl (by decide) (fun hb=>(cJ aQ (l:=x8.2.1) rfl rfl (lb rfl) Tryz.underlying57 (svcL rfl hb))) <|aF rfl rfl (.one rfl) rfl (by decide) (fun hb=>(aP rfl rfl (lb rfl) (svcI rfl hb) (sv (d:=.int _ 1) rfl) rfl hx29)) <|aA rfl (bO rfl rfl (lb rfl) (svB rfl) rfl rfl hx30) <|aA rfl (mvB rfl rfl rfl rfl) <|aF rfl rfl (.one rfl) rfl (by decide) (fun hb=>(mvL rfl rfl rfl rfl)) <|aF rfl rfl (.one rfl) rfl (by decide) (fun hb=>(cY aQ (cs:=q10) rfl rfl (lb rfl) Tryz.underlying57 ti50 (svcL rfl hb) (sv (d:=.int _ 0) rfl) (gd_t hx31 hb) rfl rfl)) <|aF rfl rfl (.one rfl) rfl (by decide) (fun hb=>(dS (cs':=[.int _ _]) rfl rfl (lb rfl) Tryz.underlying50 rfl ti3 (by decide) (svc (d:=.fptr q10) rfl hb) rfl)) <|aF rfl rfl (.one rfl) rfl (by decide) (fun hb=>(eT rfl rfl (lb rfl) Tryz.underlying3 ag3 ti3 (by decide) (svc (d:=.fptr [.int _ _]) rfl hb) (nle rfl))) <|aF rfl rfl (.one rfl) rfl (by decide) (fun hb=>(aP rfl rfl (lb rfl) (svcI rfl hb) (sv (d:=.int _ 7) rfl) rfl hx32)) <|aA rfl (bO rfl rfl (lb rfl) (svB rfl) rfl rfl hx33) <|aA rfl (mvB rfl rfl rfl rfl) <|aF rfl rfl (.one rfl) rfl (by decide) (fun hb=>(mvI rfl rfl rfl rfl)) <|aF rfl rfl (.one rfl) rfl (by decide) (fun hb=>(aP rfl rfl (lb rfl) (svcI rfl hb) (sv (d:=.int _ 0) rfl) rfl hx34)) <|aA rfl (bO rfl rfl (lb rfl) (svB rfl) rfl rfl hx35) <|aA rfl (mvB rfl rfl rfl rfl) <|aF rfl rfl (.one rfl) rfl (by decide) (fun hb=>(lra q8 la38 rfl rfl rfl rfl rfl (nle rfl) rfl)) <|aF rfl rfl (.one rfl) rfl (by decide) (fun hb=>(aW (r:=.int _ _) rfl rfl (lb rfl) cl13 (.cons (svcA (v0 x8.1) rfl hb) .nil) rfl (wR _ _ (gd_t hx36 hb)))) <|aF rfl rfl (.one rfl) rfl (by decide) (fun hb=>(aP rfl rfl (lb rfl) (svcI rfl hb) (sv (d:=.int _ 4) rfl) rfl hx37)) <|aA rfl (bO rfl rfl (lb rfl) (svB rfl) rfl rfl hx38) <|aA rfl (mvB rfl rfl rfl rfl) <|aF rfl rfl (.one rfl) rfl (by decide) (fun hb=>(mvL rfl rfl rfl rfl)) <|aF rfl rfl (.one rfl) rfl (by decide) (fun hb=>(cJ aQ (l:=x9.2.1) rfl rfl (lb rfl) Tryz.underlying57 (svcL rfl hb))) <|aF rfl rfl (.one rfl) rfl (by decide) (fun hb=>(aP rfl rfl (lb rfl) (svcI rfl hb) (sv (d:=.int _ 1) rfl) rfl hx39)) <|aA rfl (bO rfl rfl (lb rfl) (svB rfl) rfl rfl hx40) <|aA rfl (mvB rfl rfl rfl rfl) <|aF rfl rfl (.one rfl) rfl (by decide) (fun hb=>(mvL rfl rfl rfl rfl)) <|aF rfl rfl (.one rfl) rfl (by decide) (fun hb=>(cY aQ (cs:=q10) rfl rfl (lb rfl) Tryz.underlying57 ti50 (svcL rfl hb) (sv (d:=.int _ 0) rfl) (gd_t hx41 hb) rfl rfl)) <|aF rfl rfl (.one rfl) rfl (by decide) (fun hb=>(dS (cs':=[.bool _]) rfl rfl (lb rfl) Tryz.underlying50 rfl ti4 (by decide) (svc (d:=.fptr q10) rfl hb) rfl)) <|aF rfl rfl (.one rfl) rfl (by decide) (fun hb=>(eT rfl rfl (lb rfl) Tryz.underlying4 ag4 ti4 (by decide) (svc (d:=.fptr [.bool _]) rfl hb) (nle rfl))) <|aA rfl (bO rfl rfl (lb rfl) (svB rfl) rfl rfl hx42) <|aA rfl (mvB rfl rfl rfl rfl) <|aF rfl rfl (.one rfl) rfl (by decide) (fun hb=>(mvI rfl rfl rfl rfl)) <|aF rfl rfl (.one rfl) rfl (by decide) (fun hb=>(aP rfl rfl (lb rfl) (svcI rfl hb) (sv (d:=.int _ 1) rfl) rfl hx43)) <|aA rfl (bO rfl rfl (lb rfl) (svB rfl) rfl rfl hx44) <|aA rfl (mvB rfl rfl rfl rfl) <|aF rfl rfl (.one rfl) rfl (by decide) (fun hb=>(lra q8 la38 rfl rfl rfl rfl rfl (nle rfl) rfl)) <|aF rfl rfl (.one rfl) rfl (by decide) (fun hb=>(aW (r:=.bool _) rfl rfl (lb rfl) cl17 (.cons (svcA (v0 x10) rfl hb) .nil) rfl (oN _ _ (gd_t hx45 hb)))) <|aA rfl (bO rfl rfl (lb rfl) (svB rfl) rfl rfl hx46) <|aA rfl (mvB rfl rfl rfl rfl) <|aF rfl rfl (.one rfl) rfl (by decide) (fun hb=>(lra q8 la38 rfl rfl rfl rfl rfl (nle rfl) rfl)) <|aF rfl rfl (.one rfl) rfl (by decide) (fun hb=>(aW (r:=.bool _) rfl rfl (lb rfl) cl17 (.cons (svcA (v0 x5.1) rfl hb) .nil) rfl (oN _ _ (gd_t hx47 hb)))) <|aF rfl rfl (.one rfl) rfl (by decide) (fun hb=>(dD rfl rfl (lb rfl) (svcB rfl hb))) <|aA rfl (bO rfl rfl (lb rfl) (svB rfl) rfl rfl hx48) <|aA rfl (mvB rfl rfl rfl rfl) <|aF rfl rfl (.one rfl) rfl (by decide) (fun hb=>(faR 0 rfl rfl rfl Tryz.underlying38 rfl ti28 (lb rfl) rfl rfl)) <|aF rfl rfl (.one rfl) rfl (by decide) (fun hb=>(aO rfl rfl (lb rfl) Tryz.underlying28 rfl ti3 (by decide) (svcR rfl hb) (off':=0) rfl)) <|aF rfl rfl (.one rfl) rfl (by decide) (fun hb=>(aG (d:=.int _ _) rfl rfl (lb rfl) Tryz.underlying3 ag3 ti3 (by decide) (svcR rfl hb) rfl (nle rfl) rfl)) <|aF rfl rfl (.one rfl) rfl (by decide) (fun hb=>(aP rfl rfl (lb rfl) (svcI rfl hb) (sv (d:=.int _ 4) rfl) rfl hx49)) <|aA rfl (bO rfl rfl (lb rfl) (svB rfl) rfl rfl hx50) <|aA rfl (mvB rfl rfl rfl rfl) <|aF rfl rfl (.one rfl) rfl (by decide) (fun hb=>(lra q8 la38 rfl rfl rfl rfl rfl (nle rfl) rfl)) <|aF rfl rfl (.one rfl) rfl (by decide) (fun hb=>(aW (r:=.bool _) rfl rfl (lb rfl) cl17 (.cons (svcA (v0 x11) rfl hb) .nil) rfl (oN _ _ (gd_t hx51 hb)))) <|aF rfl rfl (.one rfl) rfl (by decide) (fun hb=>(dD rfl rfl (lb rfl) (svcB rfl hb))) <|aA rfl (bO rfl rfl (lb rfl) (svB rfl) rfl rfl hx52) <|aA rfl (mvB rfl rfl rfl rfl) <|aF rfl rfl (.one rfl) rfl (by decide) (fun hb=>(lra q8 la38 rfl rfl rfl rfl rfl (nle rfl) rfl)) <|aF rfl rfl (.one rfl) rfl (by decide) (fun hb=>(aW (r:=.int _ _) rfl rfl (lb rfl) cl16 (.cons (svcA (v0 x11) rfl hb) .nil) rfl (fW _ _ (gd_t hx53 hb)))) <|aF rfl rfl (.one rfl) rfl (by decide) (fun hb=>(aP rfl rfl (lb rfl) (svcI rfl hb) (sv (d:=.int _ 0) rfl) rfl hx54)) <|aA rfl (bO rfl rfl (lb rfl) (svB rfl) rfl rfl hx55) <|aA rfl (mvB rfl rfl rfl rfl) <|aF rfl rfl (.one rfl) rfl (by decide) (fun hb=>(pX (d':=.agg (w36 0 [] 0 ([] : List aM) ([] : List aI) false false false false 0 [] ([] : List aX) 0 [] 0 0)) (cC (cs:=q9) rfl rfl (lb rfl) Tryz.underlying38 ti38 pl38 rfl .nil rfl) (.agg (.k (.k (.k (.cons (.nils _) (.cons (.nils _) (.k4 (.k (.k (.cons (.nils _) (.all _))))))))))))) <|aF rfl rfl (.one rfl) rfl (by decide) (fun hb=>(aW (r:=.int _ _) rfl rfl (lb rfl) cl16 (.cons (svc (d:=.agg (w36 0 [] 0 ([] : List aM) ([] : List aI) false false false false 0 [] ([] : List aX) 0 [] 0 0)) rfl hb) .nil) rfl (fW _ _ (gd_t hx56 hb)))) <|aF rfl rfl (.one rfl) rfl (by decide) (fun hb=>(aP rfl rfl (lb rfl) (svcI rfl hb) (sv (d:=.int _ 4) rfl) rfl hx57)) <|aA rfl (bO rfl rfl (lb rfl) (svB rfl) rfl rfl hx58) <|aA rfl (mvB rfl rfl rfl rfl) <|aF rfl rfl (.one rfl) rfl (by decide) (fun hb=>(lra q8 la38 rfl rfl rfl rfl rfl (nle rfl) rfl)) <|aF rfl rfl (.one rfl) rfl (by decide) (fun hb=>(lra q8 la38 rfl rfl rfl rfl rfl (nle rfl) rfl)) <|aF rfl rfl (.one rfl) rfl (by decide) (fun hb=>(aW (r:=.bool _) rfl rfl (lb rfl) cl18 (.cons (svcA (v0 x10) rfl hb) (.cons (svcA (v0 x11) rfl hb) .nil)) rfl (kZ _ _ _ (gd_t hx59 hb)))) <|aF rfl rfl (.one rfl) rfl (by decide) (fun hb=>(dD rfl rfl (lb rfl) (svcB rfl hb))) <|aA rfl (bO rfl rfl (lb rfl) (svB rfl) rfl rfl hx60) <|aA rfl (mvB rfl rfl rfl rfl) <|aF rfl rfl (.one rfl) rfl (by decide) (fun hb=>(lra q8 la38 rfl rfl rfl rfl rfl (nle rfl) rfl)) <|aF rfl rfl (.one rfl) rfl (by decide) (fun hb=>(lra q8 la38 rfl rfl rfl rfl rfl (nle rfl) rfl)) <|aF rfl rfl (.one rfl) rfl (by decide) (fun hb=>(aW (r:=.bool _) rfl rfl (lb rfl) cl18 (.cons (svcA (v0 x11) rfl hb) (.cons (svcA (v0 x11) rfl hb) .nil)) rfl (kZ _ _ _ (gd_t hx61 hb)))) <|aA rfl (bO rfl rfl (lb rfl) (svB rfl) rfl rfl hx62) <|aA rfl (mvB rfl rfl rfl rfl) <|aA rfl (nT rfl rfl (lb rfl) (svB rfl) rfl rfl hx63) <|aA rfl (mvB rfl rfl rfl rfl) <|aA rfl (nT rfl rfl (lb rfl) (svB rfl) rfl rfl hx64) <|aA rfl (mvB rfl rfl rfl rfl) <|aA rfl (nT rfl rfl (lb rfl) (svB rfl) rfl rfl hx65) <|aA rfl (mvB rfl rfl rfl rfl) <|aA rfl (nT rfl rfl (lb rfl) (svB rfl) rfl rfl hx66) <|aA rfl (mvB rfl rfl rfl rfl) <|aA rfl (nT rfl rfl (lb rfl) (svB rfl) rfl rfl hx67) <|aA rfl (asB rfl rfl rfl rfl) <|aB ?_)
 refine aS ?_
 obtain rfl:=Option.some.inj h
 refine ⟨.inr rfl,(.cons (sv rfl) .nil)⟩

theorem sN (a0 : aH) (r : Bool) (h : kO a0 = some r) : cD Tryz.prog 7 [.agg (v1 a0)] (.bool r):=by
 refine bA (rs:=[.bool r]) Tryz.func7 rfl Tryz.ntmps7 (nle rfl) rfl fun O hO=>?_
 show IWP _ _ _ _ ⟨[(0,.agg (v1 a0))],[]⟩ _
 unfold kO at h
 refine aC (aA rfl (bR (cs:=q10) 0 rfl rfl (lb rfl) rfl (svA q10 rfl) rfl rfl) <|aA rfl (aE rfl rfl (lb rfl) (sv (d:=.bool false) rfl)) <|aB ?_)
 obtain ⟨x1,hx1,h⟩:=aR h
 obtain ⟨x2,hx2,h⟩:=aR h
 obtain ⟨x3,hx3,h⟩:=aR h
 refine aC (aA rfl (faR 8 rfl rfl rfl Tryz.underlying44 rfl ti42 (lb rfl) rfl rfl) <|aA rfl (lrL la42 rfl rfl rfl rfl rfl (nle rfl) rfl) <|aA rfl (cJ bN (l:=a0.Pairs) rfl rfl (lb rfl) Tryz.underlying42 (svL rfl)) <|aA rfl (aP rfl rfl (lb rfl) (svI rfl) (sv (d:=.int _ 10) rfl) rfl hx1) <|aA rfl (mvB rfl rfl rfl rfl) <|aF rfl rfl (.one rfl) rfl (by decide) (fun hb=>(faR 9 rfl rfl rfl Tryz.underlying44 rfl ti9 (lb rfl) rfl rfl)) <|aF rfl rfl (.one rfl) rfl (by decide) (fun hb=>(aG (d:=.str _) rfl rfl (lb rfl) Tryz.underlying9 ag9 ti9 (by decide) (svcR rfl hb) rfl (nle rfl) rfl)) <|aF rfl rfl (.one rfl) rfl (by decide) (fun hb=>(dB rfl rfl (lb rfl) Tryz.underlying9 (svc (d:=.str _) rfl hb) rfl)) <|aF rfl rfl (.one rfl) rfl (by decide) (fun hb=>(aP rfl rfl (lb rfl) (svcI rfl hb) (sv (d:=.int _ 100) rfl) rfl hx2)) <|aA rfl (bO rfl rfl (lb rfl) (svB rfl) rfl rfl hx3) <|aA rfl (asB rfl rfl rfl rfl) <|aB ?_)
 refine aS ?_
 obtain rfl:=Option.some.inj h
 refine ⟨.inr rfl,(.cons (sv rfl) .nil)⟩

theorem jZ (a0 : (List aH)) (r : (List aH)) (h : fJ a0 = some r) : FnH Tryz.prog 11 [.slice false (a0.map aQ.d)] [] (.osl 0 aQ.sz r.length) [(0,.blk 44 (D.flat (r.map aQ.d)))]:=by
 refine eU (rs:=[.osl 0 aQ.sz r.length]) Tryz.func11 rfl Tryz.ntmps11 (nle rfl) fun O hO=>?_
 show IWP _ _ _ _ ⟨[(0,.slice false (a0.map aQ.d))],[]⟩ _
 unfold fJ at h
 refine aC (aA rfl (aE rfl rfl (lb rfl) (sv (d:=.nils) rfl)) <|aB ?_)
 refine aC (aA rfl (aE rfl rfl (lb rfl) (sv (d:=.nils) rfl)) <|aB ?_)
 refine aV ?_
 refine aC (aA rfl (aE rfl rfl (lb rfl) (sv (d:=.int _ 0) rfl)) <|aB ?_)
 refine bG ?_
 refine cW (α:=Nat × (List aH) × Int) (fun z=>⟨[(0,.slice false (a0.map aQ.d)),(3,.osl 21 aQ.sz z.2.1.length),(4,.int .i64 z.2.2)],[(21,.blk 44 (D.flat (z.2.1.map aQ.d)))]⟩) (fun z=>dR a0 z.1 z.2.1 z.2.2 = some r) (fun z=>z.1) (fuel,([] : (List aH)),0) (fun i=>if i = 21 then 71 else i) ⟨(.s rfl rfl (.cons (.nilo rfl) (.sames rfl rfl))),(.cons (.nilb rfl) .nil),bX [71] rfl (by decide),(fun i hi=>by first | rfl | (show (if _ then _ else _) = _; (repeat' split) <;> omega))⟩ ?_ ?_
 ·exact h
 ·
  rintro ⟨n0,v6,v7⟩ h
  cases n0 with
  | zero=>exact absurd h (by unfold dR; exact nofun)
  | succ n0 =>
   unfold dR at h
   refine aV ?_
   obtain ⟨x13,hx13,h⟩:=aR h
   refine aC (aA rfl (mvI rfl rfl rfl rfl) <|aA rfl (mvL rfl rfl rfl rfl) <|aA rfl (cJ aQ (l:=a0) rfl rfl (lb rfl) Tryz.underlying57 (svL rfl)) <|aA rfl (aP rfl rfl (lb rfl) (svI rfl) (svI rfl) rfl hx13) <|aB ?_)
   refine aT (b:=_) rfl (fun hc14=>?_) (fun hc14=>?_)
   ·
    replace h:=bT h hc14
    refine aU ?_
    refine aN ?_
    refine aV ?_
    refine bG ?_
    obtain ⟨x15,hx15,h⟩:=aY h
    obtain ⟨x16,hx16,h⟩:=aY h
    refine bD (aA rfl (aK rfl rfl (lb rfl) (sv (d:=.osl _ _ _) rfl)) <|aA rfl (mvL rfl rfl rfl rfl) <|aA rfl (mvI rfl rfl rfl rfl) <|aA rfl (cY aQ (cs:=q10) rfl rfl (lb rfl) Tryz.underlying57 ti50 (svL rfl) (svI rfl) hx15 rfl rfl) <|aA rfl (cQ (cs:=q10) rfl rfl (lb rfl) Tryz.underlying50 ag50 ti50 (by decide) (sv (d:=.fptr q10) rfl) (nle rfl) rfl) <|aA rfl (jP aQ.toEnc0 ([x15] : (List aH)) 22 rfl rfl (lb rfl) Tryz.underlying40 ti44 rfl (.cons (svA q10 rfl) .nil) rfl rfl (by decide)) <|aA rfl (kS aQ.toEnc0 23 rfl rfl (lb rfl) Tryz.underlying40 ti44 rfl rfl rfl rfl rfl (qK aQ.toEnc0 rfl rfl rfl) hx16) <|aA rfl (aE rfl rfl (lb rfl) (sv (d:=.osl _ _ _) rfl)) <|bW ?_)
    refine bZ ?_
    refine aN ?_
    obtain ⟨x17,hx17,h⟩:=aR h
    refine bD (aA rfl (mvI rfl rfl rfl rfl) <|aA rfl (bL rfl rfl (lb rfl) (svI rfl) (sv (d:=.int _ 1) rfl) rfl hx17) <|aA rfl (asI rfl rfl rfl rfl) <|bW ?_)
    refine aN ⟨(n0,x16,x17),(fun i=>if i = 21 then 23 else i),⟨(.sames rfl rfl),(.cons (EntW.lst rfl) .nil),bX [23] rfl (by decide),(fun i hi=>by first | rfl | (show (if _ then _ else _) = _; (repeat' split) <;> omega))⟩,?_,?_⟩
    exact h
    exact Nat.lt_succ_self _
   ·
    replace h:=bU h hc14
    refine cN ?_
    refine bI ?_
    refine bI ?_
    refine cO ?_
    refine aN ?_
    refine aC (aA rfl (aK rfl rfl (lb rfl) (sv (d:=.osl _ _ _) rfl)) <|aA rfl (aE rfl rfl (lb rfl) (sv (d:=.osl _ _ _) rfl)) <|aB ?_)
    refine aS ?_
    obtain rfl:=Option.some.inj h
    refine ⟨.inr rfl,(fun i=>if i = 0 then 21 else i),⟨.nil,(.cons (EntW.lst rfl) .nil),bX [21] rfl (by decide),(fun i hi=>by first | rfl | (show (if _ then _ else _) = _; (repeat' split) <;> omega))⟩,(.cons (sv rfl) .nil),rfl⟩
end Go.Proofs.YtfaflcdfgaoehaaGreat
