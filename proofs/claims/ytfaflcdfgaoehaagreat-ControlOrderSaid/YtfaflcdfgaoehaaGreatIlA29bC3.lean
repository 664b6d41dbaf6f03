/-
  A part of the proof: rules and plain facts. No condition.
-/
import Derived.Test.YtfaflcdfgaoehaaGreatProg
import Derived.KernelRfl
import Derived.Test.YtfaflcdfgaoehaaGreatIlEq
import Derived.Test.YtfaflcdfgaoehaaGreatIlA29bD
import Derived.Test.YtfaflcdfgaoehaaGreatIlA29bC2
set_option linter.all false
set_option maxRecDepth 8000
set_option maxHeartbeats 2000000
open Go Go.IL Go.Fn Go.Proofs
open Go.Proofs.Tryz
namespace Go.Proofs.YtfaflcdfgaoehaaGreat
theorem ti44:TI prog 44 (some (.agg #[.int .u8 0,.bool false,.int .i64 0,.int .i64 0,.int .i64 0,.int .i64 0,.int .i64 0,.int .i64 0,.slice none 0 0,.string ⟨#[]⟩])) 10 96:=by unfold TI; kernel_rfl
theorem ti57:TI prog 57 (some (.slice none 0 0)) 1 24:=by unfold TI; kernel_rfl
theorem ti59:TI prog 59 (some (.int .u32 0)) 1 4:=by unfold TI; kernel_rfl
theorem ti92:TI prog 92 (some (.agg #[.int .i64 0,.int .u32 0])) 2 16:=by unfold TI; kernel_rfl
theorem aCc:TI prog 169 (some (.pointer none)) 1 8:=by unfold TI; kernel_rfl
theorem ag57:gJ prog 57=false:=by kernel_rfl
theorem ag59:gJ prog 59=false:=by kernel_rfl
theorem ag92:gJ prog 92=true:=by kernel_rfl
theorem aC6:gJ prog 169=false:=by kernel_rfl
theorem pl92:∀ w,(Array.mapM (m:=Sem) (fun (f:Field)=>Functor.map (Prod.mk f.offset) (sizeOf f.type)) (fieldsOf prog 92)).run prog w = .ok #[(0,1),(1,1)] w:=fun w=>by kernel_rfl
theorem st165:prog.stoodInHeld 165=false ∧ prog.eqGuardType prog.depth 165=false:=⟨by kernel_rfl,by kernel_rfl⟩
theorem st36:prog.stoodInHeld 36=false ∧ prog.eqGuardType prog.depth 36=false:=⟨by kernel_rfl,by kernel_rfl⟩
theorem st52:prog.stoodInHeld 52=false ∧ prog.eqGuardType prog.depth 52=false:=⟨by kernel_rfl,by kernel_rfl⟩
theorem cl6:bH prog 6:=⟨f6,func6,rfl,rfl⟩
theorem cl8:bH prog 8:=⟨f8,func8,rfl,rfl⟩
theorem cl9:bH prog 9:=⟨f9,func9,rfl,rfl⟩
theorem cl10:bH prog 10:=⟨f10,func10,rfl,rfl⟩
theorem cl12:bH prog 12:=⟨f12,func12,rfl,rfl⟩
theorem cl13:bH prog 13:=⟨f13,func13,rfl,rfl⟩
theorem cl14:bH prog 14:=⟨f14,func14,rfl,rfl⟩
theorem cl17:bH prog 17:=⟨f17,func17,rfl,rfl⟩
theorem cl18:bH prog 18:=⟨f18,func18,rfl,rfl⟩
theorem cl28:bH prog 28:=⟨f28,func28,rfl,rfl⟩
theorem cl29:bH prog 29:=⟨f29,func29,rfl,rfl⟩
theorem cl30:bH prog 30:=⟨f30,func30,rfl,rfl⟩
theorem cl31:bH prog 31:=⟨f31,func31,rfl,rfl⟩
theorem cl32:bH prog 32:=⟨f32,func32,rfl,rfl⟩
theorem cl33:bH prog 33:=⟨f33,func33,rfl,rfl⟩
theorem cl34:bH prog 34:=⟨f34,func34,rfl,rfl⟩
theorem cl35:bH prog 35:=⟨f35,func35,rfl,rfl⟩
theorem cl36:bH prog 36:=⟨f36,func36,rfl,rfl⟩
theorem cl37:bH prog 37:=⟨f37,func37,rfl,rfl⟩
theorem cl42:bH prog 42:=⟨f42,func42,rfl,rfl⟩
theorem cl43:bH prog 43:=⟨f43,func43,rfl,rfl⟩
theorem cl44:bH prog 44:=⟨f44,func44,rfl,rfl⟩
theorem cl60:bH prog 60:=⟨f60,func60,rfl,rfl⟩
theorem cl61:bH prog 61:=⟨f61,func61,rfl,rfl⟩
theorem cl62:bH prog 62:=⟨f62,func62,rfl,rfl⟩
theorem cl63:bH prog 63:=⟨f63,func63,rfl,rfl⟩
theorem cl64:bH prog 64:=⟨f64,func64,rfl,rfl⟩
theorem cl65:bH prog 65:=⟨f65,func65,rfl,rfl⟩
theorem cl66:bH prog 66:=⟨f66,func66,rfl,rfl⟩
theorem cl67:bH prog 67:=⟨f67,func67,rfl,rfl⟩
theorem cl68:bH prog 68:=⟨f68,func68,rfl,rfl⟩
theorem cl75:bH prog 75:=⟨f75,func75,rfl,rfl⟩
theorem cl77:bH prog 77:=⟨f77,func77,rfl,rfl⟩
theorem cl98:bH prog 98:=⟨f98,func98,rfl,rfl⟩
theorem cl100:bH prog 100:=⟨f100,func100,rfl,rfl⟩
theorem cl101:bH prog 101:=⟨f101,func101,rfl,rfl⟩
theorem cl103:bH prog 103:=⟨f103,func103,rfl,rfl⟩
theorem cl104:bH prog 104:=⟨f104,func104,rfl,rfl⟩
theorem cl105:bH prog 105:=⟨f105,func105,rfl,rfl⟩
theorem cl106:bH prog 106:=⟨f106,func106,rfl,rfl⟩
theorem cl111:bH prog 111:=⟨f111,func111,rfl,rfl⟩
def la92:=LA.mk underlying92 ag92 ti92 (by decide)


set_option maxRecDepth 8000 in
set_option maxHeartbeats 4000000 in
theorem kZ (a0:Int) (a1:Int) (a2:List aU) (r:List aU) (h:eC a0 a1 a2=some r):FnH prog 103 [.osl 1000 aN.sz a2.length,.int .i64 a0,.int .i64 a1] [(1000,.blk 165 (D.flat (a2.map aN.d)))] (.osl 0 aN.sz r.length) [(0,.blk 165 (D.flat (r.map aN.d)))]:=by
 replace h:delS a2 a0 a1=some r:=h
 obtain ⟨i,j,rfl,rfl,hij,hj,hr⟩:=delS_e h
 have hX:=aN.toEnc0.flat_len a2
 refine fN (rs:=[.osl 0 aN.sz r.length]) func103 M ntmps103 (nle M) fun O hO=>?_
 show IWP _ _ _ _ ⟨[(0,.osl 1000 aN.sz a2.length),(1,.int .i64 (i:Int)),(2,.int .i64 (j:Int))],[(1000,.blk 165 (D.flat (a2.map aN.d)))]⟩ _
 refine aAI 0 (id:=1000) (sz:=aN.sz) (n:=a2.length) M M hX (fun hn=>?_) (fun c hc hcm=>?_)
 ·obtain rfl:=List.length_eq_zero_iff.1 hn
  obtain rfl:j=0:=by simpa using hj
  obtain rfl:i=0:=by omega
  refine aC (aA M (aE M M (lb M) (sv (d:=.nils) M)) <| aB ?_)
  refine aC (aA M (aK M M (lb M) (sv (d:=.nils) M)) <| aA M (mvI M M M M) <| aA M (mvI M M M M) <| aA M (aK M M (lb M) (sv (d:=.nils) M))<|aA M (cN aN (l:=[]) (b:=false) M M (lb M) underlying29 (svn M))<|aA M (xX M M (lb M) underlying29 gR (sv (d:=.nils) M) (svI M) (svI M) (svI M)) <| aB ?_)
  refine aW ?_
  refine aC (aA M (mvI M M M M) <| aA M (mvI M M M M) <| aA M (aP M M (lb M) (svI M) (svI M) M M) <| aB ?_)
  refine fV M M ?_
  have hr':[]=r:=by simpa using hr
  subst hr'
  refine aC (aA M (aK M M (lb M) (sv (d:=.nils) M)) <| aA M (aE M M (lb M) (sv (d:=.nils) M)) <| aB ?_)
  refine aT ?_
  refine bA ?_
  refine ⟨.inr M,(fun i=>if i=0 then 50 else i),⟨.nil,(.cons (.nilb M) .nil),cA [50] M (by decide),(fun i hi=>by first | rfl | (show (if _ then _ else _)=_; (repeat' split) <;> omega))⟩,(.cons (svno M) .nil),M⟩
 ·refine aC (aA M (aE M M (lb M) (sv (d:=.nils) M)) <| aB ?_)
  refine aC (aA M (aK M M (lb M) (sv (d:=.rsl _ _ _ _ _) M)) <| aA M (mvI M M M M) <| aA M (mvI M M M M) <| aA M (aK M M (lb M) (sv (d:=.rsl _ _ _ _ _) M))<|aA M (qS M M (lb M) underlying29 (sv (d:=.rsl _ _ _ _ _) M) M)<|aA M (eI (sz:=aN.sz) (l:=(i:Int)) (h:=(j:Int)) (m:=(a2.length:Int)) M M (lb M) underlying29 gR (sv (d:=.rsl _ _ _ _ _) M) ⟨_,(svI M)⟩ ⟨_,(svI M)⟩ ⟨_,(svI M)⟩ (by simp) (by omega) (by omega) (by omega) (by omega) M) <| aB ?_)
  refine aW ?_
  refine aC (aA M (mvI M M M M) <| aA M (mvI M M M M) <| aA M (aP M M (lb M) (svI M) (svI M) M M) <| aB ?_)
  refine aR (b:=_) M (fun h1=>?_) (fun h1=>?_)
  ·have h2:=of_decide_eq_true h1
   obtain rfl:i=j:=by omega
   have hr':a2=r:=by simpa using hr
   subst hr'
   refine aC (aA M (aK M M (lb M) (sv (d:=.rsl _ _ _ _ _) M)) <| aA M (aE M M (lb M) (sv (d:=.rsl _ _ _ _ _) M)) <| aB ?_)
   refine rS 6 (id:=1000) M M hX ?_
   refine aT ?_
   refine bA ?_
   refine ⟨.inr M,(fun i=>if i=0 then 1000 else i),⟨.nil,(.cons (EntW.lst M) .nil),cA [1000] M (by decide),(fun i hi=>by first | rfl | (show (if _ then _ else _)=_; (repeat' split) <;> omega))⟩,(.cons (sv M) .nil),M⟩
  ·have h2:=of_decide_eq_false h1
   have hlt:i < j:=by omega
   obtain ⟨J,hJ⟩:∃ J,J=List.replicate ((c - a2.length) * aN.sz) D.dead:=⟨_,rfl⟩
   have hXd:(D.flat ((a2.drop j).map aN.d)).length=(a2.length - j) * aN.sz:=by rw [aN.toEnc0.flat_len,List.length_drop]
   have hXt:(D.flat ((a2.take i).map aN.d)).length=i * aN.sz:=by rw [aN.toEnc0.flat_len,List.length_take,Nat.min_eq_left (by omega)]
   have hrl:r.length=i + (a2.length - j):=by rw [← hr,List.length_append,List.length_take,List.length_drop,Nat.min_eq_left (by omega)]
   have hR:D.flat (r.map aN.d)=D.flat ((a2.take i).map aN.d) ++ D.flat ((a2.drop j).map aN.d):=by rw [← hr,aN.toEnc0.flat_append]
   have hRl:(D.flat (r.map aN.d)).length=(i + (a2.length - j)) * aN.sz:=by rw [aN.toEnc0.flat_len,hrl]
   have hfitj:j * aN.sz + (a2.length - j) * aN.sz=a2.length * aN.sz:=by rw [← Nat.add_mul]; congr 1; omega
   have hfiti:(i + (a2.length - j)) * aN.sz ≤ a2.length * aN.sz:=Nat.mul_le_mul_right _ (by omega)
   rw [← hJ]
   have hD0:(D.flat (a2.map aN.d) ++ J).length=a2.length * aN.sz + J.length:=by rw [List.length_append,hX]
   obtain ⟨es,hes⟩:∃ es,es=((D.flat (a2.map aN.d) ++ J).drop (j * aN.sz)).take ((a2.length - j) * aN.sz):=⟨_,rfl⟩
   have hes':es=D.flat ((a2.drop j).map aN.d):=by
    rw [hes,List.drop_append_of_le_length (by rw [hX]; exact Nat.mul_le_mul_right _ hj),aN.toEnc0.flat_drop,List.take_append_of_le_length (by rw [hXd]; exact Nat.le_refl _),← hXd,List.take_length]
   obtain ⟨Z,hZ⟩:∃ Z,fH (D.flat (a2.map aN.d) ++ J) (i * aN.sz) es=D.flat (r.map aN.d) ++ Z:=by
    refine ⟨(D.flat ((a2.drop i).map aN.d) ++ J).drop es.length,?_⟩
    rw [sI aN.toEnc0 a2 i,List.append_assoc,yT hXt,hR,hes',List.append_assoc]
   have hZl:(D.flat (r.map aN.d) ++ Z).length=a2.length * aN.sz + J.length:=by
    rw [← hZ,sY (by rw [hD0,hes',hXd,← Nat.add_mul]; omega),hD0]
   refine aV ?_
   refine aM ?_
   refine aC (aA M (aK M M (lb M) (sv (d:=.rsl _ _ _ _ _) M)) <| aA M (qS M M (lb M) underlying29 (sv (d:=.rsl _ _ _ _ _) M) M) <| aA M (asI M M M M) <| aB ?_)
   refine dH M [⟨[0],[],[(20,.rsl 1000 aN.sz 0 a2.length c)],[]⟩,⟨[1],[],[(21,.int .i64 (i:Int))],[]⟩,⟨[20,21],[],[(22,.rsl 1000 aN.sz 0 i c)],[]⟩,⟨[0],[],[(23,.rsl 1000 aN.sz 0 a2.length c)],[]⟩,⟨[2],[],[(24,.int .i64 (j:Int))],[]⟩,
    ⟨[23,24],[],[(25,.rsl 1000 aN.sz (j * aN.sz) (a2.length - j) (c - j))],[]⟩,⟨[22,25],[1000],[(26,.rsl 1000 aN.sz 0 (i + (a2.length - j)) c)],[(1000,.blk 165 (D.flat (r.map aN.d) ++ Z))]⟩,⟨[26],[],[(0,.rsl 1000 aN.sz 0 (i + (a2.length - j)) c)],[]⟩] M ?_ (by kernel_rfl) ?_
   ·refine .cons (lop M M fun S hA=>(aK M M (lb M) (sv (d:=.rsl _ _ _ _ _) (agr hA M M)))) ?_
    refine .cons (lop M M fun S hA=>(aK M M (lb M) (svaI hA M M))) ?_
    refine .cons (lop M M fun S hA=>(eI (sz:=aN.sz) (l:=0) (h:=(i:Int)) (m:=(c:Int)) (d:=.rsl 1000 aN.sz 0 i c) M M (lb M) underlying29 gR (sv (d:=.rsl _ _ _ _ _) (agr hA M M)) M ⟨_,(svaI hA M M)⟩ M (by simp) (by omega) (by omega) (by omega) (by omega) (by simp only [Int.toNat_natCast,Int.toNat_zero,Nat.zero_mul,Nat.zero_add,Nat.sub_zero]))) ?_
    refine .cons (lop M M fun S hA=>(aK M M (lb M) (sv (d:=.rsl _ _ _ _ _) (agr hA M M)))) ?_
    refine .cons (lop M M fun S hA=>(aK M M (lb M) (svaI hA M M))) ?_
    refine .cons (lop M M fun S hA=>(eI (sz:=aN.sz) (l:=(j:Int)) (h:=(a2.length:Int)) (m:=(c:Int)) (d:=.rsl 1000 aN.sz (j * aN.sz) (a2.length - j) (c - j)) M M (lb M) underlying29 gR (sv (d:=.rsl _ _ _ _ _) (agr hA M M)) ⟨_,(svaI hA M M)⟩ M M (by simp) (by omega) (by omega) (by omega) (by omega) (by simp only [Int.toNat_natCast,Nat.zero_add]))) ?_
    refine .cons (lop M M fun S hA=>(aBL (sz:=aN.sz) (m:=a2.length - j) (es:=es) (ds':=D.flat (r.map aN.d) ++ Z) (d:=.rsl 1000 aN.sz 0 (i + (a2.length - j)) c) M M (lb M) underlying29 gR (sv (d:=.rsl _ _ _ _ _) (agr hA M M)) (agi hA M M) (hes ▸ aBf (sv (d:=.rsl _ _ _ _ _) (agr hA M M)) (agi hA M M) (by rw [hD0,hfitj]; exact Nat.le_add_right _ _)) (by rw [hes',hXd]) (by rw [hes']; exact aN.toEnc0.one _) (by omega) (by rw [hD0]; exact Nat.le_trans hfiti (Nat.le_add_right _ _)) hZ M)) ?_
    refine .cons (lop M M fun S hA=>(aE M M (lb M) (sv (d:=.rsl _ _ _ _ _) (agr hA M M)))) ?_
    exact .nil
   ·refine aC (aA M (aK M M (lb M) (sv (d:=.rsl _ _ _ _ _) M)) <| aA M (aK M M (lb M) (sv (d:=.rsl _ _ _ _ _) M)) <| aA M (qS M M (lb M) underlying29 (sv (d:=.rsl _ _ _ _ _) M) M) <| aA M (mvI M M M M)<|aA M (eI (sz:=aN.sz) (l:=((i + (a2.length - j):Nat):Int)) (h:=(a2.length:Int)) (m:=(c:Int)) (d:=.rsl 1000 aN.sz ((i + (a2.length - j)) * aN.sz) (a2.length - (i + (a2.length - j))) (c - (i + (a2.length - j)))) M M (lb M) underlying29 gR (sv (d:=.rsl _ _ _ _ _) M) ⟨_,(svI M)⟩ ⟨_,(svI M)⟩ M (by simp) (by omega) (by omega) (by omega) (by omega) (by simp only [Int.toNat_natCast,Nat.zero_add]))<|aA M (uT (sz:=aN.sz) M M underlying29 gR M M (sv (d:=.rsl _ _ _ _ _) M) M (by rw [hZl,← Nat.add_mul,show i + (a2.length - j) + (a2.length - (i + (a2.length - j)))=a2.length by omega]; exact Nat.le_add_right _ _) (yT hRl)) <| aB ?_)
    refine aC (aA M (aK M M (lb M) (sv (d:=.rsl _ _ _ _ _) M)) <| aA M (aE M M (lb M) (sv (d:=.rsl _ _ _ _ _) M)) <| aB ?_)
    refine rS 6 (id:=1000) M M hRl ?_
    refine aT ?_
    refine ⟨.inr M,(fun i=>if i=0 then 1000 else i),⟨.nil,(.cons (EntW.lst M) .nil),cA [1000] M (by decide),(fun i hi=>by first | rfl | (show (if _ then _ else _)=_; (repeat' split) <;> omega))⟩,(.cons (sv (congrArg (D.osl _ _) hrl.symm)) .nil),M⟩

theorem aBp (a0:bM) (a1:Int) (a2:(List UInt8)) (r:(bM × Int)) (h:rH a0 a1 a2=some r):cJ prog 61 [.agg (v6 a0),.int .i64 a1,.str a2] (retD [.agg (v6 r.1),.int .i64 r.2]):=by
 refine gW (rs:=[.agg (v6 r.1),.int .i64 r.2]) func61 M ntmps61 (nle M) M fun O hO=>?_
 show IWP _ _ _ _ ⟨[(0,.agg (v6 a0)),(1,.int .i64 a1),(2,.str a2)],[]⟩ _
 unfold rH at h
 refine aC (aA M (bV (cs:=q21) 0 M M (lb M) M (svA q21 M) M M)<|aA M (bI (cs:=q25) (cs':=[.int .i64 0,.str [],.slice false (([]:List aU).map aN.d)]) 1 M M (lb M) M ti31 M M (.k (.k (.cons (.nils _) .nil))))<|aA M (aE M M (lb M) (sv (d:=.int _ 0) M))<|aB ?_)
 obtain ⟨x1,hx1,h⟩:=aZ h
 refine aC (aA M (faR 2 M M M underlying31 M ti29 (lb M) M M)<|aA M (lrL la29 M M M M M (nle M) M)<|aA M (aX (r:=.slice _ _) M M (lb M) cl98 (.cons (svL M) .nil) M (gX _ _ hx1))<|aA M (faR 2 M M M underlying31 M ti29 (lb M) M M)<|aA M (bQ (ds':=q21) M M ti29 (svR M) M (svL M) M M M (nle M) M)<|aB ?_)
 refine aW ?_
 obtain ⟨x2,hx2,h⟩:=aS h
 obtain ⟨x3,hx3,h⟩:=aS h
 obtain ⟨x4,hx4,h⟩:=aS h
 obtain ⟨x5,hx5,h⟩:=aZ h
 obtain ⟨x6,hx6,h⟩:=aS h
 obtain ⟨x7,hx7,h⟩:=aS h
 refine aC (aA M (mvI M M M M)<|aA M (aP M M (lb M) (svI M) (sv (d:=.int _ 0) M) M hx2)<|aA M (mvB M M M M)<|aF M M (.one M) M (by decide) (fun hb=>(mvI M M M M))<|aF M M (.one M) M (by decide) (fun hb=>(aP M M (lb M) (svcI M hb) (sv (d:=.int _ 1099511627776) M) M hx3))<|aA M (dT M M (lb M) (svB M) M M hx4)<|aA M (mvB M M M M)<|aF M M (.one M) M (by decide) (fun hb=>(lra q21 la31 M M M M M (nle M) M))<|aF M M (.one M) M (by decide) (fun hb=>(aX (r:=.int _ _) M M (lb M) cl72 (.cons (svc (d:=.agg [.int .i64 a0.Base,.str a0.Ready,.slice false (x1.map aN.d)]) M hb) .nil) M (qM _ _ (gd_t hx5 hb))))<|aF M M (.one M) M (by decide) (fun hb=>(aP M M (lb M) (svcI M hb) (sv (d:=.int _ 0) M) M hx6))<|aA M (dT M M (lb M) (svB M) M M hx7)<|aB ?_)
 refine aR (b:=_) M (fun hc8=>?_) (fun hc8=>?_)
 ·
  replace h:=bS h hc8
  refine aC (aA M (lra q21 la31 M M M M M (nle M) M)<|aA M (stA q21 q21 ti31 M M M M M M M M (nle M) M)<|aA M (aE M M (lb M) (sv (d:=.int _ 0) M))<|aB ?_)
  refine aT ?_
  refine bA ?_
  obtain rfl:=sj_ h
  refine ⟨.inr M,_,(.cons (rva la31 M M (nle M) M) (.cons (sv M) .nil)),(.all _)⟩
 ·
  replace h:=bT h hc8
  refine aV ?_
  refine aM ?_
  obtain ⟨x9,hx9,h⟩:=aZ h
  refine aC (aA M (lra q21 la31 M M M M M (nle M) M)<|aA M (aX (r:=.int _ _) M M (lb M) cl99 (.cons (svA q21 M) .nil) M (uB _ _ hx9))<|aA M (asI M M M M)<|aB ?_)
  refine aW ?_
  obtain ⟨x10,hx10,h⟩:=aS h
  refine aC (aA M (mvI M M M M)<|aA M (mvI M M M M)<|aA M (aP M M (lb M) (svI M) (svI M) M hx10)<|aB ?_)
  refine aR (b:=_) M (fun hc11=>?_) (fun hc11=>?_)
  ·
   replace h:=bS h hc11
   refine aC (aA M (lra q21 la31 M M M M M (nle M) M)<|aA M (stA q21 q21 ti31 M M M M M M M M (nle M) M)<|aA M (aE M M (lb M) (sv (d:=.int _ 0) M))<|aB ?_)
   refine aT ?_
   refine bA ?_
   obtain rfl:=sj_ h
   refine ⟨.inr M,_,(.cons (rva la31 M M (nle M) M) (.cons (sv M) .nil)),(.all _)⟩
  ·
   replace h:=bT h hc11
   refine aV ?_
   refine aM ?_
   obtain ⟨x12,hx12,h⟩:=aS h
   obtain ⟨x13,hx13,h⟩:=aS h
   obtain ⟨x14,hx14,h⟩:=aZ h
   refine aC (aA M (aK M M (lb M) (sv (d:=.str _) M))<|aA M (aK M M (lb M) (sv (d:=.str _) M))<|aA M (dF M M (lb M) underlying9 (sv (d:=.str _) M) M)<|aA M (mvI M M M M)<|aA M (mvI M M M M)<|aA M (bN M M (lb M) (svI M) (svI M) M hx12)<|aA M (nG M M (lb M) (svI M) (svI M) hx13)<|aA M (jO M M (lb M) underlying9 (sv (d:=.str _) M) M ⟨_,(svI M)⟩ hx14)<|aA M (aE M M (lb M) (sv (d:=.str _) M))<|aB ?_)
   refine gP (α:=Int × (List UInt8)) (fun z=>⟨[(1,.int .i64 z.1),(2,.str z.2),(3,.ref 0 0),(6,.ref 1 0)],[(0,.blk 31 [.int .i64 a0.Base,.str a0.Ready,.slice false (x1.map aN.d)]),(1,.blk 31 [.int .i64 0,.str [],.slice false (([]:List aU).map aN.d)])]⟩) (fun z=>jX a0 x1 z.1 z.2=some r) ?_ ?_
   ·
    obtain ⟨x45,hx45,h⟩:=aS h
    refine aC (aA M (mvI M M M M)<|aA M (faR 0 M M M underlying31 M ti3 (lb M) M M)<|aA M (aG (d:=.int _ _) M M (lb M) underlying3 ag3 ti3 (by decide) (svR M) M (nle M) M)<|aA M (aP M M (lb M) (svI M) (svI M) M hx45)<|aB ?_)
    refine aR (b:=_) M (fun hc46=>?_) (fun hc46=>?_)
    ·
     replace h:=bS h hc46
     obtain ⟨x47,hx47,h⟩:=aS h
     obtain ⟨x48,hx48,h⟩:=aS h
     obtain ⟨x49,hx49,h⟩:=aZ h
     refine aC (aA M (aK M M (lb M) (sv (d:=.str _) M))<|aA M (aK M M (lb M) (sv (d:=.str _) M))<|aA M (dF M M (lb M) underlying9 (sv (d:=.str _) M) M)<|aA M (faR 0 M M M underlying31 M ti3 (lb M) M M)<|aA M (aG (d:=.int _ _) M M (lb M) underlying3 ag3 ti3 (by decide) (svR M) M (nle M) M)<|aA M (mvI M M M M)<|aA M (bN M M (lb M) (svI M) (svI M) M hx47)<|aA M (nG M M (lb M) (svI M) (svI M) hx48)<|aA M (jO M M (lb M) underlying9 (sv (d:=.str _) M) ⟨_,(svI M)⟩ M hx49)<|aA M (aE M M (lb M) (sv (d:=.str _) M))<|aB ?_)
     refine bE (aA M (faR 0 M M M underlying31 M ti3 (lb M) M M)<|aA M (aG (d:=.int _ _) M M (lb M) underlying3 ag3 ti3 (by decide) (svR M) M (nle M) M)<|aA M (asI M M M M)<|cB ?_)
     refine aM ⟨(a0.Base,x49),(fun i=>i),⟨(.sames M M),(.cons (.blk M M M) (.cons (.blk M M M) .nil)),cA [0,1] M (by decide),fun _ _=>M⟩,?_⟩
     exact h
    ·
     replace h:=bT h hc46
     refine aV ?_
     refine aM ⟨(a1,x14),(fun i=>i),⟨(.sames M M),(.cons (.blk M M M) (.cons (.blk M M M) .nil)),cA [0,1] M (by decide),fun _ _=>M⟩,?_⟩
     exact h
   ·
    rintro ⟨v20,v21⟩ h
    unfold jX at h
    refine aW ?_
    obtain ⟨x22,hx22,h⟩:=aS h
    refine aC (aA M (aK M M (lb M) (sv (d:=.str _) M))<|aA M (jC M M (lb M) (sv (d:=.str _) M) (sv (d:=.str []) M) M hx22)<|aB ?_)
    refine aR (b:=_) M (fun hc23=>?_) (fun hc23=>?_)
    ·
     replace h:=bS h hc23
     refine aC (aA M (lra q21 la31 M M M M M (nle M) M)<|aA M (stA q21 q21 ti31 M M M M M M M M (nle M) M)<|aA M (aE M M (lb M) (sv (d:=.int _ 0) M))<|aB ?_)
     refine aT ?_
     refine bA ?_
     obtain rfl:=sj_ h
     refine ⟨.inr M,_,(.cons (rva la31 M M (nle M) M) (.cons (sv M) .nil)),(.all _)⟩
    ·
     replace h:=bT h hc23
     refine aV ?_
     refine aM ?_
     obtain ⟨x24,hx24,h⟩:=aZ h
     refine aC (aA M (lra q21 la31 M M M M M (nle M) M)<|aA M (aX (r:=.int _ _) M M (lb M) cl100 (.cons (svA q21 M) .nil) M (vY _ _ hx24))<|aA M (asI M M M M)<|aB ?_)
     obtain ⟨x25,hx25,h⟩:=aZ h
     refine aC (aA M (faR 2 M M M underlying31 M ti29 (lb M) M M)<|aA M (lrL la29 M M M M M (nle M) M)<|aA M (mvI M M M M)<|aA M (aK M M (lb M) (sv (d:=.str _) M))<|aA M (cF (cs:=q28) M M (lb M) underlying165 gR pl165 M (.cons (svI M) (.cons (sv (d:=.str _) M) .nil)) M)<|aA M (eN (r':=.osl 2 aN.sz x25.length) (H1':=[(2,.blk 165 (D.flat (x25.map aN.d)))]) 2 [] M M (lb M) cl101 (.cons (svL M) (.cons (svA q28 M) .nil)) M M ⟨M,M,by decide,M,List.forall_mem_nil _⟩ (yH _ _ _ hx25) M M (List.forall_mem_cons.2 ⟨⟨M,(lL aN)⟩,List.forall_mem_nil _⟩) (by simp only [List.map_cons,List.map_nil,Ent.ren,fR,gL]; rfl))<|aA M (faR 2 M M M underlying31 M ti29 (lb M) M M)<|aA M (bQ (ds':=q23) M M ti29 (svR M) M (sv (d:=.osl _ _ _) M) M M M (nle M) M)<|aB ?_)
     refine gP (α:=Int × (List UInt8) × (List aU)) (fun z=>⟨[(3,.ref 0 0),(6,.ref 1 0),(9,.int .i64 x24)],[(0,.blk 31 [.int .i64 z.1,.str z.2.1,.osl 4 aN.sz z.2.2.length]),(1,.blk 31 [.int .i64 0,.str [],.slice false (([]:List aU).map aN.d)]),(4,.blk 165 (D.flat (z.2.2.map aN.d)))]⟩) (fun z=>mA x24 z.1 z.2.1 z.2.2=some r) ?_ ?_
     ·
      obtain ⟨x38,hx38,h⟩:=aZ h
      obtain ⟨x39,hx39,h⟩:=aZ h
      refine aC (aA M (faR 2 M M M underlying31 M ti29 (lb M) M M)<|aA M (aG (d:=.osl _ _ _) M M (lb M) underlying29 ag29 ti29 (by decide) (svR M) M (nle M) M)<|aA M (jN aN.toEnc0 M M (lb M) underlying29 gR (sv (d:=.osl _ _ _) M) M (sv (d:=.int _ 0) M) hx38)<|aA M (sF aN.toEnc0 (cs:=q28) M M (lb M) underlying165 vC gR (by decide) (svR M) M hx39 (nle M) M)<|aA M (bI (cs:=q28) (cs':=[.int .i64 0,.str []]) 3 M M (lb M) M gR M M (.all _))<|aA M (stA q28 q28 gR M M M M M M M M (nle M) M)<|aB ?_)
      obtain ⟨x40,hx40,h⟩:=aS h
      refine aC (aA M (faR 0 M M M underlying165 M ti3 (lb M) M M)<|aA M (aG (d:=.int _ _) M M (lb M) underlying3 ag3 ti3 (by decide) (svR M) M (nle M) M)<|aA M (faR 0 M M M underlying31 M ti3 (lb M) M M)<|aA M (aG (d:=.int _ _) M M (lb M) underlying3 ag3 ti3 (by decide) (svR M) M (nle M) M)<|aA M (aP M M (lb M) (svI M) (svI M) M hx40)<|aB ?_)
      refine aR (b:=_) M (fun hc41=>?_) (fun hc41=>?_)
      ·
       replace h:=bS h hc41
       obtain ⟨x42,hx42,h⟩:=aZ h
       obtain ⟨x43,hx43,h⟩:=aZ h
       refine dH M [⟨[10],[3],[(77,.agg [.int .i64 x39.At,.str x39.Data])],[]⟩,
        ⟨[77],[],[(78,.int .i64 x42)],[]⟩,
        ⟨[3],[],[(79,.ref 0 1)],[]⟩,
        ⟨[79],[0],[(80,.str a0.Ready)],[]⟩,
        ⟨[10],[],[(81,.ref 3 1)],[]⟩,
        ⟨[81],[3],[(82,.str x39.Data)],[]⟩,
        ⟨[80,82],[],[(83,.str x43)],[]⟩,
        ⟨[3],[],[(84,.ref 0 0)],[]⟩,
        ⟨[78,84],[0],[],[(0,.blk 31 [.int .i64 x42,.str a0.Ready,.osl 2 aN.sz x25.length])]⟩,
        ⟨[3],[],[(85,.ref 0 1)],[]⟩,
        ⟨[83,85],[0],[],[(0,.blk 31 [.int .i64 x42,.str x43,.osl 2 aN.sz x25.length])]⟩] M ?_ (by kernel_rfl) ?_
       ·refine .cons (lop M M fun S hA=>(bY (cs:=q28) M M (lb M) underlying165 vC gR (by decide) (svaR hA M M) (agi hA M M) (nle M) M)) ?_
        refine .cons (lop M M fun S hA=>(aX (r:=.int _ _) M M (lb M) aC4 (.cons (svaA q28 hA M M) .nil) M (iP _ _ hx42))) ?_
        refine .cons (lop M M fun S hA=>(aO M M (lb M) underlying31 M ti9 (by decide) (svaR hA M M) (off':=1) M)) ?_
        refine .cons (lop M M fun S hA=>(aG (d:=.str _) M M (lb M) underlying9 ag9 ti9 (by decide) (svaR hA M M) (agi hA M M) (nle M) M)) ?_
        refine .cons (lop M M fun S hA=>(aO M M (lb M) underlying165 M ti9 (by decide) (svaR hA M M) (off':=1) M)) ?_
        refine .cons (lop M M fun S hA=>(aG (d:=.str _) M M (lb M) underlying9 ag9 ti9 (by decide) (svaR hA M M) (agi hA M M) (nle M) M)) ?_
        refine .cons (lop M M fun S hA=>(oC M M (lb M) (sv (d:=.str _) (agr hA M M)) (sv (d:=.str _) (agr hA M M)) hx43)) ?_
        refine .cons (lop M M fun S hA=>(aO M M (lb M) underlying31 M ti3 (by decide) (svaR hA M M) (off':=0) M)) ?_
        refine .cons (lop M M fun S hA=>(bQ (ds':=q23) M M ti3 (svaR hA M M) (agi hA M M) (svaI hA M M) M M M (nle M) M)) ?_
        refine .cons (lop M M fun S hA=>(aO M M (lb M) underlying31 M ti9 (by decide) (svaR hA M M) (off':=1) M)) ?_
        refine .cons (lop M M fun S hA=>(bQ (ds':=q23) M M ti9 (svaR hA M M) (agi hA M M) (sv (d:=.str _) (agr hA M M)) M M M (nle M) M)) ?_
        exact .nil
       obtain ⟨x44,hx44,h⟩:=aZ h
       refine bE (aA M (faR 2 M M M underlying31 M ti29 (lb M) M M)<|aA M (aG (d:=.osl _ _ _) M M (lb M) underlying29 ag29 ti29 (by decide) (svR M) M (nle M) M)<|aA M (eN (r':=.osl 4 aN.sz x44.length) (H1':=[(4,.blk 165 (D.flat (x44.map aN.d)))]) 4 [2] M M (lb M) cl103 (.cons (sv (d:=.osl _ _ _) M) (.cons (sv (d:=.int _ 0) M) (.cons (sv (d:=.int _ 1) M) .nil))) M M ⟨M,M,by decide,M,List.forall_mem_cons.2 ⟨⟨M,M,(aB1 aN M),(lL aN)⟩,List.forall_mem_nil _⟩⟩ (kZ _ _ _ _ hx44) M M (List.forall_mem_cons.2 ⟨⟨M,(lL aN)⟩,List.forall_mem_nil _⟩) (by simp only [List.map_cons,List.map_nil,Ent.ren,fR,gL]; rfl))<|aA M (faR 2 M M M underlying31 M ti29 (lb M) M M)<|aA M (bQ (ds':=q23) M M ti29 (svR M) M (sv (d:=.osl _ _ _) M) M M M (nle M) M)<|cB ?_)
       refine aM ⟨(x42,x43,x44),(fun i=>i),⟨(.sames M M),(.cons (.blk M M M) (.cons (.blk M M M) (.cons (EntW.lst M) .nil))),cA [0,1,4] M (by decide),fun _ _=>M⟩,?_⟩
       exact h
      ·
       replace h:=bT h hc41
       refine aV ?_
       refine aM ⟨(a0.Base,a0.Ready,x25),(fun i=>if i=4 then 2 else i),⟨(.sames M M),(.cons (.blk M M M) (.cons (.blk M M M) (.cons (EntW.lst M) .nil))),cA [0,1,2] M (by decide),(fun i hi=>by first | rfl | (show (if _ then _ else _)=_; (repeat' split) <;> omega))⟩,?_⟩
       exact h
     ·
      rintro ⟨v33,v34,v35⟩ h
      unfold mA at h
      obtain ⟨x36,hx36,h⟩:=aZ h
      obtain ⟨x37,hx37,h⟩:=aS h
      refine dH M [⟨[3],[0],[(90,.agg [.int .i64 v33,.str v34,.osl 4 aN.sz v35.length])],[]⟩,
       ⟨[3],[0],[(91,.agg [.int .i64 v33,.str v34,.osl 4 aN.sz v35.length])],[]⟩,
       ⟨[91],[4],[(92,.int .i64 x36)],[]⟩,
       ⟨[9],[],[(93,.int .i64 x24)],[]⟩,
       ⟨[92,93],[],[(94,.int .i64 x37)],[]⟩,
       ⟨[6,90],[1],[],[(1,.blk 31 [.int .i64 v33,.str v34,.osl 4 aN.sz v35.length])]⟩,
       ⟨[94],[],[(7,.int .i64 x37)],[]⟩] M ?_ (by kernel_rfl) ?_
      ·refine .cons (lop M M fun S hA=>(bY (cs:=q23) M M (lb M) underlying31 ag31 ti31 (by decide) (svaR hA M M) (agi hA M M) (nle M) M)) ?_
       refine .cons (lop M M fun S hA=>(bY (cs:=q23) M M (lb M) underlying31 ag31 ti31 (by decide) (svaR hA M M) (agi hA M M) (nle M) M)) ?_
       refine .cons (lop M M fun S hA=>(uU (r:=.int .i64 x36) M M (lb M) cl100 (.cons (svaA q23 hA M M) .nil) (.cons (.agg (.k (.k (.cons (FDT aN (agi hA M M) M) .nil)))) .nil) M M (vY _ _ hx36))) ?_
       refine .cons (lop M M fun S hA=>(aK M M (lb M) (svaI hA M M))) ?_
       refine .cons (lop M M fun S hA=>(bN M M (lb M) (svaI hA M M) (svaI hA M M) M hx37)) ?_
       refine .cons (lop M M fun S hA=>(bQ (ds':=q23) M M ti31 (svaR hA M M) (agi hA M M) (svaA q23 hA M M) M M M (nle M) M)) ?_
       refine .cons (lop M M fun S hA=>(aE M M (lb M) (svaI hA M M))) ?_
       exact .nil
      refine aT ?_
      obtain rfl:=sj_ h
      refine ⟨.inr M,_,(.cons (rva la31 M M (nle M) M) (.cons (sv M) .nil)),(.cons (.agg (.k (.k (.cons (FDT aN M M) .nil)))) (.all _))⟩

theorem aCp (a0:bX) (a1:Int) (a2:(List UInt8)) (a3:Bool) (r:(bX × Int × Int)) (h:tV a0 a1 a2 a3=some r):cJ prog 28 [.agg (v5 a0),.int .i64 a1,.str a2,.bool a3] (retD [.agg (v5 r.1),.int .i64 r.2.1,.int .u32 r.2.2]):=by
 refine bC (rs:=[.agg (v5 r.1),.int .i64 r.2.1,.int .u32 r.2.2]) func28 M ntmps28 (nle M) M fun O hO=>?_
 show IWP _ _ _ _ ⟨[(0,.agg (v5 a0)),(1,.int .i64 a1),(2,.str a2),(3,.bool a3)],[]⟩ _
 unfold tV at h
 refine aC (aA M (bV (cs:=q18) 0 M M (lb M) M (svA q18 M) M M)<|aA M (bI (cs:=q20) (cs':=(w42 0 [] ([]:List aU) 0)) 1 M M (lb M) M ti33 M M (.k (.k (.cons (.nils _) (.all _)))))<|aA M (aE M M (lb M) (sv (d:=.int _ 0) M))<|aA M (aE M M (lb M) (sv (d:=.int _ 0) M))<|aB ?_)
 refine aW ?_
 obtain ⟨x1,hx1,h⟩:=aS h
 obtain ⟨x2,hx2,h⟩:=aS h
 obtain ⟨x3,hx3,h⟩:=aS h
 obtain ⟨x4,hx4,h⟩:=aS h
 obtain ⟨x5,hx5,h⟩:=aZ h
 obtain ⟨x6,hx6,h⟩:=aS h
 obtain ⟨x7,hx7,h⟩:=aS h
 refine aC (aA M (mvI M M M M)<|aA M (aP M M (lb M) (svI M) (sv (d:=.int _ 0) M) M hx1)<|aA M (mvB M M M M)<|aF M M (.one M) M (by decide) (fun hb=>(mvI M M M M))<|aF M M (.one M) M (by decide) (fun hb=>(aK M M (lb M) (sv (d:=.str _) M)))<|aF M M (.one M) M (by decide) (fun hb=>(dF M M (lb M) underlying9 (svc (d:=.str _) M hb) M))<|aF M M (.one M) M (by decide) (fun hb=>(bN M M (lb M) (sv (d:=.int _ 1099511627776) M) (svcI M hb) M hx2))<|aF M M (.one M) M (by decide) (fun hb=>(aP M M (lb M) (svcI M hb) (svcI M hb) M hx3))<|aA M (dT M M (lb M) (svB M) M M hx4)<|aA M (mvB M M M M)<|aF M M (.one M) M (by decide) (fun hb=>(lra q18 la33 M M M M M (nle M) M))<|aF M M (.one M) M (by decide) (fun hb=>(aX (r:=.int _ _) M M (lb M) cl40 (.cons (svcA (v5 a0) M hb) .nil) M (rN _ _ (gd_t hx5 hb))))<|aF M M (.one M) M (by decide) (fun hb=>(aP M M (lb M) (svcI M hb) (sv (d:=.int _ 0) M) M hx6))<|aA M (dT M M (lb M) (svB M) M M hx7)<|aB ?_)
 refine aR (b:=_) M (fun hc8=>?_) (fun hc8=>?_)
 ·
  replace h:=bS h hc8
  refine aC (aA M (lra q18 la33 M M M M M (nle M) M)<|aA M (stA q18 q18 ti33 M M M M M M M M (nle M) M)<|aA M (aE M M (lb M) (sv (d:=.int _ 0) M))<|aA M (aE M M (lb M) (sv (d:=.int _ 2) M))<|aB ?_)
  refine aT ?_
  refine bA ?_
  obtain rfl:=sj_ h
  refine ⟨.inr M,(.cons (rva la33 M M (nle M) M) (.cons (sv M) (.cons (sv M) .nil)))⟩
 ·
  replace h:=bT h hc8
  refine aV ?_
  refine aM ?_
  obtain ⟨x9,hx9,h⟩:=aS h
  refine aC (aA M (mvI M M M M)<|aA M (aK M M (lb M) (sv (d:=.str _) M))<|aA M (dF M M (lb M) underlying9 (sv (d:=.str _) M) M)<|aA M (bN M M (lb M) (svI M) (svI M) M hx9)<|aA M (asI M M M M)<|aB ?_)
  refine aW ?_
  obtain ⟨x10,hx10,h⟩:=aZ h
  obtain ⟨x11,hx11,h⟩:=aZ h
  refine aC (aA M (lra q18 la33 M M M M M (nle M) M)<|aA M (aX (r:=.agg q18) M M (lb M) cl59 (.cons (svA q18 M) .nil) M (tI _ _ hx10))<|aA M (mvI M M M M)<|aA M (mvB M M M M)<|aA M (aX (r:=.bool _) M M (lb M) cl60 (.cons (svA q18 M) (.cons (svI M) (.cons (svB M) .nil))) M (sO _ _ _ _ hx11))<|aB ?_)
  refine aR (b:=_) M (fun hc12=>?_) (fun hc12=>?_)
  ·
   replace h:=bS h hc12
   refine aC (aA M (lra q18 la33 M M M M M (nle M) M)<|aA M (stA q18 q18 ti33 M M M M M M M M (nle M) M)<|aA M (aE M M (lb M) (sv (d:=.int _ 0) M))<|aA M (aE M M (lb M) (sv (d:=.int _ 5) M))<|aB ?_)
   refine aT ?_
   refine bA ?_
   obtain rfl:=sj_ h
   refine ⟨.inr M,(.cons (rva la33 M M (nle M) M) (.cons (sv M) (.cons (sv M) .nil)))⟩
  ·
   replace h:=bT h hc12
   refine aV ?_
   refine aM ?_
   obtain ⟨x13,hx13,h⟩:=aZ h
   refine aC (aA M (faR 0 M M M underlying33 M ti31 (lb M) M M)<|aA M (lra q21 la31 M M M M M (nle M) M)<|aA M (mvI M M M M)<|aA M (aK M M (lb M) (sv (d:=.str _) M))<|aA M (aX (r:=.tuple [.agg q21,.int _ _]) M M (lb M) cl61 (.cons (svA q21 M) (.cons (svI M) (.cons (sv (d:=.str _) M) .nil))) M (aBp _ _ _ _ hx13))<|aA M (aK M M (lb M) (sv (d:=.tuple [.agg q21,.int _ _]) M))<|aA M (bD (d:=.agg q21) M M (lb M) (sv (d:=.tuple [.agg q21,.int _ _]) M) M)<|aA M (bD (d:=.int _ _) M M (lb M) (sv (d:=.tuple [.agg q21,.int _ _]) M) M)<|aA M (bI (cs:=q25) (cs':=[.int .i64 0,.str [],.slice false (([]:List aU).map aN.d)]) 2 M M (lb M) M ti31 M M (.k (.k (.cons (.nils _) .nil))))<|aA M (stA q21 q21 ti31 M M M M M M M M (nle M) M)<|aA M (asI M M M M)<|aB ?_)
   refine aC (aA M (lra q21 la31 M M M M M (nle M) M)<|aA M (faR 0 M M M underlying33 M ti31 (lb M) M M)<|aA M (stA q21 q18 ti31 M M M M M M M M (nle M) M)<|aB ?_)
   refine gP (α:=Int) (fun z=>⟨[(4,.ref 0 0),(8,.ref 1 0),(13,.int .i64 x13.2)],[(0,.blk 33 (w42 x13.1.Base x13.1.Ready x13.1.Parts z)),(1,.blk 33 (w42 0 [] ([]:List aU) 0))]⟩) (fun z=>qK x13 z=some r) ?_ ?_
   ·
    refine aC (aA M (mvB M M M M)<|aB ?_)
    refine aR (b:=_) M (fun hc16=>?_) (fun hc16=>?_)
    ·
     replace h:=bS h hc16
     refine bE (aA M (mvI M M M M)<|aA M (faR 3 M M M underlying33 M ti3 (lb M) M M)<|aA M (bQ (ds':=q18) M M ti3 (svR M) M (svI M) M M M (nle M) M)<|cB ?_)
     refine aM ⟨x9,(fun i=>i),⟨(.sames M M),(.cons (.blk M M M) (.cons (.blk M M M) .nil)),cA [0,1] M (by decide),fun _ _=>M⟩,?_⟩
     exact h
    ·
     replace h:=bT h hc16
     refine aV ?_
     refine aM ⟨a0.End,(fun i=>i),⟨(.sames M M),(.cons (.blk M M M) (.cons (.blk M M M) .nil)),cA [0,1] M (by decide),fun _ _=>M⟩,?_⟩
     exact h
   ·
    rintro v15 h
    unfold qK at h
    refine aC (aA M (lra q18 la33 M M M M M (nle M) M)<|aA M (mvI M M M M)<|aA M (stA q18 q18 ti33 M M M M M M M M (nle M) M)<|aA M (asI M M M M)<|aA M (aE M M (lb M) (sv (d:=.int _ 0) M))<|aB ?_)
    refine aT ?_
    obtain rfl:=sj_ h
    refine ⟨.inr M,(.cons (rva la33 M M (nle M) M) (.cons (sv M) (.cons (sv M) .nil)))⟩

theorem aA3 (a0:bM) (a1:Int) (r:(bM × (List UInt8))) (h:pR a0 a1=some r):cJ prog 62 [.agg (v6 a0),.int .i64 a1] (retD [.agg (v6 r.1),.str r.2]):=by
 refine bC (rs:=[.agg (v6 r.1),.str r.2]) func62 M ntmps62 (nle M) M fun O hO=>?_
 show IWP _ _ _ _ ⟨[(0,.agg (v6 a0)),(1,.int .i64 a1)],[]⟩ _
 unfold pR at h
 refine aC (aA M (bV (cs:=q21) 0 M M (lb M) M (svA q21 M) M M)<|aA M (bI (cs:=q25) (cs':=[.int .i64 0,.str [],.slice false (([]:List aU).map aN.d)]) 1 M M (lb M) M ti31 M M (.k (.k (.cons (.nils _) .nil))))<|aA M (aE M M (lb M) (sv (d:=.str []) M))<|aB ?_)
 obtain ⟨x1,hx1,h⟩:=aZ h
 refine aC (aA M (faR 2 M M M underlying31 M ti29 (lb M) M M)<|aA M (lrL la29 M M M M M (nle M) M)<|aA M (aX (r:=.slice _ _) M M (lb M) cl98 (.cons (svL M) .nil) M (gX _ _ hx1))<|aA M (faR 2 M M M underlying31 M ti29 (lb M) M M)<|aA M (bQ (ds':=q21) M M ti29 (svR M) M (svL M) M M M (nle M) M)<|aB ?_)
 refine aW ?_
 obtain ⟨x2,hx2,h⟩:=aS h
 obtain ⟨x3,hx3,h⟩:=aZ h
 obtain ⟨x4,hx4,h⟩:=aS h
 obtain ⟨x5,hx5,h⟩:=aS h
 refine aC (aA M (mvI M M M M)<|aA M (aP M M (lb M) (svI M) (sv (d:=.int _ 1) M) M hx2)<|aA M (mvB M M M M)<|aF M M (.one M) M (by decide) (fun hb=>(lra q21 la31 M M M M M (nle M) M))<|aF M M (.one M) M (by decide) (fun hb=>(aX (r:=.int _ _) M M (lb M) cl72 (.cons (svc (d:=.agg [.int .i64 a0.Base,.str a0.Ready,.slice false (x1.map aN.d)]) M hb) .nil) M (qM _ _ (gd_t hx3 hb))))<|aF M M (.one M) M (by decide) (fun hb=>(aP M M (lb M) (svcI M hb) (sv (d:=.int _ 0) M) M hx4))<|aA M (dT M M (lb M) (svB M) M M hx5)<|aB ?_)
 refine aR (b:=_) M (fun hc6=>?_) (fun hc6=>?_)
 ·
  replace h:=bS h hc6
  refine aC (aA M (lra q21 la31 M M M M M (nle M) M)<|aA M (stA q21 q21 ti31 M M M M M M M M (nle M) M)<|aA M (aE M M (lb M) (sv (d:=.str []) M))<|aB ?_)
  refine aT ?_
  refine bA ?_
  obtain rfl:=sj_ h
  refine ⟨.inr M,(.cons (rva la31 M M (nle M) M) (.cons (sv M) .nil))⟩
 ·
  replace h:=bT h hc6
  refine aV ?_
  refine aM ?_
  obtain ⟨x7,hx7,h⟩:=aS h
  refine aC (aA M (mvI M M M M)<|aA M (faR 1 M M M underlying31 M ti9 (lb M) M M)<|aA M (aG (d:=.str _) M M (lb M) underlying9 ag9 ti9 (by decide) (svR M) M (nle M) M)<|aA M (dF M M (lb M) underlying9 (sv (d:=.str _) M) M)<|aA M (nG M M (lb M) (svI M) (svI M) hx7)<|aA M (asI M M M M)<|aB ?_)
  obtain ⟨x8,hx8,h⟩:=aZ h
  refine aC (aA M (faR 1 M M M underlying31 M ti9 (lb M) M M)<|aA M (aG (d:=.str _) M M (lb M) underlying9 ag9 ti9 (by decide) (svR M) M (nle M) M)<|aA M (mvI M M M M)<|aA M (jO M M (lb M) underlying9 (sv (d:=.str _) M) M ⟨_,(svI M)⟩ hx8)<|aA M (aE M M (lb M) (sv (d:=.str _) M))<|aB ?_)
  obtain ⟨x9,hx9,h⟩:=aZ h
  refine aC (aA M (faR 1 M M M underlying31 M ti9 (lb M) M M)<|aA M (aG (d:=.str _) M M (lb M) underlying9 ag9 ti9 (by decide) (svR M) M (nle M) M)<|aA M (mvI M M M M)<|aA M (jO M M (lb M) underlying9 (sv (d:=.str _) M) ⟨_,(svI M)⟩ M hx9)<|aA M (faR 1 M M M underlying31 M ti9 (lb M) M M)<|aA M (bQ (ds':=q21) M M ti9 (svR M) M (sv (d:=.str _) M) M M M (nle M) M)<|aB ?_)
  refine aC (aA M (lra q21 la31 M M M M M (nle M) M)<|aA M (aK M M (lb M) (sv (d:=.str _) M))<|aA M (stA q21 q21 ti31 M M M M M M M M (nle M) M)<|aA M (aE M M (lb M) (sv (d:=.str _) M))<|aB ?_)
  refine aT ?_
  obtain rfl:=sj_ h
  refine ⟨.inr M,(.cons (rva la31 M M (nle M) M) (.cons (sv M) .nil))⟩

theorem aA4 (a0:bX) (r:Bool) (h:sE a0=some r):cJ prog 104 [.agg (v5 a0)] (.bool r):=by
 refine bC (rs:=[.bool r]) func104 M ntmps104 (nle M) M fun O hO=>?_
 show IWP _ _ _ _ ⟨[(0,.agg (v5 a0))],[]⟩ _
 unfold sE at h
 refine aC (aA M (bV (cs:=q18) 0 M M (lb M) M (svA q18 M) M M)<|aA M (aE M M (lb M) (sv (d:=.bool false) M))<|aB ?_)
 obtain ⟨x1,hx1,h⟩:=aZ h
 refine aC (aA M (lra q18 la33 M M M M M (nle M) M)<|aA M (aX (r:=.agg q18) M M (lb M) cl59 (.cons (svA q18 M) .nil) M (tI _ _ hx1))<|aA M (bI (cs:=q20) (cs':=(w42 0 [] ([]:List aU) 0)) 1 M M (lb M) M aCd M M (.k (.k (.cons (.nils _) (.all _)))))<|aA M (stA q18 q18 aCd M M M M M M M M (nle M) M)<|aB ?_)
 obtain ⟨x2,hx2,h⟩:=aZ h
 obtain ⟨x3,hx3,h⟩:=aS h
 obtain ⟨x4,hx4,h⟩:=aS h
 obtain ⟨x5,hx5,h⟩:=aZ h
 obtain ⟨x6,hx6,h⟩:=aS h
 obtain ⟨x7,hx7,h⟩:=aS h
 refine aC (aA M (lra q18 aE3 M M M M M (nle M) M)<|aA M (aX (r:=.bool _) M M (lb M) cl96 (.cons (svA q18 M) .nil) M (oL _ _ hx2))<|aA M (mvB M M M M)<|aF M M (.one M) M (by decide) (fun hb=>(faR 0 M M M underlying121 M ti31 (lb M) M M))<|aF M M (.one M) M (by decide) (fun hb=>(aO M M (lb M) underlying31 M ti3 (by decide) (svcR M hb) (off':=0) M))<|aF M M (.one M) M (by decide) (fun hb=>(aG (d:=.int _ _) M M (lb M) underlying3 ag3 ti3 (by decide) (svcR M hb) M (nle M) M))<|aF M M (.one M) M (by decide) (fun hb=>(faR 3 M M M underlying121 M ti3 (lb M) M M))<|aF M M (.one M) M (by decide) (fun hb=>(aG (d:=.int _ _) M M (lb M) underlying3 ag3 ti3 (by decide) (svcR M hb) M (nle M) M))<|aF M M (.one M) M (by decide) (fun hb=>(aP M M (lb M) (svcI M hb) (svcI M hb) M hx3))<|aA M (cC M M (lb M) (svB M) M M hx4)<|aA M (mvB M M M M)<|aF M M (.one M) M (by decide) (fun hb=>(lra q18 la33 M M M M M (nle M) M))<|aF M M (.one M) M (by decide) (fun hb=>(aX (r:=.int _ _) M M (lb M) cl40 (.cons (svcA (v5 a0) M hb) .nil) M (rN _ _ (gd_t hx5 hb))))<|aF M M (.one M) M (by decide) (fun hb=>(aP M M (lb M) (svcI M hb) (sv (d:=.int _ 0) M) M hx6))<|aA M (cC M M (lb M) (svB M) M M hx7)<|aA M (asB M M M M)<|aB ?_)
 refine aT ?_
 obtain rfl:=sj_ h
 refine ⟨.inr M,(.cons (sv M) .nil)⟩

theorem aA5 (a0:bX) (r:Bool) (h:pT a0=some r):cJ prog 63 [.agg (v5 a0)] (.bool r):=by
 refine bC (rs:=[.bool r]) func63 M ntmps63 (nle M) M fun O hO=>?_
 show IWP _ _ _ _ ⟨[(0,.agg (v5 a0))],[]⟩ _
 unfold pT at h
 refine aC (aA M (bV (cs:=q18) 0 M M (lb M) M (svA q18 M) M M)<|aA M (aE M M (lb M) (sv (d:=.bool false) M))<|aB ?_)
 obtain ⟨x1,hx1,h⟩:=aS h
 obtain ⟨x2,hx2,h⟩:=aZ h
 obtain ⟨x3,hx3,h⟩:=aS h
 refine aC (aA M (faR 0 M M M underlying33 M ti31 (lb M) M M)<|aA M (faR 1 M M M underlying31 M ti9 (lb M) M M)<|aA M (aG (d:=.str _) M M (lb M) underlying9 ag9 ti9 (by decide) (svR M) M (nle M) M)<|aA M (jC M M (lb M) (sv (d:=.str _) M) (sv (d:=.str []) M) M hx1)<|aA M (mvB M M M M)<|aF M M (.one M) M (by decide) (fun hb=>(lra q18 la33 M M M M M (nle M) M))<|aF M M (.one M) M (by decide) (fun hb=>(aX (r:=.bool _) M M (lb M) cl104 (.cons (svcA (v5 a0) M hb) .nil) M (aA4 _ _ (gd_t hx2 hb))))<|aA M (cC M M (lb M) (svB M) M M hx3)<|aA M (asB M M M M)<|aB ?_)
 refine aT ?_
 obtain rfl:=sj_ h
 refine ⟨.inr M,(.cons (sv M) .nil)⟩

theorem aBs (a0:bX) (a1:Int) (r:(bX × (List UInt8) × Bool)) (h:rJ a0 a1=some r):cJ prog 29 [.agg (v5 a0),.int .i64 a1] (retD [.agg (v5 r.1),.str r.2.1,.bool r.2.2]):=by
 refine bC (rs:=[.agg (v5 r.1),.str r.2.1,.bool r.2.2]) func29 M ntmps29 (nle M) M fun O hO=>?_
 show IWP _ _ _ _ ⟨[(0,.agg (v5 a0)),(1,.int .i64 a1)],[]⟩ _
 unfold rJ at h
 refine aC (aA M (bV (cs:=q18) 0 M M (lb M) M (svA q18 M) M M)<|aA M (bI (cs:=q20) (cs':=(w42 0 [] ([]:List aU) 0)) 1 M M (lb M) M ti33 M M (.k (.k (.cons (.nils _) (.all _)))))<|aA M (aE M M (lb M) (sv (d:=.str []) M))<|aA M (aE M M (lb M) (sv (d:=.bool false) M))<|aB ?_)
 obtain ⟨x1,hx1,h⟩:=aZ h
 refine aC (aA M (faR 0 M M M underlying33 M ti31 (lb M) M M)<|aA M (lra q21 la31 M M M M M (nle M) M)<|aA M (mvI M M M M)<|aA M (aX (r:=.tuple [.agg q21,.str _]) M M (lb M) cl62 (.cons (svA q21 M) (.cons (svI M) .nil)) M (aA3 _ _ _ hx1))<|aA M (aK M M (lb M) (sv (d:=.tuple [.agg q21,.str _]) M))<|aA M (bD (d:=.agg q21) M M (lb M) (sv (d:=.tuple [.agg q21,.str _]) M) M)<|aA M (bD (d:=.str _) M M (lb M) (sv (d:=.tuple [.agg q21,.str _]) M) M)<|aA M (bI (cs:=q25) (cs':=[.int .i64 0,.str [],.slice false (([]:List aU).map aN.d)]) 2 M M (lb M) M ti31 M M (.k (.k (.cons (.nils _) .nil))))<|aA M (stA q21 q21 ti31 M M M M M M M M (nle M) M)<|aA M (aE M M (lb M) (sv (d:=.str _) M))<|aB ?_)
 refine aC (aA M (lra q21 la31 M M M M M (nle M) M)<|aA M (faR 0 M M M underlying33 M ti31 (lb M) M M)<|aA M (stA q21 q18 ti31 M M M M M M M M (nle M) M)<|aB ?_)
 obtain ⟨x2,hx2,h⟩:=aZ h
 refine dH M [⟨[2],[0],[(18,.agg (w42 x1.1.Base x1.1.Ready x1.1.Parts a0.End))],[]⟩,
  ⟨[8],[],[(19,.str x1.2)],[]⟩,
  ⟨[2],[0],[(20,.agg (w42 x1.1.Base x1.1.Ready x1.1.Parts a0.End))],[]⟩,
  ⟨[20],[],[(21,.bool x2)],[]⟩,
  ⟨[4,18],[1],[],[(1,.blk 33 (w42 x1.1.Base x1.1.Ready x1.1.Parts a0.End))]⟩,
  ⟨[19],[],[(5,.str x1.2)],[]⟩,
  ⟨[21],[],[(6,.bool x2)],[]⟩] M ?_ (by kernel_rfl) ?_
 ·refine .cons (lop M M fun S hA=>(bY (cs:=q18) M M (lb M) underlying33 ag33 ti33 (by decide) (svaR hA M M) (agi hA M M) (nle M) M)) ?_
  refine .cons (lop M M fun S hA=>(aK M M (lb M) (sv (d:=.str _) (agr hA M M)))) ?_
  refine .cons (lop M M fun S hA=>(bY (cs:=q18) M M (lb M) underlying33 ag33 ti33 (by decide) (svaR hA M M) (agi hA M M) (nle M) M)) ?_
  refine .cons (lop M M fun S hA=>(aX (r:=.bool _) M M (lb M) cl63 (.cons (svaA q18 hA M M) .nil) M (aA5 _ _ hx2))) ?_
  refine .cons (lop M M fun S hA=>(bQ (ds':=q18) M M ti33 (svaR hA M M) (agi hA M M) (svaA q18 hA M M) M M M (nle M) M)) ?_
  refine .cons (lop M M fun S hA=>(aE M M (lb M) (sv (d:=.str _) (agr hA M M)))) ?_
  refine .cons (lop M M fun S hA=>(aE M M (lb M) (svaB hA M M))) ?_
  exact .nil
 refine aT ?_
 obtain rfl:=sj_ h
 refine ⟨.inr M,(.cons (rva la33 M M (nle M) M) (.cons (sv M) (.cons (sv M) .nil)))⟩

theorem yI (a0:cE) (a1:(List UInt8)) (r:(cE × (List aH))) (h:nQ a0 a1=some r):cJ prog 30 [.agg (v8 a0),.str a1] (retD [.agg (v8 r.1),.slice false (r.2.map aQ.d)]):=by
 refine bC (rs:=[.agg (v8 r.1),.slice false (r.2.map aQ.d)]) func30 M ntmps30 (nle M) M fun O hO=>?_
 show IWP _ _ _ _ ⟨[(0,.agg (v8 a0)),(1,.str a1)],[]⟩ _
 unfold nQ at h
 refine aC (aA M (bV (cs:=q24) 0 M M (lb M) M (svA q24 M) M M)<|aA M (bI (cs:=q24) (cs':=[.str [],.int .i64 0,.int .i64 0]) 1 M M (lb M) M ti36 M M (.all _))<|aA M (aE M M (lb M) (sv (d:=.nils) M))<|aB ?_)
 refine aW ?_
 obtain ⟨x1,hx1,h⟩:=aS h
 obtain ⟨x2,hx2,h⟩:=aZ h
 obtain ⟨x3,hx3,h⟩:=aS h
 obtain ⟨x4,hx4,h⟩:=aS h
 refine aC (aA M (faR 1 M M M underlying36 M ti34 (lb M) M M)<|aA M (aG (d:=.int _ _) M M (lb M) underlying34 ag34 ti34 (by decide) (svR M) M (nle M) M)<|aA M (aP M M (lb M) (svI M) (sv (d:=.int _ 0) M) M hx1)<|aA M (mvB M M M M)<|aF M M (.one M) M (by decide) (fun hb=>(lra q24 la36 M M M M M (nle M) M))<|aF M M (.one M) M (by decide) (fun hb=>(aX (r:=.int _ _) M M (lb M) cl41 (.cons (svcA (v8 a0) M hb) .nil) M (rP _ _ (gd_t hx2 hb))))<|aF M M (.one M) M (by decide) (fun hb=>(aP M M (lb M) (svcI M hb) (sv (d:=.int _ 0) M) M hx3))<|aA M (dT M M (lb M) (svB M) M M hx4)<|aB ?_)
 refine aR (b:=_) M (fun hc5=>?_) (fun hc5=>?_)
 ·
  replace h:=bS h hc5
  refine aC (aA M (lra q24 la36 M M M M M (nle M) M)<|aA M (stA q24 q24 ti36 M M M M M M M M (nle M) M)<|aA M (aE M M (lb M) (sv (d:=.nils) M))<|aB ?_)
  refine aT ?_
  refine bA ?_
  obtain rfl:=sj_ h
  refine ⟨.inr M,(.cons (rva la36 M M (nle M) M) (.cons (tU M M) .nil))⟩
 ·
  replace h:=bT h hc5
  refine aV ?_
  refine aM ?_
  obtain ⟨x6,hx6,h⟩:=aZ h
  refine aC (aA M (faR 0 M M M underlying36 M ti9 (lb M) M M)<|aA M (aG (d:=.str _) M M (lb M) underlying9 ag9 ti9 (by decide) (svR M) M (nle M) M)<|aA M (aK M M (lb M) (sv (d:=.str _) M))<|aA M (oC M M (lb M) (sv (d:=.str _) M) (sv (d:=.str _) M) hx6)<|aA M (faR 0 M M M underlying36 M ti9 (lb M) M M)<|aA M (bQ (ds':=q24) M M ti9 (svR M) M (sv (d:=.str _) M) M M M (nle M) M)<|aB ?_)
  refine aC (aA M (bI (cs:=[.nils]) (cs':=[.nils]) 2 M M (lb M) M ti57 M M (.all _))<|aB ?_)
  refine gP (α:=(List UInt8) × Int × Int × (List aH)) (fun z=>⟨[(2,.ref 0 0),(4,.ref 1 0),(6,.ref 2 0)],[(0,.blk 36 [.str z.1,.int .i64 z.2.1,.int .i64 z.2.2.1]),(1,.blk 36 [.str [],.int .i64 0,.int .i64 0]),(2,.blk 57 [.gsl 33 aQ.sz (z.2.2.2.map aQ.d)]),(33,.tail 50 aQ.sz z.2.2.2.length)]⟩) (fun z=>jT z.1 z.2.1 z.2.2.1 z.2.2.2=some r) ?_ ?_
  ·
   refine aC (?_)
   refine wP (S':=⟨[(2,.ref 0 0),(4,.ref 1 0),(6,.ref 2 0)],[(0,.blk 36 [.str x6,.int .i64 a0.Bad,.int .i64 a0.Seen]),(1,.blk 36 [.str [],.int .i64 0,.int .i64 0]),(2,.blk 57 [.nils])]⟩) (fun i=>i) ⟨(.sames M M),(.cons (.blk M M M) (.cons (.blk M M M) (.cons (.blk M M M) .nil))),cA [0,1,2] M (by decide),fun _ _=>M⟩ ?_
   refine aD4 1 3 M M M (by decide) cl64 func64 M (.cons (svR M) .nil) ntmps64 (nle M) M hO fun O1 hO1=>?_
   show IWP _ _ _ _ ⟨[(0,.ref 0 0)],[(3,.kept 1 [.dead,.dead,.ref 0 0,.dead,.ref 1 0,.dead,.ref 2 0,.dead,.dead,.dead,.dead,.dead,.dead,.dead,.dead,.dead,.dead,.dead,.dead,.dead,.dead,.dead,.dead,.dead,.dead,.dead,.dead,.dead,.dead,.dead]),(0,.blk 36 [.str x6,.int .i64 a0.Bad,.int .i64 a0.Seen]),(1,.blk 36 [.str [],.int .i64 0,.int .i64 0]),(2,.blk 57 [.nils])]⟩ _
   refine aC (aA M (bV (cs:=[.ref _ _]) 4 M M (lb M) M (svR M) M M)<|aA M (aE M M (lb M) (sv (d:=.nilf) M))<|aB ?_)
   refine aC (aA M (lD M M (lb M) (.cons (svR M) .nil))<|aA M (aE M M (lb M) (sv (d:=.fn 105 [.ref _ _]) M))<|aB ?_)
   refine aT ?_
   refine ⟨.inr M,3,_,[.fn 105 [.ref 4 0]],(.cons (sv M) .nil),M,M,⟨[(2,.ref 0 0),(4,.ref 1 0),(6,.ref 2 0),(22,.fn 105 [.ref 4 0])],[(0,.blk 36 [.str x6,.int .i64 a0.Bad,.int .i64 a0.Seen]),(1,.blk 36 [.str [],.int .i64 0,.int .i64 0]),(2,.blk 57 [.nils]),(4,.blk 169 [.ref 0 0])]⟩,(fun i=>i),⟨(.sames M M),(.cons (.blk M M M) (.cons (.blk M M M) (.cons (.blk M M M) (.cons (.blk M M M) .nil)))),cA [0,1,2,4] M (by decide),fun _ _=>M⟩,?_⟩
   refine aB ?_
   refine bG ?_
   refine wO (S':=⟨[(2,.ref 0 0),(4,.ref 1 0),(6,.ref 2 0),(22,.fn 105 [.ref 4 0])],[(0,.blk 36 [.str x6,.int .i64 a0.Bad,.int .i64 a0.Seen]),(1,.blk 36 [.str [],.int .i64 0,.int .i64 0]),(2,.blk 57 [.nils]),(4,.blk 169 [.ref 0 0])]⟩) (fun i=>i) ⟨(.sames M M),(.cons (.blk M M M) (.cons (.blk M M M) (.cons (.blk M M M) (.cons (.blk M M M) .nil)))),cA [0,1,2,4] M (by decide),fun _ _=>M⟩ ?_
   refine aBB 1 5 6 (sv (d:=.fn 105 [.ref _ _]) M) cl105 func105 M M ntmps105 (nle M) M M hO fun O1 hO1 hlc1=>?_
   show IWP _ _ _ _ ⟨[(0,.yld 5),(1,.ref 4 0)],[(6,.kept 1 [.dead,.dead,.ref 0 0,.dead,.ref 1 0,.dead,.ref 2 0,.dead,.dead,.dead,.dead,.dead,.dead,.dead,.dead,.dead,.dead,.dead,.dead,.dead,.dead,.dead,.fn 105 [.ref 4 0],.dead,.dead,.dead,.dead,.dead,.dead,.dead]),(5,.loop 1 [.dead,.dead,.ref 0 0,.dead,.ref 1 0,.dead,.ref 2 0,.dead,.dead,.dead,.dead,.dead,.dead,.dead,.dead,.dead,.dead,.dead,.dead,.dead,.dead,.dead,.fn 105 [.ref 4 0],.dead,.dead,.dead,.dead,.dead,.dead,.dead] .ready none),(0,.blk 36 [.str x6,.int .i64 a0.Bad,.int .i64 a0.Seen]),(1,.blk 36 [.str [],.int .i64 0,.int .i64 0]),(2,.blk 57 [.nils]),(4,.blk 169 [.ref 0 0])]⟩ _
   refine bG ?_
   refine dA (α:=Nat × (List UInt8) × Int × (List aH)) (fun z=>⟨[(0,.yld 5),(1,.ref 4 0)],[(5,.loop 1 [.dead,.dead,.ref 0 0,.dead,.ref 1 0,.dead,.ref 2 0,.dead,.dead,.dead,.dead,.dead,.dead,.dead,.dead,.dead,.dead,.dead,.dead,.dead,.dead,.dead,.fn 105 [.ref 4 0],.dead,.dead,.dead,.dead,.dead,.dead,.dead] .ready none),(4,.blk 169 [.ref 0 0]),(6,.kept 1 [.dead,.dead,.ref 0 0,.dead,.ref 1 0,.dead,.ref 2 0,.dead,.dead,.dead,.dead,.dead,.dead,.dead,.dead,.dead,.dead,.dead,.dead,.dead,.dead,.dead,.fn 105 [.ref 4 0],.dead,.dead,.dead,.dead,.dead,.dead,.dead]),(0,.blk 36 [.str z.2.1,.int .i64 a0.Bad,.int .i64 z.2.2.1]),(1,.blk 36 [.str [],.int .i64 0,.int .i64 0]),(2,.blk 57 [.gsl 28 aQ.sz (z.2.2.2.map aQ.d)]),(28,.tail 50 aQ.sz z.2.2.2.length)]⟩) (fun z=>iH a0 z.1 z.2.1 z.2.2.1 z.2.2.2=some r) (fun z=>z.1) (fuel,x6,a0.Seen,([]:(List aH))) (fun i=>if i=28 then 85 else i) ⟨(.sames M M),(.cons (.loop M M M) (.cons (.blk M M M) (.cons (.kept M M M) (.cons (.blk M M M) (.cons (.blk M M M) (.cons (.sub M (.nilg .nil) M) (.cons (.nils M) .nil))))))),cA [5,4,6,0,1,2,85] M (by decide),(fun i hi=>by first | rfl | (show (if _ then _ else _)=_; (repeat' split) <;> omega))⟩ ?_ ?_
   ·exact h
   ·
    rintro ⟨n2,v50,v51,v52⟩ h
    cases n2 with
    | zero=>exact absurd h (by unfold iH; exact nofun)
    | succ n2 =>
     unfold iH at h
     refine bG ?_
     obtain ⟨x62,hx62,h⟩:=aZ h
     refine aC (aA M (aG (d:=.ref _ _) M M (lb M) underlying169 aC6 aCc (by decide) (svR M) M (nle M) M)<|aA M (bO M M (lb M) (svR M))<|aA M (faR 0 M M M underlying36 M ti9 (lb M) M M)<|aA M (aG (d:=.str _) M M (lb M) underlying9 ag9 ti9 (by decide) (svR M) M (nle M) M)<|aA M (aX (r:=.tuple q33) M M (lb M) cl74 (.cons (sv (d:=.str _) M) .nil) M (xS _ _ hx62))<|aA M (aK M M (lb M) (sv (d:=.tuple q33) M))<|aA M (bD (d:=.agg q12) M M (lb M) (sv (d:=.tuple q33) M) M)<|aA M (bD (d:=.int _ _) M M (lb M) (sv (d:=.tuple q33) M) M)<|aA M (bD (d:=.int _ _) M M (lb M) (sv (d:=.tuple q33) M) M)<|aA M (bI (cs:=q13) (cs':=(w39 0 false 0 0 0 0 0 0 ([]:List bL) [])) 29 M M (lb M) M ti50 M M (.k4 (.k4 (.cons (.nils _) (.all _)))))<|aA M (stA q12 q12 ti50 M M M M M M M M (nle M) M)<|aA M (asI M M M M)<|aA M (asI M M M M)<|aB ?_)
     refine aC (aA M (mvI M M M M)<|aB ?_)
     refine bG ?_
     obtain ⟨x63,hx63,h⟩:=aS h
     refine aC (aA M (aP M M (lb M) (svI M) (sv (d:=.int _ 0) M) M hx63)<|aA M (asB M M M M)<|aB ?_)
     refine aR (b:=_) M (fun hc64=>?_) (fun hc64=>?_)
     ·
      replace h:=bS h hc64
      obtain ⟨x65,hx65,h⟩:=aZ h
      refine dH M [⟨[1],[4],[(25,.ref 0 0)],[]⟩,
       ⟨[1],[4],[(26,.ref 0 0)],[]⟩,
       ⟨[26],[],[(27,.ref 0 0)],[]⟩,
       ⟨[27],[],[(28,.ref 0 0)],[]⟩,
       ⟨[28],[0],[(29,.str v50)],[]⟩,
       ⟨[4],[],[(30,.int .i64 x62.2.1)],[]⟩,
       ⟨[29,30],[],[(31,.str x65)],[]⟩,
       ⟨[25],[],[(32,.ref 0 0)],[]⟩,
       ⟨[32],[],[(33,.ref 0 0)],[]⟩,
       ⟨[31,33],[0],[],[(0,.blk 36 [.str x65,.int .i64 a0.Bad,.int .i64 v51])]⟩] M ?_ (by kernel_rfl) ?_
      ·refine .cons (lop M M fun S hA=>(aG (d:=.ref _ _) M M (lb M) underlying169 aC6 aCc (by decide) (svaR hA M M) (agi hA M M) (nle M) M)) ?_
       refine .cons (lop M M fun S hA=>(aG (d:=.ref _ _) M M (lb M) underlying169 aC6 aCc (by decide) (svaR hA M M) (agi hA M M) (nle M) M)) ?_
       refine .cons (lop M M fun S hA=>(bO M M (lb M) (svaR hA M M))) ?_
       refine .cons (lop M M fun S hA=>(aO M M (lb M) underlying36 M ti9 (by decide) (svaR hA M M) (off':=0) M)) ?_
       refine .cons (lop M M fun S hA=>(aG (d:=.str _) M M (lb M) underlying9 ag9 ti9 (by decide) (svaR hA M M) (agi hA M M) (nle M) M)) ?_
       refine .cons (lop M M fun S hA=>(aK M M (lb M) (svaI hA M M))) ?_
       refine .cons (lop M M fun S hA=>(jO M M (lb M) underlying9 (sv (d:=.str _) (agr hA M M)) ⟨_,(svaI hA M M)⟩ M hx65)) ?_
       refine .cons (lop M M fun S hA=>(bO M M (lb M) (svaR hA M M))) ?_
       refine .cons (lop M M fun S hA=>(aO M M (lb M) underlying36 M ti9 (by decide) (svaR hA M M) (off':=0) M)) ?_
       refine .cons (lop M M fun S hA=>(bQ (ds':=q24) M M ti9 (svaR hA M M) (agi hA M M) (sv (d:=.str _) (agr hA M M)) M M M (nle M) M)) ?_
       exact .nil
      obtain ⟨x66,hx66,h⟩:=aS h
      refine aC (aA M (aG (d:=.ref _ _) M M (lb M) underlying169 aC6 aCc (by decide) (svR M) M (nle M) M)<|aA M (bO M M (lb M) (svR M))<|aA M (faR 2 M M M underlying36 M ti3 (lb M) M M)<|aA M (aG (d:=.int _ _) M M (lb M) underlying3 ag3 ti3 (by decide) (svR M) M (nle M) M)<|aA M (bN M M (lb M) (svI M) (sv (d:=.int _ 1) M) M hx66)<|aA M (bO M M (lb M) (svR M))<|aA M (faR 2 M M M underlying36 M ti3 (lb M) M M)<|aA M (bQ (ds':=q24) M M ti3 (svR M) M (svI M) M M M (nle M) M)<|aB ?_)
      refine aC (aA M (aK M M (lb M) (sv (d:=.yld _) M))<|aA M (lra q12 la50 M M M M M (nle M) M) <|?_)
      refine wP (S':=⟨[(0,.yld 5),(1,.ref 4 0),(41,.yld 5),(42,.agg (v2 x62.1))],[(0,.blk 36 [.str x65,.int .i64 a0.Bad,.int .i64 x66]),(1,.blk 36 [.str [],.int .i64 0,.int .i64 0]),(2,.blk 57 [.gsl 28 aQ.sz (v52.map aQ.d)]),(4,.blk 169 [.ref 0 0]),(5,.loop 1 [.dead,.dead,.ref 0 0,.dead,.ref 1 0,.dead,.ref 2 0,.dead,.dead,.dead,.dead,.dead,.dead,.dead,.dead,.dead,.dead,.dead,.dead,.dead,.dead,.dead,.fn 105 [.ref 4 0],.dead,.dead,.dead,.dead,.dead,.dead,.dead] .ready none),(6,.kept 1 [.dead,.dead,.ref 0 0,.dead,.ref 1 0,.dead,.ref 2 0,.dead,.dead,.dead,.dead,.dead,.dead,.dead,.dead,.dead,.dead,.dead,.dead,.dead,.dead,.dead,.fn 105 [.ref 4 0],.dead,.dead,.dead,.dead,.dead,.dead,.dead]),(28,.tail 50 aQ.sz v52.length)]⟩) (fun i=>i) ⟨(.sames M M),(.cons (.blk M M M) (.cons (.blk M M M) (.cons (.blk M M M) (.cons (.blk M M M) (.cons (.loop M M M) (.cons (.kept M M M) (.cons (.tail M) .nil))))))),cA [0,1,2,4,5,6,28] M (by decide),fun _ _=>M⟩ ?_
      refine aBO 2 5 30 M M M (by decide) M (.cons (svA q12 M) .nil) M M M M M M hO1 hlc1 ⟨[(23,.agg (v2 x62.1)),(6,.ref 2 0)],[(0,.blk 36 [.str x65,.int .i64 a0.Bad,.int .i64 x66]),(1,.blk 36 [.str [],.int .i64 0,.int .i64 0]),(2,.blk 57 [.gsl 28 aQ.sz (v52.map aQ.d)]),(4,.blk 169 [.ref 0 0]),(5,.loop 1 [.dead,.dead,.ref 0 0,.dead,.ref 1 0,.dead,.ref 2 0,.dead,.dead,.dead,.dead,.dead,.dead,.dead,.dead,.dead,.dead,.dead,.dead,.dead,.dead,.dead,.fn 105 [.ref 4 0],.dead,.dead,.dead,.dead,.dead,.dead,.dead] .ready none),(6,.kept 1 [.dead,.dead,.ref 0 0,.dead,.ref 1 0,.dead,.ref 2 0,.dead,.dead,.dead,.dead,.dead,.dead,.dead,.dead,.dead,.dead,.dead,.dead,.dead,.dead,.dead,.fn 105 [.ref 4 0],.dead,.dead,.dead,.dead,.dead,.dead,.dead]),(28,.tail 50 aQ.sz v52.length),(30,.kept 2 [.yld 5,.ref 4 0,.dead,.dead,.dead,.dead,.dead,.dead,.dead,.dead,.dead,.dead,.dead,.dead,.dead,.dead,.dead,.dead,.dead,.dead,.dead,.dead,.dead,.dead,.dead,.dead,.dead,.dead,.dead,.dead,.dead,.dead,.dead,.dead,.dead,.dead,.dead,.dead,.dead,.dead,.dead,.yld 5,.agg (v2 x62.1),.dead,.dead,.dead,.dead])]⟩ (fun i=>i) ⟨(.sames M M),(.cons (.blk M M M) (.cons (.blk M M M) (.cons (.blk M M M) (.cons (.blk M M M) (.cons (.loop M M M) (.cons (.kept M M M) (.cons (.tail M) (.cons (.kept M M M) .nil)))))))),cA [0,1,2,4,5,6,28,30] M (by decide),fun _ _=>M⟩ fun O2=>?_
      refine bE (aA M (bI (cs:=q13) (cs':=(w39 0 false 0 0 0 0 0 0 ([]:List bL) [])) 31 M M (lb M) M ti50 M M (.k4 (.k4 (.cons (.nils _) (.all _)))))<|aA M (stA q12 q12 ti50 M M M M M M M M (nle M) M)<|cB ?_)
      refine ⟨M,5,_,M,⟨[(6,.ref 2 0),(7,.ref 31 0)],[(0,.blk 36 [.str x65,.int .i64 a0.Bad,.int .i64 x66]),(1,.blk 36 [.str [],.int .i64 0,.int .i64 0]),(2,.blk 57 [.gsl 28 aQ.sz (v52.map aQ.d)]),(4,.blk 169 [.ref 0 0]),(5,.loop 1 [.dead,.dead,.ref 0 0,.dead,.ref 1 0,.dead,.ref 2 0,.dead,.dead,.dead,.dead,.dead,.dead,.dead,.dead,.dead,.dead,.dead,.dead,.dead,.dead,.dead,.fn 105 [.ref 4 0],.dead,.dead,.dead,.dead,.dead,.dead,.dead] .busy none),(6,.kept 1 [.dead,.dead,.ref 0 0,.dead,.ref 1 0,.dead,.ref 2 0,.dead,.dead,.dead,.dead,.dead,.dead,.dead,.dead,.dead,.dead,.dead,.dead,.dead,.dead,.dead,.fn 105 [.ref 4 0],.dead,.dead,.dead,.dead,.dead,.dead,.dead]),(28,.tail 50 aQ.sz v52.length),(30,.kept 2 [.yld 5,.ref 4 0,.dead,.dead,.dead,.dead,.dead,.dead,.dead,.dead,.dead,.dead,.dead,.dead,.dead,.dead,.dead,.dead,.dead,.dead,.dead,.dead,.dead,.dead,.dead,.dead,.dead,.dead,.dead,.dead,.dead,.dead,.dead,.dead,.dead,.dead,.dead,.dead,.dead,.dead,.dead,.yld 5,.agg (v2 x62.1),.dead,.dead,.dead,.dead]),(31,.blk 50 (v2 x62.1))]⟩,(fun i=>i),⟨(.sames M M),(.cons (.blk M M M) (.cons (.blk M M M) (.cons (.blk M M M) (.cons (.blk M M M) (.cons (.loop M M M) (.cons (.kept M M M) (.cons (.tail M) (.cons (.kept M M M) (.cons (.blk M M M) .nil))))))))),cA [0,1,2,4,5,6,28,30,31] M (by decide),fun _ _=>M⟩,?_⟩
      refine bG ?_
      obtain ⟨x67,hx67,h⟩:=aZ h
      refine bE (aA M (aG (d:=.gsl _ _ _) M M (lb M) underlying57 ag57 ti57 (by decide) (svR M) M (nle M) M)<|aA M (lra q12 la50 M M M M M (nle M) M)<|aA M (oP aQ ([x62.1]:(List aH)) 32 M M (lb M) underlying57 ti50 M (.cons (svA q12 M) .nil) M M (by decide))<|aA M (mN aQ 33 M M (lb M) underlying57 ti50 M M M M (svg M) hx67)<|aA M (bQ (ds':=[.gsl _ _ _]) M M ti57 (svR M) M (sv (d:=.gsl _ _ _) M) M M M (nle M) M)<|cB ?_)
      refine bZ ?_
      refine ⟨5,30,_,_,none,M,M,M,M,(by decide),⟨[(0,.yld 5),(1,.ref 4 0),(43,.bool true)],[(0,.blk 36 [.str x65,.int .i64 a0.Bad,.int .i64 x66]),(1,.blk 36 [.str [],.int .i64 0,.int .i64 0]),(2,.blk 57 [.gsl 33 aQ.sz (x67.map aQ.d)]),(4,.blk 169 [.ref 0 0]),(5,.loop 1 [.dead,.dead,.ref 0 0,.dead,.ref 1 0,.dead,.ref 2 0,.dead,.dead,.dead,.dead,.dead,.dead,.dead,.dead,.dead,.dead,.dead,.dead,.dead,.dead,.dead,.fn 105 [.ref 4 0],.dead,.dead,.dead,.dead,.dead,.dead,.dead] .ready none),(6,.kept 1 [.dead,.dead,.ref 0 0,.dead,.ref 1 0,.dead,.ref 2 0,.dead,.dead,.dead,.dead,.dead,.dead,.dead,.dead,.dead,.dead,.dead,.dead,.dead,.dead,.dead,.fn 105 [.ref 4 0],.dead,.dead,.dead,.dead,.dead,.dead,.dead]),(33,.tail 50 aQ.sz x67.length)]⟩,(fun i=>i),⟨(.sames M M),(.cons (.blk M M M) (.cons (.blk M M M) (.cons (.blk M M M) (.cons (.blk M M M) (.cons (.loop M M M) (.cons (.kept M M M) (.cons (.tail M) .nil))))))),cA [0,1,2,4,5,6,33] M (by decide),fun _ _=>M⟩,?_⟩
      refine aA M (dN M M (lb M) (svB M))<|aB ?_
      refine aR (b:=_) M (fun hc68=>?_) (fun hc68=>?_)
      ·
       replace h:=bS h hc68
       refine aT ?_
       refine bP ?_
       refine bP ?_
       refine bA ?_
       refine bP ?_
       refine ⟨.inr M,5,6,_,_,_,_,M,(by simp),M,M,⟨[(2,.ref 0 0),(4,.ref 1 0),(6,.ref 2 0)],[(0,.blk 36 [.str x65,.int .i64 a0.Bad,.int .i64 x66]),(1,.blk 36 [.str [],.int .i64 0,.int .i64 0]),(2,.blk 57 [.gsl 33 aQ.sz (x67.map aQ.d)]),(33,.tail 50 aQ.sz x67.length)]⟩,(fun i=>i),⟨(.sames M M),(.cons (.blk M M M) (.cons (.blk M M M) (.cons (.blk M M M) (.cons (.tail M) .nil)))),cA [0,1,2,33] M (by decide),fun _ _=>M⟩,?_⟩
       refine bZ ?_
       refine aM ⟨(x65,a0.Bad,x66,x67),(fun i=>i),⟨(.sames M M),(.cons (.blk M M M) (.cons (.blk M M M) (.cons (.blk M M M) (.cons (.tail M) .nil)))),cA [0,1,2,33] M (by decide),fun _ _=>M⟩,?_⟩
       exact h
      ·
       replace h:=bT h hc68
       refine aV ?_
       refine bZ ?_
       refine bZ ?_
       refine aM ⟨(n2,x65,x66,x67),(fun i=>if i=28 then 33 else i),⟨(.sames M M),(.cons (.loop M M M) (.cons (.blk M M M) (.cons (.kept M M M) (.cons (.blk M M M) (.cons (.blk M M M) (.cons (.blk M M M) (.cons (.tail M) .nil))))))),cA [5,4,6,0,1,2,33] M (by decide),(fun i hi=>by first | rfl | (show (if _ then _ else _)=_; (repeat' split) <;> omega))⟩,?_,?_⟩
       exact h
       exact Nat.lt_succ_self _
     ·
      replace h:=bT h hc64
      obtain ⟨x69,hx69,h⟩:=aS h
      refine aC (aA M (aP M M (lb M) (svI M) (sv (d:=.int _ 3) M) M hx69)<|aA M (asB M M M M)<|aB ?_)
      refine aR (b:=_) M (fun hc70=>?_) (fun hc70=>?_)
      ·
       replace h:=bS h hc70
       refine aT ?_
       refine bP ?_
       refine bP ?_
       refine bA ?_
       refine bP ?_
       refine ⟨.inr M,5,6,_,_,_,_,M,(by simp),M,M,⟨[(2,.ref 0 0),(4,.ref 1 0),(6,.ref 2 0)],[(0,.blk 36 [.str v50,.int .i64 a0.Bad,.int .i64 v51]),(1,.blk 36 [.str [],.int .i64 0,.int .i64 0]),(2,.blk 57 [.gsl 28 aQ.sz (v52.map aQ.d)]),(28,.tail 50 aQ.sz v52.length)]⟩,(fun i=>i),⟨(.sames M M),(.cons (.blk M M M) (.cons (.blk M M M) (.cons (.blk M M M) (.cons (.tail M) .nil)))),cA [0,1,2,28] M (by decide),fun _ _=>M⟩,?_⟩
       refine bZ ?_
       refine aM ⟨(v50,a0.Bad,v51,v52),(fun i=>if i=33 then 28 else i),⟨(.sames M M),(.cons (.blk M M M) (.cons (.blk M M M) (.cons (.blk M M M) (.cons (.tail M) .nil)))),cA [0,1,2,28] M (by decide),(fun i hi=>by first | rfl | (show (if _ then _ else _)=_; (repeat' split) <;> omega))⟩,?_⟩
       exact h
      ·
       replace h:=bT h hc70
       refine dH M [⟨[1],[4],[(16,.ref 0 0)],[]⟩,
        ⟨[1],[4],[(17,.ref 0 0)],[]⟩,
        ⟨[5],[],[(18,.int .i64 x62.2.2)],[]⟩,
        ⟨[16],[],[(19,.ref 0 0)],[]⟩,
        ⟨[19],[],[(20,.ref 0 0)],[]⟩,
        ⟨[20],[0],[],[(0,.blk 36 [.str [],.int .i64 a0.Bad,.int .i64 v51])]⟩,
        ⟨[17],[],[(21,.ref 0 0)],[]⟩,
        ⟨[21],[],[(22,.ref 0 1)],[]⟩,
        ⟨[18,22],[0],[],[(0,.blk 36 [.str [],.int .i64 x62.2.2,.int .i64 v51])]⟩] M ?_ (by kernel_rfl) ?_
       ·refine .cons (lop M M fun S hA=>(aG (d:=.ref _ _) M M (lb M) underlying169 aC6 aCc (by decide) (svaR hA M M) (agi hA M M) (nle M) M)) ?_
        refine .cons (lop M M fun S hA=>(aG (d:=.ref _ _) M M (lb M) underlying169 aC6 aCc (by decide) (svaR hA M M) (agi hA M M) (nle M) M)) ?_
        refine .cons (lop M M fun S hA=>(aK M M (lb M) (svaI hA M M))) ?_
        refine .cons (lop M M fun S hA=>(bO M M (lb M) (svaR hA M M))) ?_
        refine .cons (lop M M fun S hA=>(aO M M (lb M) underlying36 M ti9 (by decide) (svaR hA M M) (off':=0) M)) ?_
        refine .cons (lop M M fun S hA=>(bQ (ds':=q24) M M ti9 (svaR hA M M) (agi hA M M) (sv (d:=.str []) M) M M M (nle M) M)) ?_
        refine .cons (lop M M fun S hA=>(bO M M (lb M) (svaR hA M M))) ?_
        refine .cons (lop M M fun S hA=>(aO M M (lb M) underlying36 M ti34 (by decide) (svaR hA M M) (off':=1) M)) ?_
        refine .cons (lop M M fun S hA=>(bQ (ds':=q24) M M ti34 (svaR hA M M) (agi hA M M) (svaI hA M M) M M M (nle M) M)) ?_
        exact .nil
       refine aT ?_
       refine bP ?_
       refine bP ?_
       refine bA ?_
       refine bP ?_
       refine ⟨.inr M,5,6,_,_,_,_,M,(by simp),M,M,⟨[(2,.ref 0 0),(4,.ref 1 0),(6,.ref 2 0)],[(0,.blk 36 [.str [],.int .i64 x62.2.2,.int .i64 v51]),(1,.blk 36 [.str [],.int .i64 0,.int .i64 0]),(2,.blk 57 [.gsl 28 aQ.sz (v52.map aQ.d)]),(28,.tail 50 aQ.sz v52.length)]⟩,(fun i=>i),⟨(.sames M M),(.cons (.blk M M M) (.cons (.blk M M M) (.cons (.blk M M M) (.cons (.tail M) .nil)))),cA [0,1,2,28] M (by decide),fun _ _=>M⟩,?_⟩
       refine bZ ?_
       refine aM ⟨(([]:(List UInt8)),x62.2.2,v51,v52),(fun i=>if i=33 then 28 else i),⟨(.sames M M),(.cons (.blk M M M) (.cons (.blk M M M) (.cons (.blk M M M) (.cons (.tail M) .nil)))),cA [0,1,2,28] M (by decide),(fun i hi=>by first | rfl | (show (if _ then _ else _)=_; (repeat' split) <;> omega))⟩,?_⟩
       exact h
  ·
   rintro ⟨v37,v38,v39,v40⟩ h
   unfold jT at h
   refine dH M [⟨[2],[0],[(28,.agg [.str v37,.int .i64 v38,.int .i64 v39])],[]⟩,
    ⟨[6],[2],[(29,.gsl 33 aQ.sz (v40.map aQ.d))],[]⟩,
    ⟨[4,28],[1],[],[(1,.blk 36 [.str v37,.int .i64 v38,.int .i64 v39])]⟩,
    ⟨[29],[],[(5,.gsl 33 aQ.sz (v40.map aQ.d))],[]⟩] M ?_ (by kernel_rfl) ?_
   ·refine .cons (lop M M fun S hA=>(bY (cs:=q24) M M (lb M) underlying36 ag36 ti36 (by decide) (svaR hA M M) (agi hA M M) (nle M) M)) ?_
    refine .cons (lop M M fun S hA=>(aG (d:=.gsl _ _ _) M M (lb M) underlying57 ag57 ti57 (by decide) (svaR hA M M) (agi hA M M) (nle M) M)) ?_
    refine .cons (lop M M fun S hA=>(bQ (ds':=q24) M M ti36 (svaR hA M M) (agi hA M M) (svaA q24 hA M M) M M M (nle M) M)) ?_
    refine .cons (lop M M fun S hA=>(aE M M (lb M) (sv (d:=.gsl _ _ _) (agr hA M M)))) ?_
    exact .nil
   refine aT ?_
   obtain rfl:=sj_ h
   refine ⟨.inr M,(.cons (rva la36 M M (nle M) M) (.cons (yS M M) .nil))⟩

theorem uG (a0:aH) (r:Bool) (h:kN a0=some r):cJ prog 32 [.agg (v2 a0)] (.bool r):=by
 refine bC (rs:=[.bool r]) func32 M ntmps32 (nle M) M fun O hO=>?_
 show IWP _ _ _ _ ⟨[(0,.agg (v2 a0))],[]⟩ _
 unfold kN at h
 refine aC (aA M (bV (cs:=q12) 0 M M (lb M) M (svA q12 M) M M)<|aA M (aE M M (lb M) (sv (d:=.bool false) M))<|aB ?_)
 obtain ⟨x1,hx1,h⟩:=aZ h
 refine aC (aA M (faR 0 M M M underlying50 M ti5 (lb M) M M)<|aA M (aG (d:=.int _ _) M M (lb M) underlying5 ag5 ti5 (by decide) (svR M) M (nle M) M)<|aA M (aX (r:=.bool _) M M (lb M) cl21 (.cons (svI M) .nil) M (rM _ _ hx1))<|aA M (dN M M (lb M) (svB M))<|aA M (asB M M M M)<|aB ?_)
 refine aT ?_
 obtain rfl:=sj_ h
 refine ⟨.inr M,(.cons (sv M) .nil)⟩

theorem iD (a0:(List aH)) (r:Int) (h:dG a0=some r):cJ prog 31 [.slice false (a0.map aQ.d),.fn 32 []] (.int .i64 r):=by
 refine bC (rs:=[.int .i64 r]) func31 M ntmps31 (nle M) M fun O hO=>?_
 show IWP _ _ _ _ ⟨[(0,.slice false (a0.map aQ.d)),(1,.fn 32 [])],[]⟩ _
 unfold dG at h
 refine aC (aA M (aE M M (lb M) (sv (d:=.int _ 0) M))<|aB ?_)
 refine aW ?_
 refine aC (aA M (mvL M M M M)<|aA M (cN aQ (l:=a0) M M (lb M) underlying57 (svL M))<|aA M (aK M M (lb M) (sv (d:=.int _ 0) M))<|aB ?_)
 refine bG ?_
 refine dA (α:=Nat × Int) (fun z=>⟨[(0,.slice false (a0.map aQ.d)),(1,.fn 32 []),(7,.int .i64 (a0.length:Int)),(8,.int .i64 z.2)],[]⟩) (fun z=>bW a0 z.1 z.2=some r) (fun z=>z.1) (fuel,0) (fun i=>i) ⟨(.sames M M),.nil,cA [] M (by decide),fun _ _=>M⟩ ?_ ?_
 ·exact h
 ·
  rintro ⟨n0,v7⟩ h
  cases n0 with
  | zero=>exact absurd h (by unfold bW; exact nofun)
  | succ n0 =>
   unfold bW at h
   obtain ⟨x14,hx14,h⟩:=aS h
   refine aC (aA M (aP M M (lb M) (svI M) (svI M) M hx14)<|aB ?_)
   refine aW ?_
   refine aR (b:=_) M (fun hc15=>?_) (fun hc15=>?_)
   ·
    replace h:=bS h hc15
    refine aV ?_
    refine aM ?_
    refine aW ?_
    refine bG ?_
    refine aC (aA M (mvI M M M M)<|aA M (asI M M M M)<|aB ?_)
    obtain ⟨x16,hx16,h⟩:=aZ h
    obtain ⟨x17,hx17,h⟩:=aZ h
    refine aC (aA M (aK M M (lb M) (sv (d:=.fn 32 []) M))<|aA M (mvL M M M M)<|aA M (mvI M M M M)<|aA M (dB aQ (cs:=q12) M M (lb M) underlying57 ti50 (svL M) (svI M) hx16 M M)<|aA M (cX (cs:=q12) M M (lb M) underlying50 ag50 ti50 (by decide) (sv (d:=.fptr q12) M) (nle M) M)<|aA M (nP (r:=.bool _) M M (lb M) cl32 (sv (d:=.fn 32 []) M) (.cons (svA q12 M) .nil) M (uG _ _ hx17))<|aB ?_)
    refine aR (b:=_) M (fun hc18=>?_) (fun hc18=>?_)
    ·
     replace h:=bS h hc18
     refine aC (aA M (mvI M M M M)<|aA M (asI M M M M)<|aB ?_)
     refine aT ?_
     refine bP ?_
     refine bA ?_
     refine bA ?_
     refine bP ?_
     refine bA ?_
     obtain rfl:=sj_ h
     refine ⟨.inr M,(.cons (sv M) .nil)⟩
    ·
     replace h:=bT h hc18
     refine aV ?_
     refine bZ ?_
     refine aM ?_
     obtain ⟨x19,hx19,h⟩:=aS h
     refine bE (aA M (bN M M (lb M) (svI M) (sv (d:=.int _ 1) M) M hx19)<|aA M (mvI M M M M)<|cB ?_)
     refine aM ⟨(n0,x19),(fun i=>i),⟨(.sames M M),.nil,cA [] M (by decide),fun _ _=>M⟩,?_,?_⟩
     exact h
     exact Nat.lt_succ_self _
   ·
    replace h:=bT h hc15
    refine cQ ?_
    refine bJ ?_
    refine bJ ?_
    refine cR ?_
    refine aM ?_
    refine aC (aA M (aE M M (lb M) (sv (d:=.int _ (-1)) M))<|aB ?_)
    refine aT ?_
    obtain rfl:=sj_ h
    refine ⟨.inr M,(.cons (sv M) .nil)⟩

theorem aAC (a0:Int) (r:lF) (h:qI a0=some r):cJ prog 33 [.int .i64 a0] (.agg [.int .i64 r.Scope,.int .u32 r.Code]):=by
 refine bC (rs:=[.agg [.int .i64 r.Scope,.int .u32 r.Code]]) func33 M ntmps33 (nle M) M fun O hO=>?_
 show IWP _ _ _ _ ⟨[(0,.int .i64 a0)],[]⟩ _
 unfold qI at h
 refine aC (aA M (bI (cs:=q27) (cs':=[.int .i64 0,.int .u32 0]) 0 M M (lb M) M ti92 M M (.all _))<|aB ?_)
 refine aW ?_
 refine aC (aA M (mvI M M M M)<|aB ?_)
 refine bG ?_
 obtain ⟨x1,hx1,h⟩:=aS h
 refine aC (aA M (aP M M (lb M) (svI M) (sv (d:=.int _ 0) M) M hx1)<|aA M (asB M M M M)<|aB ?_)
 refine aR (b:=_) M (fun hc2=>?_) (fun hc2=>?_)
 ·
  replace h:=bS h hc2
  refine aC (aA M (cF (cs:=q27) M M (lb M) underlying92 ti92 pl92 M .nil M)<|aA M (stA q27 q27 ti92 M M M M M M M M (nle M) M)<|aB ?_)
  refine aT ?_
  refine bP ?_
  refine bA ?_
  obtain rfl:=sj_ h
  refine ⟨.inr M,(.cons (rva la92 M M (nle M) M) .nil)⟩
 ·
  replace h:=bT h hc2
  obtain ⟨x3,hx3,h⟩:=aS h
  refine aC (aA M (aP M M (lb M) (svI M) (sv (d:=.int _ 5) M) M hx3)<|aA M (asB M M M M)<|aB ?_)
  refine aR (b:=_) M (fun hc4=>?_) (fun hc4=>?_)
  ·
   replace h:=bS h hc4
   refine aC (aA M (cF (cs:=q27) M M (lb M) underlying92 ti92 pl92 M (.cons (sv (d:=.int _ 3) M) (.cons (sv (d:=.int _ 6) M) .nil)) M)<|aA M (stA q27 q27 ti92 M M M M M M M M (nle M) M)<|aB ?_)
   refine aT ?_
   refine bP ?_
   refine bA ?_
   obtain rfl:=sj_ h
   refine ⟨.inr M,(.cons (rva la92 M M (nle M) M) .nil)⟩
  ·
   replace h:=bT h hc4
   refine aV ?_
   refine bZ ?_
   refine aM ?_
   refine aC (aA M (cF (cs:=q27) M M (lb M) underlying92 ti92 pl92 M (.cons (sv (d:=.int _ 3) M) (.cons (sv (d:=.int _ 1) M) .nil)) M)<|aA M (stA q27 q27 ti92 M M M M M M M M (nle M) M)<|aB ?_)
   refine aT ?_
   obtain rfl:=sj_ h
   refine ⟨.inr M,(.cons (rva la92 M M (nle M) M) .nil)⟩

theorem kL (a0:bB) (a1:Int) (a2:(List UInt8)) (r:(bB × (List aH) × Int)) (h:fF a0 a1 a2=some r):cJ prog 10 [.agg (v0 a0),.int .i64 a1,.str a2] (retD [.agg (v0 r.1),.slice false (r.2.1.map aQ.d),.int .u32 r.2.2]):=by
 refine bC (rs:=[.agg (v0 r.1),.slice false (r.2.1.map aQ.d),.int .u32 r.2.2]) func10 M ntmps10 (nle M) M fun O hO=>?_
 show IWP _ _ _ _ ⟨[(0,.agg (v0 a0)),(1,.int .i64 a1),(2,.str a2)],[]⟩ _
 unfold fF at h
 refine aC (aA M (bV (cs:=q9) 0 M M (lb M) M (svA q9 M) M M)<|aA M (bI (cs:=q10) (cs':=(w38 0 [] 0 ([]:List aL) ([]:List aI) false false false false 0 [] ([]:List aU) 0 [] 0 0)) 1 M M (lb M) M ti38 M M (.k (.k (.k (.cons (.nils _) (.cons (.nils _) (.k4 (.k (.k (.cons (.nils _) (.all _)))))))))))<|aA M (aE M M (lb M) (sv (d:=.nils) M))<|aA M (aE M M (lb M) (sv (d:=.int _ 0) M))<|aB ?_)
 refine aW ?_
 obtain ⟨x1,hx1,h⟩:=aZ h
 obtain ⟨x2,hx2,h⟩:=aS h
 refine aC (aA M (lra q9 la38 M M M M M (nle M) M)<|aA M (aX (r:=.int _ _) M M (lb M) cl16 (.cons (svA q9 M) .nil) M (eL _ _ hx1))<|aA M (aP M M (lb M) (svI M) (sv (d:=.int _ 0) M) M hx2)<|aB ?_)
 refine aR (b:=_) M (fun hc3=>?_) (fun hc3=>?_)
 ·
  replace h:=bS h hc3
  refine aC (aA M (lra q9 la38 M M M M M (nle M) M)<|aA M (stA q9 q9 ti38 M M M M M M M M (nle M) M)<|aA M (aE M M (lb M) (sv (d:=.nils) M))<|aA M (aE M M (lb M) (sv (d:=.int _ 2) M))<|aB ?_)
  refine aT ?_
  refine bA ?_
  obtain rfl:=sj_ h
  refine ⟨.inr M,(.cons (rva la38 M M (nle M) M) (.cons (tU M M) (.cons (sv M) .nil)))⟩
 ·
  replace h:=bT h hc3
  refine aV ?_
  refine aM ?_
  obtain ⟨x4,hx4,h⟩:=aZ h
  refine aC (aA M (faR 9 M M M underlying38 M ti33 (lb M) M M)<|aA M (lra q18 la33 M M M M M (nle M) M)<|aA M (mvI M M M M)<|aA M (aK M M (lb M) (sv (d:=.str _) M))<|aA M (aX (r:=.tuple q34) M M (lb M) cl28 (.cons (svA q18 M) (.cons (svI M) (.cons (sv (d:=.str _) M) (.cons (sv (d:=.bool false) M) .nil)))) M (aCp _ _ _ _ _ hx4))<|aA M (aK M M (lb M) (sv (d:=.tuple q34) M))<|aA M (bD (d:=.agg q18) M M (lb M) (sv (d:=.tuple q34) M) M)<|aA M (bD (d:=.int _ _) M M (lb M) (sv (d:=.tuple q34) M) M)<|aA M (bD (d:=.int _ _) M M (lb M) (sv (d:=.tuple q34) M) M)<|aA M (bI (cs:=q20) (cs':=(w42 0 [] ([]:List aU) 0)) 2 M M (lb M) M ti33 M M (.k (.k (.cons (.nils _) (.all _)))))<|aA M (stA q18 q18 ti33 M M M M M M M M (nle M) M)<|aA M (asI M M M M)<|aA M (asI M M M M)<|aB ?_)
  refine aW ?_
  obtain ⟨x5,hx5,h⟩:=aS h
  refine aC (aA M (mvI M M M M)<|aA M (aP M M (lb M) (svI M) (sv (d:=.int _ 0) M) M hx5)<|aB ?_)
  refine aR (b:=_) M (fun hc6=>?_) (fun hc6=>?_)
  ·
   replace h:=bS h hc6
   refine aC (aA M (lra q9 la38 M M M M M (nle M) M)<|aA M (mvI M M M M)<|aA M (stA q9 q9 ti38 M M M M M M M M (nle M) M)<|aA M (aE M M (lb M) (sv (d:=.nils) M))<|aA M (asI M M M M)<|aB ?_)
   refine aT ?_
   refine bA ?_
   obtain rfl:=sj_ h
   refine ⟨.inr M,(.cons (rva la38 M M (nle M) M) (.cons (tU M M) (.cons (sv M) .nil)))⟩
  ·
   replace h:=bT h hc6
   refine aV ?_
   refine aM ?_
   obtain ⟨x7,hx7,h⟩:=aZ h
   refine aC (aA M (lra q18 la33 M M M M M (nle M) M)<|aA M (aX (r:=.tuple q35) M M (lb M) cl29 (.cons (svA q18 M) (.cons (sv (d:=.int _ 4096) M) .nil)) M (aBs _ _ _ hx7))<|aA M (aK M M (lb M) (sv (d:=.tuple q35) M))<|aA M (bD (d:=.agg q18) M M (lb M) (sv (d:=.tuple q35) M) M)<|aA M (bD (d:=.str _) M M (lb M) (sv (d:=.tuple q35) M) M)<|aA M (bD (d:=.bool _) M M (lb M) (sv (d:=.tuple q35) M) M)<|aA M (stA q18 q18 ti33 M M M M M M M M (nle M) M)<|aA M (aE M M (lb M) (sv (d:=.str _) M))<|aA M (asB M M M M)<|aB ?_)
   obtain ⟨x8,hx8,h⟩:=aZ h
   refine aC (aA M (faR 13 M M M underlying38 M ti36 (lb M) M M)<|aA M (lra q24 la36 M M M M M (nle M) M)<|aA M (aK M M (lb M) (sv (d:=.str _) M))<|aA M (aX (r:=.tuple [.agg q24,.slice _ _]) M M (lb M) cl30 (.cons (svA q24 M) (.cons (sv (d:=.str _) M) .nil)) M (yI _ _ _ hx8))<|aA M (aK M M (lb M) (sv (d:=.tuple [.agg q24,.slice _ _]) M))<|aA M (bD (d:=.agg q24) M M (lb M) (sv (d:=.tuple [.agg q24,.slice _ _]) M) M)<|aA M (bD (d:=.slice _ _) M M (lb M) (sv (d:=.tuple [.agg q24,.slice _ _]) M) M)<|aA M (bI (cs:=q24) (cs':=[.str [],.int .i64 0,.int .i64 0]) 3 M M (lb M) M ti36 M M (.all _))<|aA M (stA q24 q24 ti36 M M M M M M M M (nle M) M)<|aA M (aE M M (lb M) (svL M))<|aB ?_)
   refine aW ?_
   obtain ⟨x9,hx9,h⟩:=aZ h
   refine aC (aA M (mvL M M M M)<|aA M (aX (r:=.int _ _) M M (lb M) cl31 (.cons (svL M) (.cons (sv (d:=.fn 32 []) M) .nil)) M (iD _ _ hx9))<|aA M (asI M M M M)<|aB ?_)
   obtain ⟨x10,hx10,h⟩:=aS h
   refine aC (aA M (mvI M M M M)<|aA M (aP M M (lb M) (svI M) (sv (d:=.int _ 0) M) M hx10)<|aB ?_)
   refine aR (b:=_) M (fun hc11=>?_) (fun hc11=>?_)
   ·
    replace h:=bS h hc11
    obtain ⟨x12,hx12,h⟩:=aZ h
    refine dH M [⟨[3],[0],[(52,.agg (v0 a0))],[]⟩,
     ⟨[15],[],[(53,.slice false (x8.2.map aQ.d))],[]⟩,
     ⟨[16],[],[(54,.int .i64 x9)],[]⟩,
     ⟨[53,54],[],[(55,.slice false (x12.map aQ.d))],[]⟩,
     ⟨[6,52],[1],[],[(1,.blk 38 (v0 a0))]⟩,
     ⟨[55],[],[(7,.slice false (x12.map aQ.d))],[]⟩,
     ⟨[],[],[(8,.int .u32 1)],[]⟩] M ?_ (by kernel_rfl) ?_
    ·refine .cons (lop M M fun S hA=>(bY (cs:=q9) M M (lb M) underlying38 ag38 ti38 (by decide) (svaR hA M M) (agi hA M M) (nle M) M)) ?_
     refine .cons (lop M M fun S hA=>(aK M M (lb M) (svaL hA M M))) ?_
     refine .cons (lop M M fun S hA=>(aK M M (lb M) (svaI hA M M))) ?_
     refine .cons (lop M M fun S hA=>(uS aQ M M (lb M) underlying57 ti50 (svaL hA M M) M ⟨_,(svaI hA M M)⟩ hx12)) ?_
     refine .cons (lop M M fun S hA=>(bQ (ds':=q9) M M ti38 (svaR hA M M) (agi hA M M) (svaA q9 hA M M) M M M (nle M) M)) ?_
     refine .cons (lop M M fun S hA=>(aE M M (lb M) (svaL hA M M))) ?_
     refine .cons (lop M M fun S hA=>(aE M M (lb M) (sv (d:=.int _ 1) M))) ?_
     exact .nil
    refine aT ?_
    refine bA ?_
    obtain rfl:=sj_ h
    refine ⟨.inr M,(.cons (rva la38 M M (nle M) M) (.cons (sv M) (.cons (sv M) .nil)))⟩
   ·
    replace h:=bT h hc11
    refine aV ?_
    refine aM ?_
    refine aW ?_
    obtain ⟨x13,hx13,h⟩:=aZ h
    refine aC (aA M (faR 1 M M M underlying36 M ti34 (lb M) M M)<|aA M (aG (d:=.int _ _) M M (lb M) underlying34 ag34 ti34 (by decide) (svR M) M (nle M) M)<|aA M (aX (r:=.agg q27) M M (lb M) cl33 (.cons (svI M) .nil) M (aAC _ _ hx13))<|aA M (bI (cs:=q27) (cs':=[.int .i64 0,.int .u32 0]) 4 M M (lb M) M ti92 M M (.all _))<|aA M (stA q27 q27 ti92 M M M M M M M M (nle M) M)<|aB ?_)
    obtain ⟨x14,hx14,h⟩:=aS h
    refine aC (aA M (faR 0 M M M underlying92 M ti3 (lb M) M M)<|aA M (aG (d:=.int _ _) M M (lb M) underlying3 ag3 ti3 (by decide) (svR M) M (nle M) M)<|aA M (aP M M (lb M) (svI M) (sv (d:=.int _ 0) M) M hx14)<|aB ?_)
    refine aR (b:=_) M (fun hc15=>?_) (fun hc15=>?_)
    ·
     replace h:=bS h hc15
     refine dH M [⟨[3],[0],[(62,.agg (v0 a0))],[]⟩,
      ⟨[15],[],[(63,.slice false (x8.2.map aQ.d))],[]⟩,
      ⟨[17],[],[(64,.ref 4 1)],[]⟩,
      ⟨[64],[4],[(65,.int .u32 x13.Code)],[]⟩,
      ⟨[6,62],[1],[],[(1,.blk 38 (v0 a0))]⟩,
      ⟨[63],[],[(7,.slice false (x8.2.map aQ.d))],[]⟩,
      ⟨[65],[],[(8,.int .u32 x13.Code)],[]⟩] M ?_ (by kernel_rfl) ?_
     ·refine .cons (lop M M fun S hA=>(bY (cs:=q9) M M (lb M) underlying38 ag38 ti38 (by decide) (svaR hA M M) (agi hA M M) (nle M) M)) ?_
      refine .cons (lop M M fun S hA=>(aK M M (lb M) (svaL hA M M))) ?_
      refine .cons (lop M M fun S hA=>(aO M M (lb M) underlying92 M ti59 (by decide) (svaR hA M M) (off':=1) M)) ?_
      refine .cons (lop M M fun S hA=>(aG (d:=.int _ _) M M (lb M) underlying59 ag59 ti59 (by decide) (svaR hA M M) (agi hA M M) (nle M) M)) ?_
      refine .cons (lop M M fun S hA=>(bQ (ds':=q9) M M ti38 (svaR hA M M) (agi hA M M) (svaA q9 hA M M) M M M (nle M) M)) ?_
      refine .cons (lop M M fun S hA=>(aE M M (lb M) (svaL hA M M))) ?_
      refine .cons (lop M M fun S hA=>(aE M M (lb M) (svaI hA M M))) ?_
      exact .nil
     refine aT ?_
     refine bA ?_
     obtain rfl:=sj_ h
     refine ⟨.inr M,(.cons (rva la38 M M (nle M) M) (.cons (sv M) (.cons (sv M) .nil)))⟩
    ·
     replace h:=bT h hc15
     refine aV ?_
     refine aM ?_
     refine dH M [⟨[9],[2],[(66,.agg (v5 x7.1))],[]⟩,
      ⟨[14],[3],[(67,.agg (v8 x8.1))],[]⟩,
      ⟨[3],[],[(68,.ref 0 9)],[]⟩,
      ⟨[66,68],[0],[],[(0,.blk 38 (w38 a0.Send.Base a0.Send.Data a0.Send.Next a0.Send.Pieces a0.Send.Lost a0.Send.Closed a0.Send.Sent a0.Send.Again a0.Send.Done x7.1.Recv.Base x7.1.Recv.Ready x7.1.Recv.Parts x7.1.End a0.In.Buf a0.In.Bad a0.In.Seen))]⟩,
      ⟨[3],[],[(69,.ref 0 13)],[]⟩,
      ⟨[67,69],[0],[],[(0,.blk 38 (w38 a0.Send.Base a0.Send.Data a0.Send.Next a0.Send.Pieces a0.Send.Lost a0.Send.Closed a0.Send.Sent a0.Send.Again a0.Send.Done x7.1.Recv.Base x7.1.Recv.Ready x7.1.Recv.Parts x7.1.End x8.1.Buf x8.1.Bad x8.1.Seen))]⟩] M ?_ (by kernel_rfl) ?_
     ·refine .cons (lop M M fun S hA=>(bY (cs:=q18) M M (lb M) underlying33 ag33 ti33 (by decide) (svaR hA M M) (agi hA M M) (nle M) M)) ?_
      refine .cons (lop M M fun S hA=>(bY (cs:=q24) M M (lb M) underlying36 ag36 ti36 (by decide) (svaR hA M M) (agi hA M M) (nle M) M)) ?_
      refine .cons (lop M M fun S hA=>(aO M M (lb M) underlying38 M ti33 (by decide) (svaR hA M M) (off':=9) M)) ?_
      refine .cons (lop M M fun S hA=>(bQ (ds':=q9) M M ti33 (svaR hA M M) (agi hA M M) (svaA q18 hA M M) M M M (nle M) M)) ?_
      refine .cons (lop M M fun S hA=>(aO M M (lb M) underlying38 M ti36 (by decide) (svaR hA M M) (off':=13) M)) ?_
      refine .cons (lop M M fun S hA=>(bQ (ds':=q9) M M ti36 (svaR hA M M) (agi hA M M) (svaA q24 hA M M) M M M (nle M) M)) ?_
      exact .nil
     refine aC (aA M (lra q9 la38 M M M M M (nle M) M)<|aA M (mvL M M M M)<|aA M (stA q9 q9 ti38 M M M M M M M M (nle M) M)<|aA M (aE M M (lb M) (svL M))<|aA M (aE M M (lb M) (sv (d:=.int _ 0) M))<|aB ?_)
     refine aT ?_
     obtain rfl:=sj_ h
     refine ⟨.inr M,(.cons (rva la38 M M (nle M) M) (.cons (sv M) (.cons (sv M) .nil)))⟩

theorem qL (a0:aL) (a1:Int) (r:Bool) (h:lT a0 a1=some r):cJ prog 67 [.agg (v7 a0),.fptr [.int .i64 a1]] (.bool r):=by
 refine bC (rs:=[.bool r]) func67 M ntmps67 (nle M) M fun O hO=>?_
 show IWP _ _ _ _ ⟨[(0,.agg (v7 a0)),(1,.fptr [.int .i64 a1])],[]⟩ _
 unfold lT at h
 refine aC (aA M (bV (cs:=q19) 0 M M (lb M) M (svA q19 M) M M)<|aA M (aE M M (lb M) (sv (d:=.bool false) M))<|aB ?_)
 obtain ⟨x1,hx1,h⟩:=aS h
 refine aC (aA M (faR 2 M M M underlying52 M ti3 (lb M) M M)<|aA M (aG (d:=.int _ _) M M (lb M) underlying3 ag3 ti3 (by decide) (svR M) M (nle M) M)<|aA M (eB M M (lb M) underlying3 ag3 ti3 (by decide) (sv (d:=.fptr [.int _ _]) M) (nle M))<|aA M (aP M M (lb M) (svI M) (svI M) M hx1)<|aA M (asB M M M M)<|aB ?_)
 refine aT ?_
 obtain rfl:=sj_ h
 refine ⟨.inr M,(.cons (sv M) .nil)⟩

theorem mZ (a0:aI) (a1:(List aI)) (r:(List aI)) (h:iE a0 a1=some r):FnH prog 106 [.osl 1000 aJ.sz a1.length,.agg [.int .i64 a0.From,.int .i64 a0.To]] [(1000,.blk 116 (D.flat (a1.map aJ.d)))] (.osl 0 aJ.sz r.length) [(0,.blk 116 (D.flat (r.map aJ.d)))]:=by
 refine fN (rs:=[.osl 0 aJ.sz r.length]) func106 M ntmps106 (nle M) fun O hO=>?_
 show IWP _ _ _ _ ⟨[(0,.osl 1000 aJ.sz a1.length),(1,.agg [.int .i64 a0.From,.int .i64 a0.To])],[(1000,.blk 116 (D.flat (a1.map aJ.d)))]⟩ _
 unfold iE at h
 refine aC (aA M (bV (cs:=q27) 0 M M (lb M) M (svA q27 M) M M)<|aA M (aE M M (lb M) (sv (d:=.nils) M))<|aB ?_)
 refine aW ?_
 obtain ⟨x1,hx1,h⟩:=aZ h
 refine aC (aA M (lra q27 qN M M M M M (nle M) M)<|aA M (aX (r:=.bool _) M M (lb M) cl89 (.cons (svA q27 M) .nil) M (iB _ _ hx1))<|aB ?_)
 refine aR (b:=_) M (fun hc2=>?_) (fun hc2=>?_)
 ·
  replace h:=bS h hc2
  refine aC (aA M (aK M M (lb M) (sv (d:=.osl _ _ _) M))<|aA M (aE M M (lb M) (sv (d:=.osl _ _ _) M))<|aB ?_)
  refine aT ?_
  refine bA ?_
  obtain rfl:=sj_ h
  refine ⟨.inr M,(fun i=>if i=0 then 1000 else i),⟨.nil,(.cons (EntW.lst M) .nil),cA [1000] M (by decide),(fun i hi=>by first | rfl | (show (if _ then _ else _)=_; (repeat' split) <;> omega))⟩,(.cons (sv M) .nil),M⟩
 ·
  replace h:=bT h hc2
  refine aV ?_
  refine aM ?_
  refine aW ?_
  refine aC (aA M (aK M M (lb M) (sv (d:=.osl _ _ _) M))<|aA M (nH M M (lb M) underlying26 (sv (d:=.osl _ _ _) M))<|aA M (asI M M M M)<|aB ?_)
  obtain ⟨x3,hx3,h⟩:=aS h
  obtain ⟨x4,hx4,h⟩:=aS h
  obtain ⟨x5,hx5,h⟩:=aZ h
  obtain ⟨x6,hx6,h⟩:=aZ h
  obtain ⟨x7,hx7,h⟩:=aS h
  obtain ⟨x8,hx8,h⟩:=aS h
  refine dH M [⟨[5],[],[(11,.int .i64 (a1.length:Int))],[]⟩,
   ⟨[11],[],[(12,.bool x3)],[]⟩,
   ⟨[12],[],[(13,.bool x3)],[]⟩,
   ⟨[0,13],[],[(14,.cnd (x3 == true) (.osl 1000 aJ.sz a1.length))],[]⟩,
   ⟨[5,13],[],[(15,.cnd (x3 == true) (.int .i64 (a1.length:Int)))],[]⟩,
   ⟨[13,15],[],[(16,.cnd (x3 == true) (.int .i64 x4))],[]⟩,
   ⟨[13,14,16],[],[(17,.cnd (x3 == true) (.ref 1000 (((x4:Int).toNat) * aJ.sz + 0)))],[]⟩,
   ⟨[13,17],[],[(18,.cnd (x3 == true) (.ref 1000 (((x4:Int).toNat) * aJ.sz + 1)))],[]⟩,
   ⟨[13,18],[1000],[(19,.cnd (x3 == true) (.int .i64 x6.To))],[]⟩,
   ⟨[3,13],[],[(20,.cnd (x3 == true) (.ref 0 0))],[]⟩,
   ⟨[13,20],[0],[(21,.cnd (x3 == true) (.int .i64 a0.From))],[]⟩,
   ⟨[13,19,21],[],[(22,.cnd (x3 == true) (.bool x7))],[]⟩,
   ⟨[13,22],[],[(23,.bool x8)],[]⟩] M ?_ (by kernel_rfl) ?_
  ·refine .cons (lop M M fun S hA=>(aK M M (lb M) (svaI hA M M))) ?_
   refine .cons (lop M M fun S hA=>(aP M M (lb M) (svaI hA M M) (sv (d:=.int _ 0) M) M hx3)) ?_
   refine .cons (lop M M fun S hA=>(aK M M (lb M) (svaB hA M M))) ?_
   refine .cons (lopg M M M M (by decide) (fun S hA=>grd1 hA M M) (fun S hA hb=>(aK M M (lb M) (sv (d:=.osl _ _ _) (agr hA M M))))) ?_
   refine .cons (lopg M M M M (by decide) (fun S hA=>grd1 hA M M) (fun S hA hb=>(aK M M (lb M) (svaI hA M M)))) ?_
   refine .cons (lopg M M M M (by decide) (fun S hA=>grd1 hA M M) (fun S hA hb=>(bN M M (lb M) (svc (d:=.int _ _) (agr hA M M) hb) (sv (d:=.int _ 1) M) M hx4))) ?_
   refine .cons (lopg M M M M (by decide) (fun S hA=>grd1 hA M M) (fun S hA hb=>(jN aJ.toEnc0 M M (lb M) underlying26 gC (svc (d:=.osl _ _ _) (agr hA M M) hb) M (svc (d:=.int _ _) (agr hA M M) hb) (gd_t hx5 hb)))) ?_
   refine .cons (lopg M M M M (by decide) (fun S hA=>grd1 hA M M) (fun S hA hb=>(kF M M (lb M) underlying116 M ti3 (by decide) (svc (d:=.ref _ _) (agr hA M M) hb) (k':=1) M))) ?_
   refine .cons (lopg M M M M (by decide) (fun S hA=>grd1 hA M M) (fun S hA hb=>(lJ aJ.toEnc0 (d:=.int _ _) M M (lb M) underlying3 ag3 ti3 (by decide) (svc (d:=.ref _ _) (agr hA M M) hb) (agi hA M M) (gd_t hx6 hb) (nle M) M))) ?_
   refine .cons (lopg M M M M (by decide) (fun S hA=>grd1 hA M M) (fun S hA hb=>(aO M M (lb M) underlying116 M ti3 (by decide) (svaR hA M M) (off':=0) M))) ?_
   refine .cons (lopg M M M M (by decide) (fun S hA=>grd1 hA M M) (fun S hA hb=>(aG (d:=.int _ _) M M (lb M) underlying3 ag3 ti3 (by decide) (svc (d:=.ref _ _) (agr hA M M) hb) (agi hA M M) (nle M) M))) ?_
   refine .cons (lopg M M M M (by decide) (fun S hA=>grd1 hA M M) (fun S hA hb=>(aP M M (lb M) (svc (d:=.int _ _) (agr hA M M) hb) (svc (d:=.int _ _) (agr hA M M) hb) M hx7))) ?_
   refine .cons (lop M M fun S hA=>(cC M M (lb M) (svaB hA M M) (agr hA M M) M hx8)) ?_
   exact .nil
  refine aR (b:=_) M (fun hc9=>?_) (fun hc9=>?_)
  ·
   replace h:=bS h hc9
   obtain ⟨x10,hx10,h⟩:=aS h
   obtain ⟨x11,hx11,h⟩:=aS h
   obtain ⟨x12,hx12,h⟩:=aZ h
   obtain ⟨x13,hx13,h⟩:=aZ h
   obtain ⟨x14,hx14,h⟩:=aS h
   obtain ⟨x15,hx15,h⟩:=aZ h
   obtain ⟨x16,hx16,h⟩:=aZ h
   obtain ⟨x17,hx17,h⟩:=aS h
   refine dH M [⟨[0],[],[(24,.osl 1000 aJ.sz a1.length)],[]⟩,
    ⟨[5],[],[(25,.int .i64 (a1.length:Int))],[]⟩,
    ⟨[25],[],[(26,.int .i64 x10)],[]⟩,
    ⟨[0],[],[(27,.osl 1000 aJ.sz a1.length)],[]⟩,
    ⟨[5],[],[(28,.int .i64 (a1.length:Int))],[]⟩,
    ⟨[28],[],[(29,.int .i64 x11)],[]⟩,
    ⟨[27,29],[],[(30,.ref 1000 (((x11:Int).toNat) * aJ.sz + 0))],[]⟩,
    ⟨[30],[],[(31,.ref 1000 (((x11:Int).toNat) * aJ.sz + 1))],[]⟩,
    ⟨[31],[1000],[(32,.int .i64 x13.To)],[]⟩,
    ⟨[3],[],[(33,.ref 0 1)],[]⟩,
    ⟨[33],[0],[(34,.int .i64 a0.To)],[]⟩,
    ⟨[32,34],[],[(35,.int .i64 x14)],[]⟩,
    ⟨[24,26],[],[(36,.ref 1000 (((x10:Int).toNat) * aJ.sz + 0))],[]⟩,
    ⟨[36],[],[(37,.ref 1000 (((x10:Int).toNat) * aJ.sz + 1))],[]⟩,
    ⟨[35,37],[1000],[],[(1000,.blk 116 (D.flat (x17.map aJ.d)))]⟩] M ?_ (by kernel_rfl) ?_
   ·refine .cons (lop M M fun S hA=>(aK M M (lb M) (sv (d:=.osl _ _ _) (agr hA M M)))) ?_
    refine .cons (lop M M fun S hA=>(aK M M (lb M) (svaI hA M M))) ?_
    refine .cons (lop M M fun S hA=>(bN M M (lb M) (svaI hA M M) (sv (d:=.int _ 1) M) M hx10)) ?_
    refine .cons (lop M M fun S hA=>(aK M M (lb M) (sv (d:=.osl _ _ _) (agr hA M M)))) ?_
    refine .cons (lop M M fun S hA=>(aK M M (lb M) (svaI hA M M))) ?_
    refine .cons (lop M M fun S hA=>(bN M M (lb M) (svaI hA M M) (sv (d:=.int _ 1) M) M hx11)) ?_
    refine .cons (lop M M fun S hA=>(jN aJ.toEnc0 M M (lb M) underlying26 gC (sv (d:=.osl _ _ _) (agr hA M M)) M (svaI hA M M) hx12)) ?_
    refine .cons (lop M M fun S hA=>(kF M M (lb M) underlying116 M ti3 (by decide) (svaR hA M M) (k':=1) M)) ?_
    refine .cons (lop M M fun S hA=>(lJ aJ.toEnc0 (d:=.int _ _) M M (lb M) underlying3 ag3 ti3 (by decide) (svaR hA M M) (agi hA M M) hx13 (nle M) M)) ?_
    refine .cons (lop M M fun S hA=>(aO M M (lb M) underlying116 M ti3 (by decide) (svaR hA M M) (off':=1) M)) ?_
    refine .cons (lop M M fun S hA=>(aG (d:=.int _ _) M M (lb M) underlying3 ag3 ti3 (by decide) (svaR hA M M) (agi hA M M) (nle M) M)) ?_
    refine .cons (lop M M fun S hA=>(qR M M (lb M) (svaI hA M M) (svaI hA M M) hx14)) ?_
    refine .cons (lop M M fun S hA=>(jN aJ.toEnc0 M M (lb M) underlying26 gC (sv (d:=.osl _ _ _) (agr hA M M)) M (svaI hA M M) hx15)) ?_
    refine .cons (lop M M fun S hA=>(kF M M (lb M) underlying116 M ti3 (by decide) (svaR hA M M) (k':=1) M)) ?_
    refine .cons (lop M M fun S hA=>(mF aJ.toEnc0 (a':=(⟨x16.From,x14⟩:aI)) M M ti3 (svaR hA M M) (agi hA M M) (svaI hA M M) M M M hx16 (nle M) M hx17)) ?_
    exact .nil
   refine aC (aA M (aK M M (lb M) (sv (d:=.osl _ _ _) M))<|aA M (aE M M (lb M) (sv (d:=.osl _ _ _) M))<|aB ?_)
   refine aT ?_
   refine bA ?_
   obtain rfl:=sj_ h
   refine ⟨.inr M,(fun i=>if i=0 then 1000 else i),⟨.nil,(.cons (EntW.lst M) .nil),cA [1000] M (by decide),(fun i hi=>by first | rfl | (show (if _ then _ else _)=_; (repeat' split) <;> omega))⟩,(.cons (sv (congrArg (D.osl _ _) (rR hx17 M).symm)) .nil),M⟩
  ·
   replace h:=bT h hc9
   refine aV ?_
   refine aM ?_
   obtain ⟨x18,hx18,h⟩:=aZ h
   refine aC (aA M (aK M M (lb M) (sv (d:=.osl _ _ _) M))<|aA M (lra q27 qN M M M M M (nle M) M)<|aA M (kG aJ.toEnc0 ([(⟨a0.From,a0.To⟩:aI)]:(List aI)) 1 M M (lb M) underlying26 gC M (.cons (svA q27 M) .nil) M M (by decide))<|aA M (lQ aJ.toEnc0 2 M M (lb M) underlying26 gC M M M M M (rD aJ.toEnc0 M M M) hx18)<|aA M (aE M M (lb M) (sv (d:=.osl _ _ _) M))<|aB ?_)
   refine aT ?_
   obtain rfl:=sj_ h
   refine ⟨.inr M,(fun i=>if i=0 then 2 else i),⟨.nil,(.cons (EntW.lst M) .nil),cA [2] M (by decide),(fun i hi=>by first | rfl | (show (if _ then _ else _)=_; (repeat' split) <;> omega))⟩,(.cons (sv M) .nil),M⟩

theorem aBu (a0:(List aI)) (a1:aI) (r:(List aI)) (h:rU a0 a1=some r):cJ prog 68 [.slice false (a0.map aJ.d),.agg [.int .i64 a1.From,.int .i64 a1.To]] (.slice false (r.map aJ.d)):=by
 refine gW (rs:=[.slice false (r.map aJ.d)]) func68 M ntmps68 (nle M) M fun O hO=>?_
 show IWP _ _ _ _ ⟨[(0,.slice false (a0.map aJ.d)),(1,.agg [.int .i64 a1.From,.int .i64 a1.To])],[]⟩ _
 unfold rU at h
 refine aC (aA M (bV (cs:=q27) 0 M M (lb M) M (svA q27 M) M M)<|aA M (aE M M (lb M) (sv (d:=.nils) M))<|aB ?_)
 refine aW ?_
 obtain ⟨x1,hx1,h⟩:=aZ h
 obtain ⟨x2,hx2,h⟩:=aZ h
 obtain ⟨x3,hx3,h⟩:=aS h
 obtain ⟨x4,hx4,h⟩:=aZ h
 obtain ⟨x5,hx5,h⟩:=aS h
 obtain ⟨x6,hx6,h⟩:=aS h
 refine aC (aA M (lra q27 qN M M M M M (nle M) M)<|aA M (aX (r:=.bool _) M M (lb M) cl88 (.cons (svA q27 M) .nil) M (lP _ _ hx1))<|aA M (dN M M (lb M) (svB M))<|aA M (mvB M M M M)<|aF M M (.one M) M (by decide) (fun hb=>(lra q27 qN M M M M M (nle M) M))<|aF M M (.one M) M (by decide) (fun hb=>(aX (r:=.bool _) M M (lb M) cl89 (.cons (svc (d:=.agg [.int .i64 a1.From,.int .i64 a1.To]) M hb) .nil) M (iB _ _ (gd_t hx2 hb))))<|aA M (dT M M (lb M) (svB M) M M hx3)<|aA M (mvB M M M M)<|aF M M (.one M) M (by decide) (fun hb=>(mvL M M M M))<|aF M M (.one M) M (by decide) (fun hb=>(aX (r:=.int _ _) M M (lb M) cl90 (.cons (svcL M hb) .nil) M (oA _ _ (gd_t hx4 hb))))<|aF M M (.one M) M (by decide) (fun hb=>(aP M M (lb M) (svcI M hb) (sv (d:=.int _ 0) M) M hx5))<|aA M (dT M M (lb M) (svB M) M M hx6)<|aB ?_)
 refine aR (b:=_) M (fun hc7=>?_) (fun hc7=>?_)
 ·
  replace h:=bS h hc7
  obtain ⟨x8,hx8,h⟩:=aZ h
  refine aC (aA M (mvL M M M M)<|aA M (eN (r':=.osl 1 aJ.sz x8.length) (H1':=[(1,.blk 116 (D.flat (x8.map aJ.d)))]) 1 [] M M (lb M) cl87 (.cons (svL M) .nil) M M ⟨M,M,by decide,M,List.forall_mem_nil _⟩ (gS _ _ hx8) M M (List.forall_mem_cons.2 ⟨⟨M,(lL aJ)⟩,List.forall_mem_nil _⟩) (by simp only [List.map_cons,List.map_nil,Ent.ren,fR,gL]; rfl))<|aA M (aE M M (lb M) (sv (d:=.osl _ _ _) M))<|aB ?_)
  refine aT ?_
  refine bA ?_
  obtain rfl:=sj_ h
  refine ⟨.inr M,_,(.cons (sv M) .nil),(.cons (FDT aJ M M) .nil)⟩
 ·
  replace h:=bT h hc7
  refine aV ?_
  refine aM ?_
  refine aC (aA M (aE M M (lb M) (sv (d:=.nils) M))<|aB ?_)
  refine aC (aA M (aE M M (lb M) (sv (d:=.bool false) M))<|aB ?_)
  refine aW ?_
  refine aC (aA M (mvL M M M M)<|aA M (cN aJ (l:=a0) M M (lb M) underlying26 (svL M))<|aA M (aK M M (lb M) (sv (d:=.int _ 0) M))<|aB ?_)
  refine bG ?_
  refine dA (α:=Nat × (List aI) × Bool × Int) (fun z=>⟨[(3,.ref 0 0),(5,.osl 22 aJ.sz z.2.1.length),(6,.bool z.2.2.1),(23,.slice false (a0.map aJ.d)),(24,.int .i64 (a0.length:Int)),(25,.int .i64 z.2.2.2)],[(0,.blk 116 [.int .i64 a1.From,.int .i64 a1.To]),(22,.blk 116 (D.flat (z.2.1.map aJ.d)))]⟩) (fun z=>gG a0 a1 z.1 z.2.1 z.2.2.1 z.2.2.2=some r) (fun z=>z.1) (fuel,([]:(List aI)),false,0) (fun i=>if i=22 then 73 else i) ⟨(.s M M (.cons (.nilo M) (.sames M M))),(.cons (.blk M M M) (.cons (.nilb M) .nil)),cA [0,73] M (by decide),(fun i hi=>by first | rfl | (show (if _ then _ else _)=_; (repeat' split) <;> omega))⟩ ?_ ?_
  ·exact h
  ·
   rintro ⟨n0,v24,v25,v26⟩ h
   cases n0 with
   | zero=>exact absurd h (by unfold gG; exact nofun)
   | succ n0 =>
    unfold gG at h
    obtain ⟨x42,hx42,h⟩:=aS h
    refine aC (aA M (aP M M (lb M) (svI M) (svI M) M hx42)<|aB ?_)
    refine aW ?_
    refine aR (b:=_) M (fun hc43=>?_) (fun hc43=>?_)
    ·
     replace h:=bS h hc43
     refine aV ?_
     refine aM ?_
     refine aW ?_
     refine bG ?_
     obtain ⟨x44,hx44,h⟩:=aZ h
     refine aC (aA M (dB aJ (cs:=q27) M M (lb M) underlying26 gC (svL M) (svI M) hx44 M M)<|aA M (cX (cs:=q27) M M (lb M) underlying116 yP gC (by decide) (sv (d:=.fptr q27) M) (nle M) M)<|aA M (bI (cs:=q27) (cs':=[.int .i64 0,.int .i64 0]) 23 M M (lb M) M gC M M (.all _))<|aA M (stA q27 q27 gC M M M M M M M M (nle M) M)<|aB ?_)
     refine gP (α:=(List aI) × Bool) (fun z=>⟨[(3,.ref 0 0),(5,.osl 24 aJ.sz z.1.length),(6,.bool z.2),(23,.slice false (a0.map aJ.d)),(24,.int .i64 (a0.length:Int)),(25,.int .i64 v26),(8,.ref 23 0)],[(0,.blk 116 [.int .i64 a1.From,.int .i64 a1.To]),(24,.blk 116 (D.flat (z.1.map aJ.d))),(23,.blk 116 [.int .i64 x44.From,.int .i64 x44.To])]⟩) (fun z=>mE v26 (gG a0 a1 n0) x44 z.1 z.2=some r) ?_ ?_
     ·
      obtain ⟨x53,hx53,h⟩:=aS h
      obtain ⟨x54,hx54,h⟩:=aS h
      refine aC (aA M (mvB M M M M)<|aA M (dN M M (lb M) (svB M))<|aA M (mvB M M M M)<|aF M M (.one M) M (by decide) (fun hb=>(faR 0 M M M underlying116 M ti3 (lb M) M M))<|aF M M (.one M) M (by decide) (fun hb=>(aG (d:=.int _ _) M M (lb M) underlying3 ag3 ti3 (by decide) (svcR M hb) M (nle M) M))<|aF M M (.one M) M (by decide) (fun hb=>(faR 0 M M M underlying116 M ti3 (lb M) M M))<|aF M M (.one M) M (by decide) (fun hb=>(aG (d:=.int _ _) M M (lb M) underlying3 ag3 ti3 (by decide) (svcR M hb) M (nle M) M))<|aF M M (.one M) M (by decide) (fun hb=>(aP M M (lb M) (svcI M hb) (svcI M hb) M hx53))<|aA M (cC M M (lb M) (svB M) M M hx54)<|aB ?_)
      refine aR (b:=_) M (fun hc55=>?_) (fun hc55=>?_)
      ·
       replace h:=bS h hc55
       obtain ⟨x56,hx56,h⟩:=aZ h
       refine aC (aA M (aK M M (lb M) (sv (d:=.osl _ _ _) M))<|aA M (lra q27 qN M M M M M (nle M) M)<|aA M (eN (r':=.osl 24 aJ.sz x56.length) (H1':=[(24,.blk 116 (D.flat (x56.map aJ.d)))]) 24 [22] M M (lb M) cl106 (.cons (sv (d:=.osl _ _ _) M) (.cons (svA q27 M) .nil)) M M ⟨M,M,by decide,M,List.forall_mem_cons.2 ⟨⟨M,M,(aB1 aJ M),(lL aJ)⟩,List.forall_mem_nil _⟩⟩ (mZ _ _ _ hx56) M M (List.forall_mem_cons.2 ⟨⟨M,(lL aJ)⟩,List.forall_mem_nil _⟩) (by simp only [List.map_cons,List.map_nil,Ent.ren,fR,gL]; rfl))<|aA M (aE M M (lb M) (sv (d:=.osl _ _ _) M))<|aB ?_)
       refine bE (aA M (aE M M (lb M) (sv (d:=.bool true) M))<|cB ?_)
       refine aM ⟨(x56,true),(fun i=>i),⟨(.sames M M),(.cons (.blk M M M) (.cons (EntW.lst M) (.cons (.blk M M M) .nil))),cA [0,24,23] M (by decide),fun _ _=>M⟩,?_⟩
       exact h
      ·
       replace h:=bT h hc55
       refine aV ?_
       refine aM ⟨(v24,v25),(fun i=>if i=24 then 22 else i),⟨(.sames M M),(.cons (.blk M M M) (.cons (EntW.lst M) (.cons (.blk M M M) .nil))),cA [0,22,23] M (by decide),(fun i hi=>by first | rfl | (show (if _ then _ else _)=_; (repeat' split) <;> omega))⟩,?_⟩
       exact h
     ·
      rintro ⟨v49,v50⟩ h
      unfold mE at h
      obtain ⟨x51,hx51,h⟩:=aZ h
      refine bE (aA M (aK M M (lb M) (sv (d:=.osl _ _ _) M))<|aA M (lra q27 qN M M M M M (nle M) M)<|aA M (eN (r':=.osl 25 aJ.sz x51.length) (H1':=[(25,.blk 116 (D.flat (x51.map aJ.d)))]) 25 [24] M M (lb M) cl106 (.cons (sv (d:=.osl _ _ _) M) (.cons (svA q27 M) .nil)) M M ⟨M,M,by decide,M,List.forall_mem_cons.2 ⟨⟨M,M,(aB1 aJ M),(lL aJ)⟩,List.forall_mem_nil _⟩⟩ (mZ _ _ _ hx51) M M (List.forall_mem_cons.2 ⟨⟨M,(lL aJ)⟩,List.forall_mem_nil _⟩) (by simp only [List.map_cons,List.map_nil,Ent.ren,fR,gL]; rfl))<|aA M (aE M M (lb M) (sv (d:=.osl _ _ _) M))<|cB ?_)
      refine bZ ?_
      refine aM ?_
      obtain ⟨x52,hx52,h⟩:=aS h
      refine bE (aA M (bN M M (lb M) (svI M) (sv (d:=.int _ 1) M) M hx52)<|aA M (mvI M M M M)<|cB ?_)
      refine aM ⟨(n0,x51,v50,x52),(fun i=>if i=22 then 25 else i),⟨(.sames M M),(.cons (.blk M M M) (.cons (EntW.lst M) .nil)),cA [0,25] M (by decide),(fun i hi=>by first | rfl | (show (if _ then _ else _)=_; (repeat' split) <;> omega))⟩,?_,?_⟩
      exact h
      exact Nat.lt_succ_self _
    ·
     replace h:=bT h hc43
     refine cQ ?_
     refine bJ ?_
     refine bJ ?_
     refine cR ?_
     refine aM ?_
     refine aW ?_
     refine aC (aA M (mvB M M M M)<|aA M (dN M M (lb M) (svB M))<|aB ?_)
     refine aR (b:=_) M (fun hc57=>?_) (fun hc57=>?_)
     ·
      replace h:=bS h hc57
      obtain ⟨x58,hx58,h⟩:=aZ h
      refine bE (aA M (aK M M (lb M) (sv (d:=.osl _ _ _) M))<|aA M (lra q27 qN M M M M M (nle M) M)<|aA M (eN (r':=.osl 23 aJ.sz x58.length) (H1':=[(23,.blk 116 (D.flat (x58.map aJ.d)))]) 23 [22] M M (lb M) cl106 (.cons (sv (d:=.osl _ _ _) M) (.cons (svA q27 M) .nil)) M M ⟨M,M,by decide,M,List.forall_mem_cons.2 ⟨⟨M,M,(aB1 aJ M),(lL aJ)⟩,List.forall_mem_nil _⟩⟩ (mZ _ _ _ hx58) M M (List.forall_mem_cons.2 ⟨⟨M,(lL aJ)⟩,List.forall_mem_nil _⟩) (by simp only [List.map_cons,List.map_nil,Ent.ren,fR,gL]; rfl))<|aA M (aE M M (lb M) (sv (d:=.osl _ _ _) M))<|cB ?_)
      refine aM ?_
      refine aC (aA M (aK M M (lb M) (sv (d:=.osl _ _ _) M))<|aA M (aE M M (lb M) (sv (d:=.osl _ _ _) M))<|aB ?_)
      refine aT ?_
      obtain rfl:=sj_ h
      refine ⟨.inr M,_,(.cons (sv M) .nil),(.cons (FDT aJ M M) .nil)⟩
     ·
      replace h:=bT h hc57
      refine aV ?_
      refine aM ?_
      refine aC (aA M (aK M M (lb M) (sv (d:=.osl _ _ _) M))<|aA M (aE M M (lb M) (sv (d:=.osl _ _ _) M))<|aB ?_)
      refine aT ?_
      obtain rfl:=sj_ h
      refine ⟨.inr M,_,(.cons (sv M) .nil),(.cons (FDT aJ M M) .nil)⟩

theorem jI (a0:(List aL)) (a1:Int) (r:Int) (h:eD a0 a1=some r):cJ prog 94 [.slice false (a0.map aD.d),.fn 67 [.fptr [.int .i64 a1]]] (.int .i64 r):=by
 refine bC (rs:=[.int .i64 r]) func94 M ntmps94 (nle M) M fun O hO=>?_
 show IWP _ _ _ _ ⟨[(0,.slice false (a0.map aD.d)),(1,.fn 67 [.fptr [.int .i64 a1]])],[]⟩ _
 unfold eD at h
 refine aC (aA M (aE M M (lb M) (sv (d:=.int _ 0) M))<|aB ?_)
 refine aW ?_
 refine aC (aA M (mvL M M M M)<|aA M (cN aD (l:=a0) M M (lb M) underlying24 (svL M))<|aA M (aK M M (lb M) (sv (d:=.int _ 0) M))<|aB ?_)
 refine bG ?_
 refine dA (α:=Nat × Int) (fun z=>⟨[(0,.slice false (a0.map aD.d)),(1,.fn 67 [.fptr [.int .i64 a1]]),(7,.int .i64 (a0.length:Int)),(8,.int .i64 z.2)],[]⟩) (fun z=>cO a0 a1 z.1 z.2=some r) (fun z=>z.1) (fuel,0) (fun i=>i) ⟨(.sames M M),.nil,cA [] M (by decide),fun _ _=>M⟩ ?_ ?_
 ·exact h
 ·
  rintro ⟨n0,v7⟩ h
  cases n0 with
  | zero=>exact absurd h (by unfold cO; exact nofun)
  | succ n0 =>
   unfold cO at h
   obtain ⟨x14,hx14,h⟩:=aS h
   refine aC (aA M (aP M M (lb M) (svI M) (svI M) M hx14)<|aB ?_)
   refine aW ?_
   refine aR (b:=_) M (fun hc15=>?_) (fun hc15=>?_)
   ·
    replace h:=bS h hc15
    refine aV ?_
    refine aM ?_
    refine aW ?_
    refine bG ?_
    refine aC (aA M (mvI M M M M)<|aA M (asI M M M M)<|aB ?_)
    obtain ⟨x16,hx16,h⟩:=aZ h
    obtain ⟨x17,hx17,h⟩:=aZ h
    refine aC (aA M (aK M M (lb M) (sv (d:=.fn 67 [.fptr [.int _ _]]) M))<|aA M (mvL M M M M)<|aA M (mvI M M M M)<|aA M (dB aD (cs:=q19) M M (lb M) underlying24 ti52 (svL M) (svI M) hx16 M M)<|aA M (cX (cs:=q19) M M (lb M) underlying52 ag52 ti52 (by decide) (sv (d:=.fptr q19) M) (nle M) M)<|aA M (nP (r:=.bool _) M M (lb M) cl67 (sv (d:=.fn 67 [.fptr [.int _ _]]) M) (.cons (svA q19 M) .nil) M (qL _ _ _ hx17))<|aB ?_)
    refine aR (b:=_) M (fun hc18=>?_) (fun hc18=>?_)
    ·
     replace h:=bS h hc18
     refine aC (aA M (mvI M M M M)<|aA M (asI M M M M)<|aB ?_)
     refine aT ?_
     refine bP ?_
     refine bA ?_
     refine bA ?_
     refine bP ?_
     refine bA ?_
     obtain rfl:=sj_ h
     refine ⟨.inr M,(.cons (sv M) .nil)⟩
    ·
     replace h:=bT h hc18
     refine aV ?_
     refine bZ ?_
     refine aM ?_
     obtain ⟨x19,hx19,h⟩:=aS h
     refine bE (aA M (bN M M (lb M) (svI M) (sv (d:=.int _ 1) M) M hx19)<|aA M (mvI M M M M)<|cB ?_)
     refine aM ⟨(n0,x19),(fun i=>i),⟨(.sames M M),.nil,cA [] M (by decide),fun _ _=>M⟩,?_,?_⟩
     exact h
     exact Nat.lt_succ_self _
   ·
    replace h:=bT h hc15
    refine cQ ?_
    refine bJ ?_
    refine bJ ?_
    refine cR ?_
    refine aM ?_
    refine aC (aA M (aE M M (lb M) (sv (d:=.int _ (-1)) M))<|aB ?_)
    refine aT ?_
    obtain rfl:=sj_ h
    refine ⟨.inr M,(.cons (sv M) .nil)⟩

theorem iI (a0:(List aL)) (a1:Int) (r:(List aL)) (h:dJ a0 a1=some r):FnH prog 65 [.osl 1000 aD.sz a0.length,.fn 67 [.ref 1001 0]] [(1000,.blk 52 (D.flat (a0.map aD.d))),(1001,.blk 3 [.int .i64 a1])] (.osl 0 aD.sz r.length) [(1001,.blk 3 [.int .i64 a1]),(0,.blk 52 (D.flat (r.map aD.d)))]:=by
 refine fN (rs:=[.osl 0 aD.sz r.length]) func65 M ntmps65 (nle M) fun O hO=>?_
 show IWP _ _ _ _ ⟨[(0,.osl 1000 aD.sz a0.length),(1,.fn 67 [.ref 1001 0])],[(1000,.blk 52 (D.flat (a0.map aD.d))),(1001,.blk 3 [.int .i64 a1])]⟩ _
 unfold dJ at h
 refine aC (aA M (aE M M (lb M) (sv (d:=.nils) M))<|aB ?_)
 obtain ⟨x1,hx1,h⟩:=aZ h
 refine aC (aA M (aK M M (lb M) (sv (d:=.osl _ _ _) M))<|aA M (aK M M (lb M) (sv (d:=.fn 67 [.ref _ _]) M))<|aA M (uU (r:=.int .i64 x1) M M (lb M) cl94 (.cons (sv (d:=.osl _ _ _) M) (.cons (sv (d:=.fn 67 [.ref _ _]) M) .nil)) (.cons (FDT aD M M) (.cons (.fn (.cons (.ref M M (sJ _) M) .nil)) .nil)) M M (jI _ _ _ hx1))<|aA M (asI M M M M)<|aB ?_)
 refine aW ?_
 obtain ⟨x2,hx2,h⟩:=aS h
 refine aC (aA M (mvI M M M M)<|aA M (aP M M (lb M) (svI M) (sv (d:=.int _ (-1)) M) M hx2)<|aB ?_)
 refine aR (b:=_) M (fun hc3=>?_) (fun hc3=>?_)
 ·
  replace h:=bS h hc3
  refine aC (aA M (aK M M (lb M) (sv (d:=.osl _ _ _) M))<|aA M (aE M M (lb M) (sv (d:=.osl _ _ _) M))<|aB ?_)
  refine aT ?_
  refine bA ?_
  obtain rfl:=sj_ h
  refine ⟨.inr M,(fun i=>if i=0 then 1000 else i),⟨.nil,(.cons (.blk M M M) (.cons (EntW.lst M) .nil)),cA [1001,1000] M (by decide),(fun i hi=>by first | rfl | (show (if _ then _ else _)=_; (repeat' split) <;> omega))⟩,(.cons (sv M) .nil),M⟩
 ·
  replace h:=bT h hc3
  refine aV ?_
  refine aM ?_
  refine aW ?_
  obtain ⟨x4,hx4,h⟩:=aS h
  refine aC (aA M (mvI M M M M)<|aA M (bN M M (lb M) (svI M) (sv (d:=.int _ 1) M) M hx4)<|aA M (asI M M M M)<|aB ?_)
  refine bG ?_
  refine dA (α:=Nat × (List aL) × Int × Int) (fun z=>⟨[(0,.osl 1000 aD.sz z.2.1.length),(1,.fn 67 [.ref 1001 0]),(5,.int .i64 z.2.2.1),(6,.int .i64 z.2.2.2)],[(1000,.blk 52 (D.flat (z.2.1.map aD.d))),(1001,.blk 3 [.int .i64 a1])]⟩) (fun z=>cG a1 z.1 z.2.1 z.2.2.1 z.2.2.2=some r) (fun z=>z.1) (fuel,a0,x1,x4) (fun i=>i) ⟨(.sames M M),(.cons (EntW.lst M) (.cons (.blk M M M) .nil)),cA [1000,1001] M (by decide),fun _ _=>M⟩ ?_ ?_
  ·exact h
  ·
   rintro ⟨n0,v17,v18,v19⟩ h
   cases n0 with
   | zero=>exact absurd h (by unfold cG; exact nofun)
   | succ n0 =>
    unfold cG at h
    refine aW ?_
    obtain ⟨x32,hx32,h⟩:=aS h
    refine aC (aA M (mvI M M M M)<|aA M (aK M M (lb M) (sv (d:=.osl _ _ _) M))<|aA M (nH M M (lb M) underlying24 (sv (d:=.osl _ _ _) M))<|aA M (aP M M (lb M) (svI M) (svI M) M hx32)<|aB ?_)
    refine aR (b:=_) M (fun hc33=>?_) (fun hc33=>?_)
    ·
     replace h:=bS h hc33
     refine aV ?_
     refine aM ?_
     refine aW ?_
     refine bG ?_
     obtain ⟨x34,hx34,h⟩:=aZ h
     obtain ⟨x35,hx35,h⟩:=aZ h
     refine aC (aA M (aK M M (lb M) (sv (d:=.osl _ _ _) M))<|aA M (mvI M M M M)<|aA M (jN aD.toEnc0 M M (lb M) underlying24 ti52 (sv (d:=.osl _ _ _) M) M (svI M) hx34)<|aA M (sF aD.toEnc0 (cs:=q19) M M (lb M) underlying52 ag52 ti52 (by decide) (svR M) M hx35 (nle M) M)<|aA M (bI (cs:=q19) (cs':=(w44 0 0 0 false)) 0 M M (lb M) M ti52 M M (.all _))<|aA M (stA q19 q19 ti52 M M M M M M M M (nle M) M)<|aB ?_)
     obtain ⟨x36,hx36,h⟩:=aZ h
     refine aC (aA M (aK M M (lb M) (sv (d:=.fn 67 [.ref _ _]) M))<|aA M (lra q19 la52 M M M M M (nle M) M)<|aA M (zD (r:=.bool x36) M M (lb M) cl67 (sv (d:=.fn 67 [.ref _ _]) M) (.cons (svA q19 M) .nil) (.k (.cons (.ref M M (sJ _) M) .nil)) M M (qL _ _ _ hx36))<|aA M (dN M M (lb M) (svB M))<|aB ?_)
     refine aR (b:=_) M (fun hc37=>?_) (fun hc37=>?_)
     ·
      replace h:=bS h hc37
      obtain ⟨x38,hx38,h⟩:=aZ h
      obtain ⟨x39,hx39,h⟩:=aZ h
      obtain ⟨x40,hx40,h⟩:=aS h
      refine aC (aA M (aK M M (lb M) (sv (d:=.osl _ _ _) M))<|aA M (mvI M M M M)<|aA M (lra q19 la52 M M M M M (nle M) M)<|aA M (jN aD.toEnc0 M M (lb M) underlying24 ti52 (sv (d:=.osl _ _ _) M) M (svI M) hx38)<|aA M (mF aD.toEnc0 (a':=x35) M M ti52 (svR M) M (svA q19 M) M M M hx39 (nle M) M hx40)<|aB ?_)
      obtain ⟨x41,hx41,h⟩:=aS h
      refine bE (aA M (mvI M M M M)<|aA M (bN M M (lb M) (svI M) (sv (d:=.int _ 1) M) M hx41)<|aA M (asI M M M M)<|cB ?_)
      refine bZ ?_
      refine aM ?_
      obtain ⟨x42,hx42,h⟩:=aS h
      refine bE (aA M (mvI M M M M)<|aA M (bN M M (lb M) (svI M) (sv (d:=.int _ 1) M) M hx42)<|aA M (asI M M M M)<|cB ?_)
      refine aM ⟨(n0,x40,x41,x42),(fun i=>i),⟨(.cons (.same (congrArg (D.osl _ _) (rR hx40 M).symm) M) (.sames M M)),(.cons (EntW.lst M) (.cons (.blk M M M) .nil)),cA [1000,1001] M (by decide),fun _ _=>M⟩,?_,?_⟩
      exact h
      exact Nat.lt_succ_self _
     ·
      replace h:=bT h hc37
      refine aV ?_
      refine bZ ?_
      refine aM ?_
      obtain ⟨x43,hx43,h⟩:=aS h
      refine bE (aA M (mvI M M M M)<|aA M (bN M M (lb M) (svI M) (sv (d:=.int _ 1) M) M hx43)<|aA M (asI M M M M)<|cB ?_)
      refine aM ⟨(n0,v17,v18,x43),(fun i=>i),⟨(.sames M M),(.cons (EntW.lst M) (.cons (.blk M M M) .nil)),cA [1000,1001] M (by decide),fun _ _=>M⟩,?_,?_⟩
      exact h
      exact Nat.lt_succ_self _
    ·
     replace h:=bT h hc33
     refine cQ ?_
     refine bJ ?_
     refine bJ ?_
     refine cR ?_
     refine aM ?_
     obtain ⟨x44,hx44,h⟩:=aZ h
     refine aC (aA M (aK M M (lb M) (sv (d:=.osl _ _ _) M))<|aA M (mvI M M M M)<|yD aD.toEnc0 M M M M (by decide) M M underlying24 ti52 M M M M M (fun S1 h9=>sv ((h9 37 (by decide)).trans M)) hx44<|aB ?_)
     obtain ⟨x45,hx45,h⟩:=aZ h
     refine aC (aA M (aK M M (lb M) (sv (d:=.osl _ _ _) M))<|aA M (mvI M M M M)<|aA M (yZ aD.toEnc0 M M (lb M) underlying24 ti52 (sv (d:=.osl _ _ _) M) M (Nat.le_trans (aFw hx44) (Nat.le_of_eq M)) (svI M) hx45)<|aA M (aE M M (lb M) (sv (d:=.osl _ _ _) M))<|aB ?_)
     refine aT ?_
     obtain rfl:=sj_ h
     refine ⟨.inr M,(fun i=>if i=0 then 1000 else i),⟨.nil,(.cons (.blk M M M) (.cons (EntW.lst M) .nil)),cA [1001,1000] M (by decide),(fun i hi=>by first | rfl | (show (if _ then _ else _)=_; (repeat' split) <;> omega))⟩,(.cons (sv M) .nil),M⟩

theorem aBn (a0:aY) (a1:Int) (r:aY) (h:rG a0 a1=some r):cJ prog 37 [.agg (v3 a0),.int .i64 a1] (.agg (v3 r)):=by
 refine gW (rs:=[.agg (v3 r)]) func37 M ntmps37 (nle M) M fun O hO=>?_
 show IWP _ _ _ _ ⟨[(0,.agg (v3 a0)),(1,.int .i64 a1)],[]⟩ _
 unfold rG at h
 refine aC (aA M (bV (cs:=q14) 0 M M (lb M) M (svA q14 M) M M)<|aA M (bV (cs:=[.int _ _]) 1 M M (lb M) M (svI M) M M)<|aA M (bI (cs:=q16) (cs':=(w40 0 [] 0 ([]:List aL) ([]:List aI) false false false false)) 2 M M (lb M) M ti28 M M (.k (.k (.k (.cons (.nils _) (.cons (.nils _) (.all _)))))))<|aB ?_)
 obtain ⟨x1,hx1,h⟩:=aZ h
 refine aC (aA M (lra q14 la28 M M M M M (nle M) M)<|aA M (eN (r':=.agg (w41 x1.1 x1.2.1 x1.2.2.1 (.osl 3 aD.sz x1.2.2.2.1.length) x1.2.2.2.2.1 x1.2.2.2.2.2.1 x1.2.2.2.2.2.2.1 x1.2.2.2.2.2.2.2.1 x1.2.2.2.2.2.2.2.2)) (H1':=[(3,.blk 52 (D.flat (x1.2.2.2.1.map aD.d)))]) 3 [] M M (lb M) cl50 (.cons (svA q14 M) .nil) M M ⟨M,M,by decide,M,List.forall_mem_nil _⟩ (kU _ _ hx1) M M (List.forall_mem_cons.2 ⟨⟨M,(lL aD)⟩,List.forall_mem_nil _⟩) (by simp only [List.map_cons,List.map_nil,Ent.ren,fR,gL]; rfl))<|aA M (bI (cs:=q16) (cs':=(w40 0 [] 0 ([]:List aL) ([]:List aI) false false false false)) 4 M M (lb M) M ti28 M M (.k (.k (.k (.cons (.nils _) (.cons (.nils _) (.all _)))))))<|aA M (stA q15 q15 ti28 M M M M M M M M (nle M) M)<|aB ?_)
 refine aW ?_
 obtain ⟨x2,hx2,h⟩:=aZ h
 obtain ⟨x3,hx3,h⟩:=aS h
 refine aC (aA M (lra q14 la28 M M M M M (nle M) M)<|aA M (aX (r:=.int _ _) M M (lb M) cl39 (.cons (svA q14 M) .nil) M (mC _ _ hx2))<|aA M (aP M M (lb M) (svI M) (sv (d:=.int _ 0) M) M hx3)<|aB ?_)
 refine aR (b:=_) M (fun hc4=>?_) (fun hc4=>?_)
 ·
  replace h:=bS h hc4
  refine aC (aA M (lra q15 la28 M M M M M (nle M) M)<|aA M (stA q15 q15 ti28 M M M M M M M M (nle M) M)<|aB ?_)
  refine aT ?_
  refine bA ?_
  obtain rfl:=sj_ h
  refine ⟨.inr M,_,(.cons (rva la28 M M (nle M) M) .nil),(.cons (.agg (.k (.k (.k (.cons (FDT aD M M) (.all _)))))) .nil)⟩
 ·
  replace h:=bT h hc4
  refine aV ?_
  refine aM ?_
  refine aC (aA M (lD M M (lb M) (.cons (svR M) .nil))<|aA M (aE M M (lb M) (sv (d:=.fn 67 [.ref _ _]) M))<|aB ?_)
  refine aW ?_
  refine aC (aA M (faR 3 M M M underlying28 M ti24 (lb M) M M)<|aA M (lrL la24 M M M M M (nle M) M)<|aA M (cN aD (l:=a0.Pieces) M M (lb M) underlying24 (svL M))<|aA M (aK M M (lb M) (sv (d:=.int _ 0) M))<|aB ?_)
  refine bG ?_
  refine dA (α:=Nat × Int × (List aI) × Bool) (fun z=>⟨[(4,.ref 2 0),(5,.ref 4 0),(6,.fn 67 [.ref 1 0]),(17,.slice false (a0.Pieces.map aD.d)),(18,.int .i64 (a0.Pieces.length:Int)),(19,.int .i64 z.2.1)],[(2,.blk 28 (w40 0 [] 0 ([]:List aL) ([]:List aI) false false false false)),(4,.blk 28 (w41 x1.1 x1.2.1 x1.2.2.1 (.osl 3 aD.sz x1.2.2.2.1.length) z.2.2.1 x1.2.2.2.2.2.1 x1.2.2.2.2.2.2.1 z.2.2.2 x1.2.2.2.2.2.2.2.2)),(1,.blk 3 [.int .i64 a1]),(3,.blk 52 (D.flat (x1.2.2.2.1.map aD.d)))]⟩) (fun z=>iQ a0 a1 x1 z.1 z.2.1 z.2.2.1 z.2.2.2=some r) (fun z=>z.1) (fuel,0,x1.2.2.2.2.1,x1.2.2.2.2.2.2.2.1) (fun i=>i) ⟨(.sames M M),(.cons (.blk M M M) (.cons (.blk M M M) (.cons (.blk M M M) (.cons (EntW.lst M) .nil)))),cA [2,4,1,3] M (by decide),fun _ _=>M⟩ ?_ ?_
  ·exact h
  ·
   rintro ⟨n0,v15,v16,v17⟩ h
   cases n0 with
   | zero=>exact absurd h (by unfold iQ; exact nofun)
   | succ n0 =>
    unfold iQ at h
    obtain ⟨x28,hx28,h⟩:=aS h
    refine aC (aA M (aP M M (lb M) (svI M) (svI M) M hx28)<|aB ?_)
    refine aW ?_
    refine aR (b:=_) M (fun hc29=>?_) (fun hc29=>?_)
    ·
     replace h:=bS h hc29
     refine aV ?_
     refine aM ?_
     refine aW ?_
     refine bG ?_
     obtain ⟨x30,hx30,h⟩:=aZ h
     refine aC (aA M (dB aD (cs:=q19) M M (lb M) underlying24 ti52 (svL M) (svI M) hx30 M M)<|aA M (cX (cs:=q19) M M (lb M) underlying52 ag52 ti52 (by decide) (sv (d:=.fptr q19) M) (nle M) M)<|aA M (bI (cs:=q19) (cs':=(w44 0 0 0 false)) 5 M M (lb M) M ti52 M M (.all _))<|aA M (stA q19 q19 ti52 M M M M M M M M (nle M) M)<|aB ?_)
     obtain ⟨x31,hx31,h⟩:=aZ h
     refine aC (aA M (aK M M (lb M) (sv (d:=.fn 67 [.ref _ _]) M))<|aA M (lra q19 la52 M M M M M (nle M) M)<|aA M (zD (r:=.bool x31) M M (lb M) cl67 (sv (d:=.fn 67 [.ref _ _]) M) (.cons (svA q19 M) .nil) (.k (.cons (.ref M M (sJ _) M) .nil)) M M (qL _ _ _ hx31))<|aB ?_)
     refine aR (b:=_) M (fun hc32=>?_) (fun hc32=>?_)
     ·
      replace h:=bS h hc32
      obtain ⟨x33,hx33,h⟩:=aZ h
      obtain ⟨x34,hx34,h⟩:=aZ h
      refine dH M [⟨[5],[],[(26,.ref 4 4)],[]⟩,
       ⟨[26],[4],[(27,.slice false (v16.map aJ.d))],[]⟩,
       ⟨[8],[5],[(28,.agg (v7 x30))],[]⟩,
       ⟨[28],[],[(29,.agg [.int .i64 x33.From,.int .i64 x33.To])],[]⟩,
       ⟨[27,29],[],[(30,.slice false (x34.map aJ.d))],[]⟩,
       ⟨[5],[],[(31,.ref 4 4)],[]⟩,
       ⟨[30,31],[4],[],[(4,.blk 28 (w41 x1.1 x1.2.1 x1.2.2.1 (.osl 3 aD.sz x1.2.2.2.1.length) x34 x1.2.2.2.2.2.1 x1.2.2.2.2.2.2.1 v17 x1.2.2.2.2.2.2.2.2))]⟩] M ?_ (by kernel_rfl) ?_
      ·refine .cons (lop M M fun S hA=>(aO M M (lb M) underlying28 M ti26 (by decide) (svaR hA M M) (off':=4) M)) ?_
       refine .cons (lop M M fun S hA=>(aG (d:=.slice _ _) M M (lb M) underlying26 ag26 ti26 (by decide) (svaR hA M M) (agi hA M M) (nle M) M)) ?_
       refine .cons (lop M M fun S hA=>(bY (cs:=q19) M M (lb M) underlying52 ag52 ti52 (by decide) (svaR hA M M) (agi hA M M) (nle M) M)) ?_
       refine .cons (lop M M fun S hA=>(aX (r:=.agg q27) M M (lb M) cl55 (.cons (svaA q19 hA M M) .nil) M (lI _ _ hx33))) ?_
       refine .cons (lop M M fun S hA=>(aX (r:=.slice _ _) M M (lb M) cl68 (.cons (svaL hA M M) (.cons (svaA q27 hA M M) .nil)) M (aBu _ _ _ hx34))) ?_
       refine .cons (lop M M fun S hA=>(aO M M (lb M) underlying28 M ti26 (by decide) (svaR hA M M) (off':=4) M)) ?_
       refine .cons (lop M M fun S hA=>(bQ (ds':=q15) M M ti26 (svaR hA M M) (agi hA M M) (svaL hA M M) M M M (nle M) M)) ?_
       exact .nil
      obtain ⟨x35,hx35,h⟩:=aS h
      refine bE (aA M (faR 7 M M M underlying28 M ti4 (lb M) M M)<|aA M (aG (d:=.bool _) M M (lb M) underlying4 ag4 ti4 (by decide) (svR M) M (nle M) M)<|aA M (mvB M M M M)<|aF M M (.one M) M (by decide) (fun hb=>(faR 3 M M M underlying52 M ti4 (lb M) M M))<|aF M M (.one M) M (by decide) (fun hb=>(aG (d:=.bool _) M M (lb M) underlying4 ag4 ti4 (by decide) (svcR M hb) M (nle M) M))<|aA M (dT M M (lb M) (svB M) M M hx35)<|aA M (faR 7 M M M underlying28 M ti4 (lb M) M M)<|aA M (bQ (ds':=q15) M M ti4 (svR M) M (svB M) M M M (nle M) M)<|cB ?_)
      refine bZ ?_
      refine aM ?_
      obtain ⟨x36,hx36,h⟩:=aS h
      refine bE (aA M (bN M M (lb M) (svI M) (sv (d:=.int _ 1) M) M hx36)<|aA M (mvI M M M M)<|cB ?_)
      refine aM ⟨(n0,x36,x34,x35),(fun i=>i),⟨(.sames M M),(.cons (.blk M M M) (.cons (.blk M M M) (.cons (.blk M M M) (.cons (EntW.lst M) .nil)))),cA [2,4,1,3] M (by decide),fun _ _=>M⟩,?_,?_⟩
      exact h
      exact Nat.lt_succ_self _
     ·
      replace h:=bT h hc32
      refine aV ?_
      refine bZ ?_
      refine aM ?_
      obtain ⟨x37,hx37,h⟩:=aS h
      refine bE (aA M (bN M M (lb M) (svI M) (sv (d:=.int _ 1) M) M hx37)<|aA M (mvI M M M M)<|cB ?_)
      refine aM ⟨(n0,x37,v16,v17),(fun i=>i),⟨(.sames M M),(.cons (.blk M M M) (.cons (.blk M M M) (.cons (.blk M M M) (.cons (EntW.lst M) .nil)))),cA [2,4,1,3] M (by decide),fun _ _=>M⟩,?_,?_⟩
      exact h
      exact Nat.lt_succ_self _
    ·
     replace h:=bT h hc29
     refine cQ ?_
     refine bJ ?_
     refine bJ ?_
     refine cR ?_
     refine aM ?_
     obtain ⟨x38,hx38,h⟩:=aZ h
     refine aC (aA M (faR 3 M M M underlying28 M ti24 (lb M) M M)<|aA M (aG (d:=.osl _ _ _) M M (lb M) underlying24 ag24 ti24 (by decide) (svR M) M (nle M) M)<|aA M (aK M M (lb M) (sv (d:=.fn 67 [.ref _ _]) M))<|aA M (eN (r':=.osl 5 aD.sz x38.length) (H1':=[(1,.blk 3 [.int .i64 a1]),(5,.blk 52 (D.flat (x38.map aD.d)))]) 5 [3,1] M M (lb M) cl65 (.cons (sv (d:=.osl _ _ _) M) (.cons (sv (d:=.fn 67 [.ref _ _]) M) .nil)) M M ⟨M,M,by decide,M,List.forall_mem_cons.2 ⟨⟨M,M,(aB1 aD M),(lL aD)⟩,List.forall_mem_cons.2 ⟨⟨M,M,M,M⟩,List.forall_mem_nil _⟩⟩⟩ (iI _ _ _ hx38) M M (List.forall_mem_cons.2 ⟨⟨M,M⟩,List.forall_mem_cons.2 ⟨⟨M,(lL aD)⟩,List.forall_mem_nil _⟩⟩) (by simp only [List.map_cons,List.map_nil,Ent.ren,fR,gL]; rfl))<|aA M (faR 3 M M M underlying28 M ti24 (lb M) M M)<|aA M (bQ (ds':=q15) M M ti24 (svR M) M (sv (d:=.osl _ _ _) M) M M M (nle M) M)<|aB ?_)
     refine aC (aA M (lra q15 la28 M M M M M (nle M) M)<|aA M (stA q15 q15 ti28 M M M M M M M M (nle M) M)<|aB ?_)
     refine aT ?_
     obtain rfl:=sj_ h
     refine ⟨.inr M,_,(.cons (rva la28 M M (nle M) M) .nil),(.cons (.agg (.k (.k (.k (.cons (FDT aD M M) (.all _)))))) .nil)⟩

theorem uH (a0:aY) (a1:Int) (r:aY) (h:lS a0 a1=some r):FnH prog 36 [.agg (v3 a0),.ref 1000 0] [(1000,.blk 3 [.int .i64 a1])] (.agg (v3 r)) [(1000,.blk 3 [.int .i64 a1])]:=by
 refine fN (rs:=[.agg (v3 r)]) func36 M ntmps36 (nle M) fun O hO=>?_
 show IWP _ _ _ _ ⟨[(0,.agg (v3 a0)),(1,.ref 1000 0)],[(1000,.blk 3 [.int .i64 a1])]⟩ _
 unfold lS at h
 refine aC (aA M (bV (cs:=q14) 0 M M (lb M) M (svA q14 M) M M)<|aA M (bI (cs:=q16) (cs':=(w40 0 [] 0 ([]:List aL) ([]:List aI) false false false false)) 1 M M (lb M) M ti28 M M (.k (.k (.k (.cons (.nils _) (.cons (.nils _) (.all _)))))))<|aB ?_)
 obtain ⟨x1,hx1,h⟩:=aZ h
 refine aC (aA M (lra q14 la28 M M M M M (nle M) M)<|aA M (aG (d:=.int _ _) M M (lb M) underlying3 ag3 ti3 (by decide) (svR M) M (nle M) M)<|aA M (aX (r:=.agg q14) M M (lb M) cl37 (.cons (svA q14 M) (.cons (svI M) .nil)) M (aBn _ _ _ hx1))<|aA M (stA q14 q14 ti28 M M M M M M M M (nle M) M)<|aB ?_)
 refine aT ?_
 obtain rfl:=sj_ h
 refine ⟨.inr M,(fun i=>i),⟨.nil,(.cons (.blk M M M) .nil),cA [1000] M (by decide),fun _ _=>M⟩,(.cons (rva la28 M M (nle M) M) .nil),M⟩

theorem nT (a0:bB) (a1:Int) (r:bB) (h:fU a0 a1=some r):FnH prog 25 [.agg (v0 a0),.fn 36 [.ref 1000 0]] [(1000,.blk 3 [.int .i64 a1])] (.agg (v0 r)) [(1000,.blk 3 [.int .i64 a1])]:=by
 refine fN (rs:=[.agg (v0 r)]) func25 M ntmps25 (nle M) fun O hO=>?_
 show IWP _ _ _ _ ⟨[(0,.agg (v0 a0)),(1,.fn 36 [.ref 1000 0])],[(1000,.blk 3 [.int .i64 a1])]⟩ _
 unfold fU at h
 refine aC (aA M (bV (cs:=q9) 0 M M (lb M) M (svA q9 M) M M)<|aA M (bI (cs:=q10) (cs':=(w38 0 [] 0 ([]:List aL) ([]:List aI) false false false false 0 [] ([]:List aU) 0 [] 0 0)) 1 M M (lb M) M ti38 M M (.k (.k (.k (.cons (.nils _) (.cons (.nils _) (.k4 (.k (.k (.cons (.nils _) (.all _)))))))))))<|aB ?_)
 refine aW ?_
 obtain ⟨x1,hx1,h⟩:=aZ h
 obtain ⟨x2,hx2,h⟩:=aS h
 refine aC (aA M (lra q9 la38 M M M M M (nle M) M)<|aA M (aX (r:=.int _ _) M M (lb M) cl16 (.cons (svA q9 M) .nil) M (eL _ _ hx1))<|aA M (aP M M (lb M) (svI M) (sv (d:=.int _ 0) M) M hx2)<|aB ?_)
 refine aR (b:=_) M (fun hc3=>?_) (fun hc3=>?_)
 ·
  replace h:=bS h hc3
  obtain ⟨x4,hx4,h⟩:=aZ h
  refine bE (aA M (aK M M (lb M) (sv (d:=.fn 36 [.ref _ _]) M))<|aA M (faR 0 M M M underlying38 M ti28 (lb M) M M)<|aA M (lra q14 la28 M M M M M (nle M) M)<|aA M (tM (r':=.agg (v3 x4)) (H1':=[(1000,.blk 3 [.int .i64 a1])]) 2 [1000] M M (lb M) cl36 (sv (d:=.fn 36 [.ref _ _]) M) (.cons (svA q14 M) .nil) M M ⟨M,M,by decide,M,List.forall_mem_cons.2 ⟨⟨M,M,M,M⟩,List.forall_mem_nil _⟩⟩ (uH _ _ _ hx4) M M (List.forall_mem_cons.2 ⟨⟨M,M⟩,List.forall_mem_nil _⟩) M)<|aA M (faR 0 M M M underlying38 M ti28 (lb M) M M)<|aA M (stA q14 q9 ti28 M M M M M M M M (nle M) M)<|cB ?_)
  refine aM ?_
  refine aC (aA M (lra q9 la38 M M M M M (nle M) M)<|aA M (stA q9 q9 ti38 M M M M M M M M (nle M) M)<|aB ?_)
  refine aT ?_
  obtain rfl:=sj_ h
  refine ⟨.inr M,(fun i=>i),⟨.nil,(.cons (.blk M M M) .nil),cA [1000] M (by decide),fun _ _=>M⟩,(.cons (rva la38 M M (nle M) M) .nil),M⟩
 ·
  replace h:=bT h hc3
  refine aV ?_
  refine aM ?_
  refine aC (aA M (lra q9 la38 M M M M M (nle M) M)<|aA M (stA q9 q9 ti38 M M M M M M M M (nle M) M)<|aB ?_)
  refine aT ?_
  obtain rfl:=sj_ h
  refine ⟨.inr M,(fun i=>i),⟨.nil,(.cons (.blk M M M) .nil),cA [1000] M (by decide),fun _ _=>M⟩,(.cons (rva la38 M M (nle M) M) .nil),M⟩

theorem pJ (a0:bB) (a1:Int) (r:bB) (h:lE a0 a1=some r):cJ prog 14 [.agg (v0 a0),.int .i64 a1] (.agg (v0 r)):=by
 refine bC (rs:=[.agg (v0 r)]) func14 M ntmps14 (nle M) M fun O hO=>?_
 show IWP _ _ _ _ ⟨[(0,.agg (v0 a0)),(1,.int .i64 a1)],[]⟩ _
 unfold lE at h
 refine aC (aA M (bV (cs:=q9) 0 M M (lb M) M (svA q9 M) M M)<|aA M (bV (cs:=[.int _ _]) 1 M M (lb M) M (svI M) M M)<|aA M (bI (cs:=q10) (cs':=(w38 0 [] 0 ([]:List aL) ([]:List aI) false false false false 0 [] ([]:List aU) 0 [] 0 0)) 2 M M (lb M) M ti38 M M (.k (.k (.k (.cons (.nils _) (.cons (.nils _) (.k4 (.k (.k (.cons (.nils _) (.all _)))))))))))<|aB ?_)
 obtain ⟨x1,hx1,h⟩:=aZ h
 refine aC (aA M (lra q9 la38 M M M M M (nle M) M)<|aA M (lD M M (lb M) (.cons (svR M) .nil))<|aA M (eN (r':=.agg (v0 x1)) (H1':=[(1,.blk 3 [.int .i64 a1])]) 3 [1] M M (lb M) cl25 (.cons (svA q9 M) (.cons (sv (d:=.fn 36 [.ref _ _]) M) .nil)) M M ⟨M,M,by decide,M,List.forall_mem_cons.2 ⟨⟨M,M,M,M⟩,List.forall_mem_nil _⟩⟩ (nT _ _ _ hx1) M M (List.forall_mem_cons.2 ⟨⟨M,M⟩,List.forall_mem_nil _⟩) M)<|aA M (stA q9 q9 ti38 M M M M M M M M (nle M) M)<|aB ?_)
 refine aT ?_
 obtain rfl:=sj_ h
 refine ⟨.inr M,(.cons (rva la38 M M (nle M) M) .nil)⟩

theorem uA (a0:aL) (r:Bool) (h:oJ a0=some r):cJ prog 66 [.agg (v7 a0)] (.bool r):=by
 refine bC (rs:=[.bool r]) func66 M ntmps66 (nle M) M fun O hO=>?_
 show IWP _ _ _ _ ⟨[(0,.agg (v7 a0))],[]⟩ _
 unfold oJ at h
 refine aC (aA M (bV (cs:=q19) 0 M M (lb M) M (svA q19 M) M M)<|aA M (aE M M (lb M) (sv (d:=.bool false) M))<|aB ?_)
 obtain ⟨x1,hx1,h⟩:=aS h
 obtain ⟨x2,hx2,h⟩:=aS h
 refine aC (aA M (faR 0 M M M underlying52 M ti3 (lb M) M M)<|aA M (aG (d:=.int _ _) M M (lb M) underlying3 ag3 ti3 (by decide) (svR M) M (nle M) M)<|aA M (faR 1 M M M underlying52 M ti3 (lb M) M M)<|aA M (aG (d:=.int _ _) M M (lb M) underlying3 ag3 ti3 (by decide) (svR M) M (nle M) M)<|aA M (aP M M (lb M) (svI M) (svI M) M hx1)<|aA M (mvB M M M M)<|aF M M (.one M) M (by decide) (fun hb=>(faR 3 M M M underlying52 M ti4 (lb M) M M))<|aF M M (.one M) M (by decide) (fun hb=>(aG (d:=.bool _) M M (lb M) underlying4 ag4 ti4 (by decide) (svcR M hb) M (nle M) M))<|aF M M (.one M) M (by decide) (fun hb=>(dN M M (lb M) (svcB M hb)))<|aA M (cC M M (lb M) (svB M) M M hx2)<|aA M (asB M M M M)<|aB ?_)
 refine aT ?_
 obtain rfl:=sj_ h
 refine ⟨.inr M,(.cons (sv M) .nil)⟩

theorem jJ (a0:(List aL)) (r:Int) (h:eE a0=some r):cJ prog 94 [.slice false (a0.map aD.d),.fn 66 []] (.int .i64 r):=by
 refine bC (rs:=[.int .i64 r]) func94 M ntmps94 (nle M) M fun O hO=>?_
 show IWP _ _ _ _ ⟨[(0,.slice false (a0.map aD.d)),(1,.fn 66 [])],[]⟩ _
 unfold eE at h
 refine aC (aA M (aE M M (lb M) (sv (d:=.int _ 0) M))<|aB ?_)
 refine aW ?_
 refine aC (aA M (mvL M M M M)<|aA M (cN aD (l:=a0) M M (lb M) underlying24 (svL M))<|aA M (aK M M (lb M) (sv (d:=.int _ 0) M))<|aB ?_)
 refine bG ?_
 refine dA (α:=Nat × Int) (fun z=>⟨[(0,.slice false (a0.map aD.d)),(1,.fn 66 []),(7,.int .i64 (a0.length:Int)),(8,.int .i64 z.2)],[]⟩) (fun z=>cP a0 z.1 z.2=some r) (fun z=>z.1) (fuel,0) (fun i=>i) ⟨(.sames M M),.nil,cA [] M (by decide),fun _ _=>M⟩ ?_ ?_
 ·exact h
 ·
  rintro ⟨n0,v7⟩ h
  cases n0 with
  | zero=>exact absurd h (by unfold cP; exact nofun)
  | succ n0 =>
   unfold cP at h
   obtain ⟨x14,hx14,h⟩:=aS h
   refine aC (aA M (aP M M (lb M) (svI M) (svI M) M hx14)<|aB ?_)
   refine aW ?_
   refine aR (b:=_) M (fun hc15=>?_) (fun hc15=>?_)
   ·
    replace h:=bS h hc15
    refine aV ?_
    refine aM ?_
    refine aW ?_
    refine bG ?_
    refine aC (aA M (mvI M M M M)<|aA M (asI M M M M)<|aB ?_)
    obtain ⟨x16,hx16,h⟩:=aZ h
    obtain ⟨x17,hx17,h⟩:=aZ h
    refine aC (aA M (aK M M (lb M) (sv (d:=.fn 66 []) M))<|aA M (mvL M M M M)<|aA M (mvI M M M M)<|aA M (dB aD (cs:=q19) M M (lb M) underlying24 ti52 (svL M) (svI M) hx16 M M)<|aA M (cX (cs:=q19) M M (lb M) underlying52 ag52 ti52 (by decide) (sv (d:=.fptr q19) M) (nle M) M)<|aA M (nP (r:=.bool _) M M (lb M) cl66 (sv (d:=.fn 66 []) M) (.cons (svA q19 M) .nil) M (uA _ _ hx17))<|aB ?_)
    refine aR (b:=_) M (fun hc18=>?_) (fun hc18=>?_)
    ·
     replace h:=bS h hc18
     refine aC (aA M (mvI M M M M)<|aA M (asI M M M M)<|aB ?_)
     refine aT ?_
     refine bP ?_
     refine bA ?_
     refine bA ?_
     refine bP ?_
     refine bA ?_
     obtain rfl:=sj_ h
     refine ⟨.inr M,(.cons (sv M) .nil)⟩
    ·
     replace h:=bT h hc18
     refine aV ?_
     refine bZ ?_
     refine aM ?_
     obtain ⟨x19,hx19,h⟩:=aS h
     refine bE (aA M (bN M M (lb M) (svI M) (sv (d:=.int _ 1) M) M hx19)<|aA M (mvI M M M M)<|cB ?_)
     refine aM ⟨(n0,x19),(fun i=>i),⟨(.sames M M),.nil,cA [] M (by decide),fun _ _=>M⟩,?_,?_⟩
     exact h
     exact Nat.lt_succ_self _
   ·
    replace h:=bT h hc15
    refine cQ ?_
    refine bJ ?_
    refine bJ ?_
    refine cR ?_
    refine aM ?_
    refine aC (aA M (aE M M (lb M) (sv (d:=.int _ (-1)) M))<|aB ?_)
    refine aT ?_
    obtain rfl:=sj_ h
    refine ⟨.inr M,(.cons (sv M) .nil)⟩

theorem iJ (a0:(List aL)) (r:(List aL)) (h:dK a0=some r):FnH prog 65 [.osl 1000 aD.sz a0.length,.fn 66 []] [(1000,.blk 52 (D.flat (a0.map aD.d)))] (.osl 0 aD.sz r.length) [(0,.blk 52 (D.flat (r.map aD.d)))]:=by
 refine fN (rs:=[.osl 0 aD.sz r.length]) func65 M ntmps65 (nle M) fun O hO=>?_
 show IWP _ _ _ _ ⟨[(0,.osl 1000 aD.sz a0.length),(1,.fn 66 [])],[(1000,.blk 52 (D.flat (a0.map aD.d)))]⟩ _
 unfold dK at h
 refine aC (aA M (aE M M (lb M) (sv (d:=.nils) M))<|aB ?_)
 obtain ⟨x1,hx1,h⟩:=aZ h
 refine aC (aA M (aK M M (lb M) (sv (d:=.osl _ _ _) M))<|aA M (aK M M (lb M) (sv (d:=.fn 66 []) M))<|aA M (uU (r:=.int .i64 x1) M M (lb M) cl94 (.cons (sv (d:=.osl _ _ _) M) (.cons (sv (d:=.fn 66 []) M) .nil)) (.cons (FDT aD M M) (.all _)) M M (jJ _ _ hx1))<|aA M (asI M M M M)<|aB ?_)
 refine aW ?_
 obtain ⟨x2,hx2,h⟩:=aS h
 refine aC (aA M (mvI M M M M)<|aA M (aP M M (lb M) (svI M) (sv (d:=.int _ (-1)) M) M hx2)<|aB ?_)
 refine aR (b:=_) M (fun hc3=>?_) (fun hc3=>?_)
 ·
  replace h:=bS h hc3
  refine aC (aA M (aK M M (lb M) (sv (d:=.osl _ _ _) M))<|aA M (aE M M (lb M) (sv (d:=.osl _ _ _) M))<|aB ?_)
  refine aT ?_
  refine bA ?_
  obtain rfl:=sj_ h
  refine ⟨.inr M,(fun i=>if i=0 then 1000 else i),⟨.nil,(.cons (EntW.lst M) .nil),cA [1000] M (by decide),(fun i hi=>by first | rfl | (show (if _ then _ else _)=_; (repeat' split) <;> omega))⟩,(.cons (sv M) .nil),M⟩
 ·
  replace h:=bT h hc3
  refine aV ?_
  refine aM ?_
  refine aW ?_
  obtain ⟨x4,hx4,h⟩:=aS h
  refine aC (aA M (mvI M M M M)<|aA M (bN M M (lb M) (svI M) (sv (d:=.int _ 1) M) M hx4)<|aA M (asI M M M M)<|aB ?_)
  refine bG ?_
  refine dA (α:=Nat × (List aL) × Int × Int) (fun z=>⟨[(0,.osl 1000 aD.sz z.2.1.length),(1,.fn 66 []),(5,.int .i64 z.2.2.1),(6,.int .i64 z.2.2.2)],[(1000,.blk 52 (D.flat (z.2.1.map aD.d)))]⟩) (fun z=>cH z.1 z.2.1 z.2.2.1 z.2.2.2=some r) (fun z=>z.1) (fuel,a0,x1,x4) (fun i=>i) ⟨(.sames M M),(.cons (EntW.lst M) .nil),cA [1000] M (by decide),fun _ _=>M⟩ ?_ ?_
  ·exact h
  ·
   rintro ⟨n0,v17,v18,v19⟩ h
   cases n0 with
   | zero=>exact absurd h (by unfold cH; exact nofun)
   | succ n0 =>
    unfold cH at h
    refine aW ?_
    obtain ⟨x32,hx32,h⟩:=aS h
    refine aC (aA M (mvI M M M M)<|aA M (aK M M (lb M) (sv (d:=.osl _ _ _) M))<|aA M (nH M M (lb M) underlying24 (sv (d:=.osl _ _ _) M))<|aA M (aP M M (lb M) (svI M) (svI M) M hx32)<|aB ?_)
    refine aR (b:=_) M (fun hc33=>?_) (fun hc33=>?_)
    ·
     replace h:=bS h hc33
     refine aV ?_
     refine aM ?_
     refine aW ?_
     refine bG ?_
     obtain ⟨x34,hx34,h⟩:=aZ h
     obtain ⟨x35,hx35,h⟩:=aZ h
     refine aC (aA M (aK M M (lb M) (sv (d:=.osl _ _ _) M))<|aA M (mvI M M M M)<|aA M (jN aD.toEnc0 M M (lb M) underlying24 ti52 (sv (d:=.osl _ _ _) M) M (svI M) hx34)<|aA M (sF aD.toEnc0 (cs:=q19) M M (lb M) underlying52 ag52 ti52 (by decide) (svR M) M hx35 (nle M) M)<|aA M (bI (cs:=q19) (cs':=(w44 0 0 0 false)) 0 M M (lb M) M ti52 M M (.all _))<|aA M (stA q19 q19 ti52 M M M M M M M M (nle M) M)<|aB ?_)
     obtain ⟨x36,hx36,h⟩:=aZ h
     refine aC (aA M (aK M M (lb M) (sv (d:=.fn 66 []) M))<|aA M (lra q19 la52 M M M M M (nle M) M)<|aA M (nP (r:=.bool _) M M (lb M) cl66 (sv (d:=.fn 66 []) M) (.cons (svA q19 M) .nil) M (uA _ _ hx36))<|aA M (dN M M (lb M) (svB M))<|aB ?_)
     refine aR (b:=_) M (fun hc37=>?_) (fun hc37=>?_)
     ·
      replace h:=bS h hc37
      obtain ⟨x38,hx38,h⟩:=aZ h
      obtain ⟨x39,hx39,h⟩:=aZ h
      obtain ⟨x40,hx40,h⟩:=aS h
      refine aC (aA M (aK M M (lb M) (sv (d:=.osl _ _ _) M))<|aA M (mvI M M M M)<|aA M (lra q19 la52 M M M M M (nle M) M)<|aA M (jN aD.toEnc0 M M (lb M) underlying24 ti52 (sv (d:=.osl _ _ _) M) M (svI M) hx38)<|aA M (mF aD.toEnc0 (a':=x35) M M ti52 (svR M) M (svA q19 M) M M M hx39 (nle M) M hx40)<|aB ?_)
      obtain ⟨x41,hx41,h⟩:=aS h
      refine bE (aA M (mvI M M M M)<|aA M (bN M M (lb M) (svI M) (sv (d:=.int _ 1) M) M hx41)<|aA M (asI M M M M)<|cB ?_)
      refine bZ ?_
      refine aM ?_
      obtain ⟨x42,hx42,h⟩:=aS h
      refine bE (aA M (mvI M M M M)<|aA M (bN M M (lb M) (svI M) (sv (d:=.int _ 1) M) M hx42)<|aA M (asI M M M M)<|cB ?_)
      refine aM ⟨(n0,x40,x41,x42),(fun i=>i),⟨(.cons (.same (congrArg (D.osl _ _) (rR hx40 M).symm) M) (.sames M M)),(.cons (EntW.lst M) .nil),cA [1000] M (by decide),fun _ _=>M⟩,?_,?_⟩
      exact h
      exact Nat.lt_succ_self _
     ·
      replace h:=bT h hc37
      refine aV ?_
      refine bZ ?_
      refine aM ?_
      obtain ⟨x43,hx43,h⟩:=aS h
      refine bE (aA M (mvI M M M M)<|aA M (bN M M (lb M) (svI M) (sv (d:=.int _ 1) M) M hx43)<|aA M (asI M M M M)<|cB ?_)
      refine aM ⟨(n0,v17,v18,x43),(fun i=>i),⟨(.sames M M),(.cons (EntW.lst M) .nil),cA [1000] M (by decide),fun _ _=>M⟩,?_,?_⟩
      exact h
      exact Nat.lt_succ_self _
    ·
     replace h:=bT h hc33
     refine cQ ?_
     refine bJ ?_
     refine bJ ?_
     refine cR ?_
     refine aM ?_
     obtain ⟨x44,hx44,h⟩:=aZ h
     refine aC (aA M (aK M M (lb M) (sv (d:=.osl _ _ _) M))<|aA M (mvI M M M M)<|yD aD.toEnc0 M M M M (by decide) M M underlying24 ti52 M M M M M (fun S1 h9=>sv ((h9 37 (by decide)).trans M)) hx44<|aB ?_)
     obtain ⟨x45,hx45,h⟩:=aZ h
     refine aC (aA M (aK M M (lb M) (sv (d:=.osl _ _ _) M))<|aA M (mvI M M M M)<|aA M (yZ aD.toEnc0 M M (lb M) underlying24 ti52 (sv (d:=.osl _ _ _) M) M (Nat.le_trans (aFw hx44) (Nat.le_of_eq M)) (svI M) hx45)<|aA M (aE M M (lb M) (sv (d:=.osl _ _ _) M))<|aB ?_)
     refine aT ?_
     obtain rfl:=sj_ h
     refine ⟨.inr M,(fun i=>if i=0 then 1000 else i),⟨.nil,(.cons (EntW.lst M) .nil),cA [1000] M (by decide),(fun i hi=>by first | rfl | (show (if _ then _ else _)=_; (repeat' split) <;> omega))⟩,(.cons (sv M) .nil),M⟩

theorem aBo (a0:aY) (a1:Int) (a2:Bool) (r:aY) (h:pQ a0 a1 a2=some r):cJ prog 35 [.agg (v3 a0),.int .i64 a1,.bool a2] (.agg (v3 r)):=by
 refine gW (rs:=[.agg (v3 r)]) func35 M ntmps35 (nle M) M fun O hO=>?_
 show IWP _ _ _ _ ⟨[(0,.agg (v3 a0)),(1,.int .i64 a1),(2,.bool a2)],[]⟩ _
 unfold pQ at h
 refine aC (aA M (bV (cs:=q14) 0 M M (lb M) M (svA q14 M) M M)<|aA M (bI (cs:=q16) (cs':=(w40 0 [] 0 ([]:List aL) ([]:List aI) false false false false)) 1 M M (lb M) M ti28 M M (.k (.k (.k (.cons (.nils _) (.cons (.nils _) (.all _)))))))<|aB ?_)
 obtain ⟨x1,hx1,h⟩:=aZ h
 refine aC (aA M (lra q14 la28 M M M M M (nle M) M)<|aA M (eN (r':=.agg (w41 x1.1 x1.2.1 x1.2.2.1 (.osl 2 aD.sz x1.2.2.2.1.length) x1.2.2.2.2.1 x1.2.2.2.2.2.1 x1.2.2.2.2.2.2.1 x1.2.2.2.2.2.2.2.1 x1.2.2.2.2.2.2.2.2)) (H1':=[(2,.blk 52 (D.flat (x1.2.2.2.1.map aD.d)))]) 2 [] M M (lb M) cl50 (.cons (svA q14 M) .nil) M M ⟨M,M,by decide,M,List.forall_mem_nil _⟩ (kU _ _ hx1) M M (List.forall_mem_cons.2 ⟨⟨M,(lL aD)⟩,List.forall_mem_nil _⟩) (by simp only [List.map_cons,List.map_nil,Ent.ren,fR,gL]; rfl))<|aA M (bI (cs:=q16) (cs':=(w40 0 [] 0 ([]:List aL) ([]:List aI) false false false false)) 3 M M (lb M) M ti28 M M (.k (.k (.k (.cons (.nils _) (.cons (.nils _) (.all _)))))))<|aA M (stA q15 q15 ti28 M M M M M M M M (nle M) M)<|aB ?_)
 refine aW ?_
 obtain ⟨x2,hx2,h⟩:=aZ h
 obtain ⟨x3,hx3,h⟩:=aS h
 obtain ⟨x4,hx4,h⟩:=aS h
 obtain ⟨x5,hx5,h⟩:=aS h
 obtain ⟨x6,hx6,h⟩:=aS h
 obtain ⟨x7,hx7,h⟩:=aS h
 obtain ⟨x8,hx8,h⟩:=aZ h
 obtain ⟨x9,hx9,h⟩:=aS h
 obtain ⟨x10,hx10,h⟩:=aS h
 obtain ⟨x11,hx11,h⟩:=aS h
 obtain ⟨x12,hx12,h⟩:=aS h
 refine aC (aA M (lra q14 la28 M M M M M (nle M) M)<|aA M (aX (r:=.int _ _) M M (lb M) cl39 (.cons (svA q14 M) .nil) M (mC _ _ hx2))<|aA M (aP M M (lb M) (svI M) (sv (d:=.int _ 0) M) M hx3)<|aA M (mvB M M M M)<|aF M M (.one M) M (by decide) (fun hb=>(mvI M M M M))<|aF M M (.one M) M (by decide) (fun hb=>(aP M M (lb M) (svcI M hb) (sv (d:=.int _ 0) M) M hx4))<|aA M (dT M M (lb M) (svB M) M M hx5)<|aA M (mvB M M M M)<|aF M M (.one M) M (by decide) (fun hb=>(mvI M M M M))<|aF M M (.one M) M (by decide) (fun hb=>(faR 2 M M M underlying28 M ti3 (lb M) M M))<|aF M M (.one M) M (by decide) (fun hb=>(aG (d:=.int _ _) M M (lb M) underlying3 ag3 ti3 (by decide) (svcR M hb) M (nle M) M))<|aF M M (.one M) M (by decide) (fun hb=>(aP M M (lb M) (svcI M hb) (svcI M hb) M hx6))<|aA M (dT M M (lb M) (svB M) M M hx7)<|aA M (mvB M M M M)<|aF M M (.one M) M (by decide) (fun hb=>(mvB M M M M))<|aF M M (.one M) M (by decide) (fun hb=>(aK M M (lb M) (svcB M hb)))<|aF M M (.two M) M (by decide) (fun hb=>(mvI M M M M))<|aF M M (.two M) M (by decide) (fun hb=>(lra q14 la28 M M M M M (nle M) M))<|aF M M (.two M) M (by decide) (fun hb=>(aX (r:=.int _ _) M M (lb M) cl51 (.cons (svcA (v3 a0) M hb) .nil) M (fY _ _ (gd_t hx8 hb))))<|aF M M (.two M) M (by decide) (fun hb=>(aP M M (lb M) (svcI M hb) (svcI M hb) M hx9))<|aF M M (.two M) M (by decide) (fun hb=>(aK M M (lb M) (svcB M hb)))<|aF M M (.two M) M (by decide) (fun hb=>(faR 6 M M M underlying28 M ti4 (lb M) M M))<|aF M M (.two M) M (by decide) (fun hb=>(aG (d:=.bool _) M M (lb M) underlying4 ag4 ti4 (by decide) (svcR M hb) M (nle M) M))<|aF M M (.two M) M (by decide) (fun hb=>(dN M M (lb M) (svcB M hb)))<|aF M M (.two M) M (by decide) (fun hb=>(aCK M M (lb M) hb (svcB M hb) M M hx10))<|aF M M (.one M) M (by decide) (fun hb=>(pX M M (lb M) hb (svcB M hb) M M hx11))<|aA M (dT M M (lb M) (svB M) M M hx12)<|aB ?_)
 refine aR (b:=_) M (fun hc13=>?_) (fun hc13=>?_)
 ·
  replace h:=bS h hc13
  refine aC (aA M (lra q15 la28 M M M M M (nle M) M)<|aA M (stA q15 q15 ti28 M M M M M M M M (nle M) M)<|aB ?_)
  refine aT ?_
  refine bA ?_
  obtain rfl:=sj_ h
  refine ⟨.inr M,_,(.cons (rva la28 M M (nle M) M) .nil),(.cons (.agg (.k (.k (.k (.cons (FDT aD M M) (.all _)))))) .nil)⟩
 ·
  replace h:=bT h hc13
  refine aV ?_
  refine aM ?_
  obtain ⟨x14,hx14,h⟩:=aS h
  refine aC (aA M (mvI M M M M)<|aA M (faR 0 M M M underlying28 M ti3 (lb M) M M)<|aA M (aG (d:=.int _ _) M M (lb M) underlying3 ag3 ti3 (by decide) (svR M) M (nle M) M)<|aA M (qR M M (lb M) (svI M) (svI M) hx14)<|aA M (asI M M M M)<|aB ?_)
  refine aW ?_
  refine aC (aA M (faR 3 M M M underlying28 M ti24 (lb M) M M)<|aA M (aG (d:=.osl _ _ _) M M (lb M) underlying24 ag24 ti24 (by decide) (svR M) M (nle M) M)<|aA M (nH M M (lb M) underlying24 (sv (d:=.osl _ _ _) M))<|aA M (aK M M (lb M) (sv (d:=.int _ 0) M))<|aB ?_)
  refine bG ?_
  refine dA (α:=Nat × Int × (List aL)) (fun z=>⟨[(2,.bool a2),(3,.ref 0 0),(6,.ref 1 0),(7,.ref 3 0),(8,.int .i64 x14),(47,.int .i64 (x1.2.2.2.1.length:Int)),(48,.int .i64 z.2.1)],[(0,.blk 28 (v3 a0)),(1,.blk 28 (w40 0 [] 0 ([]:List aL) ([]:List aI) false false false false)),(3,.blk 28 (w41 x1.1 x1.2.1 x1.2.2.1 (.osl 2 aD.sz z.2.2.length) x1.2.2.2.2.1 x1.2.2.2.2.2.1 x1.2.2.2.2.2.2.1 x1.2.2.2.2.2.2.2.1 x1.2.2.2.2.2.2.2.2)),(2,.blk 52 (D.flat (z.2.2.map aD.d)))]⟩) (fun z=>jW a0 a2 x1 x14 z.1 z.2.1 z.2.2=some r) (fun z=>z.1) (fuel,0,x1.2.2.2.1) (fun i=>i) ⟨(.sames M M),(.cons (.blk M M M) (.cons (.blk M M M) (.cons (.blk M M M) (.cons (EntW.lst M) .nil)))),cA [0,1,3,2] M (by decide),fun _ _=>M⟩ ?_ ?_
  ·exact h
  ·
   rintro ⟨n0,v31,v32⟩ h
   cases n0 with
   | zero=>exact absurd h (by unfold jW; exact nofun)
   | succ n0 =>
    unfold jW at h
    obtain ⟨x49,hx49,h⟩:=aS h
    refine aC (aA M (aP M M (lb M) (svI M) (svI M) M hx49)<|aB ?_)
    refine aW ?_
    refine aR (b:=_) M (fun hc50=>?_) (fun hc50=>?_)
    ·
     replace h:=bS h hc50
     refine aV ?_
     refine aM ?_
     refine aW ?_
     refine bG ?_
     refine aC (aA M (mvI M M M M)<|aA M (asI M M M M)<|aB ?_)
     obtain ⟨x51,hx51,h⟩:=aZ h
     refine aC (aA M (faR 3 M M M underlying28 M ti24 (lb M) M M)<|aA M (aG (d:=.osl _ _ _) M M (lb M) underlying24 ag24 ti24 (by decide) (svR M) M (nle M) M)<|aA M (mvI M M M M)<|aA M (jN aD.toEnc0 M M (lb M) underlying24 ti52 (sv (d:=.osl _ _ _) M) M (svI M) hx51)<|aA M (aE M M (lb M) (svR M))<|aB ?_)
     obtain ⟨x52,hx52,h⟩:=aZ h
     obtain ⟨x53,hx53,h⟩:=aS h
     obtain ⟨x54,hx54,h⟩:=aZ h
     obtain ⟨x55,hx55,h⟩:=aS h
     obtain ⟨x56,hx56,h⟩:=aZ h
     obtain ⟨x57,hx57,h⟩:=aS h
     obtain ⟨x58,hx58,h⟩:=aZ h
     obtain ⟨x59,hx59,h⟩:=aS h
     refine dH M [⟨[10],[],[(55,.ref 2 (((v31:Int).toNat) * aD.sz + 0))],[]⟩,
      ⟨[10],[],[(56,.ref 2 (((v31:Int).toNat) * aD.sz + 0))],[]⟩,
      ⟨[10],[],[(57,.ref 2 (((v31:Int).toNat) * aD.sz + 0))],[]⟩,
      ⟨[57],[],[(58,.ref 2 (((v31:Int).toNat) * aD.sz + 0))],[]⟩,
      ⟨[58],[],[(59,.ref 2 (((v31:Int).toNat) * aD.sz + 0))],[]⟩,
      ⟨[59],[2],[(60,.int .i64 x52.From)],[]⟩,
      ⟨[8],[],[(61,.int .i64 x14)],[]⟩,
      ⟨[60,61],[],[(62,.int .i64 x53)],[]⟩,
      ⟨[10],[],[(63,.ref 2 (((v31:Int).toNat) * aD.sz + 0))],[]⟩,
      ⟨[63],[],[(64,.ref 2 (((v31:Int).toNat) * aD.sz + 0))],[]⟩,
      ⟨[64],[],[(65,.ref 2 (((v31:Int).toNat) * aD.sz + 1))],[]⟩,
      ⟨[65],[2],[(66,.int .i64 x54.To)],[]⟩,
      ⟨[8],[],[(67,.int .i64 x14)],[]⟩,
      ⟨[66,67],[],[(68,.int .i64 x55)],[]⟩,
      ⟨[55],[],[(69,.ref 2 (((v31:Int).toNat) * aD.sz + 0))],[]⟩,
      ⟨[69],[],[(70,.ref 2 (((v31:Int).toNat) * aD.sz + 0))],[]⟩,
      ⟨[62,70],[2],[],[(2,.blk 52 (D.flat (x57.map aD.d)))]⟩,
      ⟨[56],[],[(71,.ref 2 (((v31:Int).toNat) * aD.sz + 0))],[]⟩,
      ⟨[71],[],[(72,.ref 2 (((v31:Int).toNat) * aD.sz + 1))],[]⟩,
      ⟨[68,72],[2],[],[(2,.blk 52 (D.flat (x59.map aD.d)))]⟩] M ?_ (by kernel_rfl) ?_
     ·refine .cons (lop M M fun S hA=>(aK M M (lb M) (svaR hA M M))) ?_
      refine .cons (lop M M fun S hA=>(aK M M (lb M) (svaR hA M M))) ?_
      refine .cons (lop M M fun S hA=>(aK M M (lb M) (svaR hA M M))) ?_
      refine .cons (lop M M fun S hA=>(bO M M (lb M) (svaR hA M M))) ?_
      refine .cons (lop M M fun S hA=>(kF M M (lb M) underlying52 M ti3 (by decide) (svaR hA M M) (k':=0) M)) ?_
      refine .cons (lop M M fun S hA=>(lJ aD.toEnc0 (d:=.int _ _) M M (lb M) underlying3 ag3 ti3 (by decide) (svaR hA M M) (agi hA M M) hx52 (nle M) M)) ?_
      refine .cons (lop M M fun S hA=>(aK M M (lb M) (svaI hA M M))) ?_
      refine .cons (lop M M fun S hA=>(qR M M (lb M) (svaI hA M M) (svaI hA M M) hx53)) ?_
      refine .cons (lop M M fun S hA=>(aK M M (lb M) (svaR hA M M))) ?_
      refine .cons (lop M M fun S hA=>(bO M M (lb M) (svaR hA M M))) ?_
      refine .cons (lop M M fun S hA=>(kF M M (lb M) underlying52 M ti3 (by decide) (svaR hA M M) (k':=1) M)) ?_
      refine .cons (lop M M fun S hA=>(lJ aD.toEnc0 (d:=.int _ _) M M (lb M) underlying3 ag3 ti3 (by decide) (svaR hA M M) (agi hA M M) hx54 (nle M) M)) ?_
      refine .cons (lop M M fun S hA=>(aK M M (lb M) (svaI hA M M))) ?_
      refine .cons (lop M M fun S hA=>(qR M M (lb M) (svaI hA M M) (svaI hA M M) hx55)) ?_
      refine .cons (lop M M fun S hA=>(bO M M (lb M) (svaR hA M M))) ?_
      refine .cons (lop M M fun S hA=>(kF M M (lb M) underlying52 M ti3 (by decide) (svaR hA M M) (k':=0) M)) ?_
      refine .cons (lop M M fun S hA=>(mF aD.toEnc0 (a':=(⟨x53,x56.To,x56.Path,x56.Fin⟩:aL)) M M ti3 (svaR hA M M) (agi hA M M) (svaI hA M M) M M M hx56 (nle M) M hx57)) ?_
      refine .cons (lop M M fun S hA=>(bO M M (lb M) (svaR hA M M))) ?_
      refine .cons (lop M M fun S hA=>(kF M M (lb M) underlying52 M ti3 (by decide) (svaR hA M M) (k':=1) M)) ?_
      refine .cons (lop M M fun S hA=>(mF aD.toEnc0 (a':=(⟨x58.From,x55,x58.Path,x58.Fin⟩:aL)) M M ti3 (svaR hA M M) (agi hA M M) (svaI hA M M) M M M hx58 (nle M) M hx59)) ?_
      exact .nil
     obtain ⟨x60,hx60,h⟩:=aZ h
     obtain ⟨x61,hx61,h⟩:=aS h
     obtain ⟨x62,hx62,h⟩:=aZ h
     obtain ⟨x63,hx63,h⟩:=aS h
     refine bE (aA M (mvR M M M M)<|aA M (mvR M M M M)<|aA M (bO M M (lb M) (svR M))<|aA M (kF M M (lb M) underlying52 M ti4 (by decide) (svR M) (k':=3) M)<|aA M (lJ aD.toEnc0 (d:=.bool _) M M (lb M) underlying4 ag4 ti4 (by decide) (svR M) M hx60 (nle M) M)<|aA M (mvB M M M M)<|aF M M (.one M) M (by decide) (fun hb=>(mvB M M M M))<|aF M M (.one M) M (by decide) (fun hb=>(dN M M (lb M) (svcB M hb)))<|aA M (cC M M (lb M) (svB M) M M hx61)<|aA M (bO M M (lb M) (svR M))<|aA M (kF M M (lb M) underlying52 M ti4 (by decide) (svR M) (k':=3) M)<|aA M (mF aD.toEnc0 (a':=(⟨x62.From,x62.To,x62.Path,x61⟩:aL)) M M ti4 (svR M) M (svB M) M M M hx62 (nle M) M hx63)<|cB ?_)
     refine bZ ?_
     refine aM ?_
     obtain ⟨x64,hx64,h⟩:=aS h
     refine bE (aA M (bN M M (lb M) (svI M) (sv (d:=.int _ 1) M) M hx64)<|aA M (mvI M M M M)<|cB ?_)
     refine aM ⟨(n0,x64,x63),(fun i=>i),⟨(.sames M M),(.cons (.blk M M M) (.cons (.blk M M M) (.cons (.blk M (by rw [← (rR hx63 (rR hx59 (rR hx57 M)))]; rfl) M) (.cons (EntW.lst M) .nil)))),cA [0,1,3,2] M (by decide),fun _ _=>M⟩,?_,?_⟩
     exact h
     exact Nat.lt_succ_self _
    ·
     replace h:=bT h hc50
     refine cQ ?_
     refine bJ ?_
     refine bJ ?_
     refine cR ?_
     refine aM ?_
     obtain ⟨x65,hx65,h⟩:=aZ h
     refine aC (aA M (faR 3 M M M underlying28 M ti24 (lb M) M M)<|aA M (aG (d:=.osl _ _ _) M M (lb M) underlying24 ag24 ti24 (by decide) (svR M) M (nle M) M)<|aA M (eN (r':=.osl 4 aD.sz x65.length) (H1':=[(4,.blk 52 (D.flat (x65.map aD.d)))]) 4 [2] M M (lb M) cl65 (.cons (sv (d:=.osl _ _ _) M) (.cons (sv (d:=.fn 66 []) M) .nil)) M M ⟨M,M,by decide,M,List.forall_mem_cons.2 ⟨⟨M,M,(aB1 aD M),(lL aD)⟩,List.forall_mem_nil _⟩⟩ (iJ _ _ hx65) M M (List.forall_mem_cons.2 ⟨⟨M,(lL aD)⟩,List.forall_mem_nil _⟩) (by simp only [List.map_cons,List.map_nil,Ent.ren,fR,gL]; rfl))<|aA M (faR 3 M M M underlying28 M ti24 (lb M) M M)<|aA M (bQ (ds':=q15) M M ti24 (svR M) M (sv (d:=.osl _ _ _) M) M M M (nle M) M)<|aB ?_)
     obtain ⟨x66,hx66,h⟩:=aS h
     obtain ⟨x67,hx67,h⟩:=aZ h
     refine dH M [⟨[8],[],[(89,.int .i64 x14)],[]⟩,
      ⟨[3],[],[(90,.ref 0 1)],[]⟩,
      ⟨[90],[0],[(91,.str a0.Data)],[]⟩,
      ⟨[8],[],[(92,.int .i64 x14)],[]⟩,
      ⟨[3],[],[(93,.ref 0 0)],[]⟩,
      ⟨[93],[0],[(94,.int .i64 a0.Base)],[]⟩,
      ⟨[92,94],[],[(95,.int .i64 x66)],[]⟩,
      ⟨[91,95],[],[(96,.str x67)],[]⟩,
      ⟨[7],[],[(97,.ref 3 0)],[]⟩,
      ⟨[89,97],[3],[],[(3,.blk 28 (w41 x14 x1.2.1 x1.2.2.1 (.osl 4 aD.sz x65.length) x1.2.2.2.2.1 x1.2.2.2.2.2.1 x1.2.2.2.2.2.2.1 x1.2.2.2.2.2.2.2.1 x1.2.2.2.2.2.2.2.2))]⟩,
      ⟨[7],[],[(98,.ref 3 1)],[]⟩,
      ⟨[96,98],[3],[],[(3,.blk 28 (w41 x14 x67 x1.2.2.1 (.osl 4 aD.sz x65.length) x1.2.2.2.2.1 x1.2.2.2.2.2.1 x1.2.2.2.2.2.2.1 x1.2.2.2.2.2.2.2.1 x1.2.2.2.2.2.2.2.2))]⟩] M ?_ (by kernel_rfl) ?_
     ·refine .cons (lop M M fun S hA=>(aK M M (lb M) (svaI hA M M))) ?_
      refine .cons (lop M M fun S hA=>(aO M M (lb M) underlying28 M ti9 (by decide) (svaR hA M M) (off':=1) M)) ?_
      refine .cons (lop M M fun S hA=>(aG (d:=.str _) M M (lb M) underlying9 ag9 ti9 (by decide) (svaR hA M M) (agi hA M M) (nle M) M)) ?_
      refine .cons (lop M M fun S hA=>(aK M M (lb M) (svaI hA M M))) ?_
      refine .cons (lop M M fun S hA=>(aO M M (lb M) underlying28 M ti3 (by decide) (svaR hA M M) (off':=0) M)) ?_
      refine .cons (lop M M fun S hA=>(aG (d:=.int _ _) M M (lb M) underlying3 ag3 ti3 (by decide) (svaR hA M M) (agi hA M M) (nle M) M)) ?_
      refine .cons (lop M M fun S hA=>(bN M M (lb M) (svaI hA M M) (svaI hA M M) M hx66)) ?_
      refine .cons (lop M M fun S hA=>(jO M M (lb M) underlying9 (sv (d:=.str _) (agr hA M M)) ⟨_,(svaI hA M M)⟩ M hx67)) ?_
      refine .cons (lop M M fun S hA=>(aO M M (lb M) underlying28 M ti3 (by decide) (svaR hA M M) (off':=0) M)) ?_
      refine .cons (lop M M fun S hA=>(bQ (ds':=q15) M M ti3 (svaR hA M M) (agi hA M M) (svaI hA M M) M M M (nle M) M)) ?_
      refine .cons (lop M M fun S hA=>(aO M M (lb M) underlying28 M ti9 (by decide) (svaR hA M M) (off':=1) M)) ?_
      refine .cons (lop M M fun S hA=>(bQ (ds':=q15) M M ti9 (svaR hA M M) (agi hA M M) (sv (d:=.str _) (agr hA M M)) M M M (nle M) M)) ?_
      exact .nil
     obtain ⟨x68,hx68,h⟩:=aZ h
     refine aC (aA M (faR 4 M M M underlying28 M ti26 (lb M) M M)<|aA M (lrL la26 M M M M M (nle M) M)<|aA M (mvI M M M M)<|aA M (cF (cs:=q27) M M (lb M) underlying116 gC aEu M (.cons (svI M) .nil) M)<|aA M (aX (r:=.slice _ _) M M (lb M) cl54 (.cons (svL M) (.cons (svA q27 M) .nil)) M (tJ _ _ _ hx68))<|aA M (faR 4 M M M underlying28 M ti26 (lb M) M M)<|aA M (bQ (ds':=q15) M M ti26 (svR M) M (svL M) M M M (nle M) M)<|aB ?_)
     refine aW ?_
     refine aC (aA M (mvB M M M M)<|aB ?_)
     refine aR (b:=_) M (fun hc69=>?_) (fun hc69=>?_)
     ·
      replace h:=bS h hc69
      refine bE (aA M (faR 8 M M M underlying28 M ti4 (lb M) M M)<|aA M (bQ (ds':=q15) M M ti4 (svR M) M (sv (d:=.bool true) M) M M M (nle M) M)<|aA M (faR 7 M M M underlying28 M ti4 (lb M) M M)<|aA M (bQ (ds':=q15) M M ti4 (svR M) M (sv (d:=.bool false) M) M M M (nle M) M)<|cB ?_)
      refine aM ?_
      refine aC (aA M (lra q15 la28 M M M M M (nle M) M)<|aA M (stA q15 q15 ti28 M M M M M M M M (nle M) M)<|aB ?_)
      refine aT ?_
      obtain rfl:=sj_ h
      refine ⟨.inr M,_,(.cons (rva la28 M M (nle M) M) .nil),(.cons (.agg (.k (.k (.k (.cons (FDT aD M M) (.all _)))))) .nil)⟩
     ·
      replace h:=bT h hc69
      refine aV ?_
      refine aM ?_
      refine aC (aA M (lra q15 la28 M M M M M (nle M) M)<|aA M (stA q15 q15 ti28 M M M M M M M M (nle M) M)<|aB ?_)
      refine aT ?_
      obtain rfl:=sj_ h
      refine ⟨.inr M,_,(.cons (rva la28 M M (nle M) M) .nil),(.cons (.agg (.k (.k (.k (.cons (FDT aD M M) (.all _)))))) .nil)⟩

theorem sR (a0:aY) (a1:Int) (r:aY) (h:kV a0 a1=some r):FnH prog 34 [.agg (v3 a0),.ref 1000 0] [(1000,.blk 3 [.int .i64 a1])] (.agg (v3 r)) [(1000,.blk 3 [.int .i64 a1])]:=by
 refine fN (rs:=[.agg (v3 r)]) func34 M ntmps34 (nle M) fun O hO=>?_
 show IWP _ _ _ _ ⟨[(0,.agg (v3 a0)),(1,.ref 1000 0)],[(1000,.blk 3 [.int .i64 a1])]⟩ _
 unfold kV at h
 refine aC (aA M (bV (cs:=q14) 0 M M (lb M) M (svA q14 M) M M)<|aA M (bI (cs:=q16) (cs':=(w40 0 [] 0 ([]:List aL) ([]:List aI) false false false false)) 1 M M (lb M) M ti28 M M (.k (.k (.k (.cons (.nils _) (.cons (.nils _) (.all _)))))))<|aB ?_)
 obtain ⟨x1,hx1,h⟩:=aZ h
 refine aC (aA M (lra q14 la28 M M M M M (nle M) M)<|aA M (aG (d:=.int _ _) M M (lb M) underlying3 ag3 ti3 (by decide) (svR M) M (nle M) M)<|aA M (aX (r:=.agg q14) M M (lb M) cl35 (.cons (svA q14 M) (.cons (svI M) (.cons (sv (d:=.bool false) M) .nil))) M (aBo _ _ _ _ hx1))<|aA M (stA q14 q14 ti28 M M M M M M M M (nle M) M)<|aB ?_)
 refine aT ?_
 obtain rfl:=sj_ h
 refine ⟨.inr M,(fun i=>i),⟨.nil,(.cons (.blk M M M) .nil),cA [1000] M (by decide),fun _ _=>M⟩,(.cons (rva la28 M M (nle M) M) .nil),M⟩

theorem nA (a0:bB) (a1:Int) (r:bB) (h:fG a0 a1=some r):FnH prog 25 [.agg (v0 a0),.fn 34 [.ref 1000 0]] [(1000,.blk 3 [.int .i64 a1])] (.agg (v0 r)) [(1000,.blk 3 [.int .i64 a1])]:=by
 refine fN (rs:=[.agg (v0 r)]) func25 M ntmps25 (nle M) fun O hO=>?_
 show IWP _ _ _ _ ⟨[(0,.agg (v0 a0)),(1,.fn 34 [.ref 1000 0])],[(1000,.blk 3 [.int .i64 a1])]⟩ _
 unfold fG at h
 refine aC (aA M (bV (cs:=q9) 0 M M (lb M) M (svA q9 M) M M)<|aA M (bI (cs:=q10) (cs':=(w38 0 [] 0 ([]:List aL) ([]:List aI) false false false false 0 [] ([]:List aU) 0 [] 0 0)) 1 M M (lb M) M ti38 M M (.k (.k (.k (.cons (.nils _) (.cons (.nils _) (.k4 (.k (.k (.cons (.nils _) (.all _)))))))))))<|aB ?_)
 refine aW ?_
 obtain ⟨x1,hx1,h⟩:=aZ h
 obtain ⟨x2,hx2,h⟩:=aS h
 refine aC (aA M (lra q9 la38 M M M M M (nle M) M)<|aA M (aX (r:=.int _ _) M M (lb M) cl16 (.cons (svA q9 M) .nil) M (eL _ _ hx1))<|aA M (aP M M (lb M) (svI M) (sv (d:=.int _ 0) M) M hx2)<|aB ?_)
 refine aR (b:=_) M (fun hc3=>?_) (fun hc3=>?_)
 ·
  replace h:=bS h hc3
  obtain ⟨x4,hx4,h⟩:=aZ h
  refine bE (aA M (aK M M (lb M) (sv (d:=.fn 34 [.ref _ _]) M))<|aA M (faR 0 M M M underlying38 M ti28 (lb M) M M)<|aA M (lra q14 la28 M M M M M (nle M) M)<|aA M (tM (r':=.agg (v3 x4)) (H1':=[(1000,.blk 3 [.int .i64 a1])]) 2 [1000] M M (lb M) cl34 (sv (d:=.fn 34 [.ref _ _]) M) (.cons (svA q14 M) .nil) M M ⟨M,M,by decide,M,List.forall_mem_cons.2 ⟨⟨M,M,M,M⟩,List.forall_mem_nil _⟩⟩ (sR _ _ _ hx4) M M (List.forall_mem_cons.2 ⟨⟨M,M⟩,List.forall_mem_nil _⟩) M)<|aA M (faR 0 M M M underlying38 M ti28 (lb M) M M)<|aA M (stA q14 q9 ti28 M M M M M M M M (nle M) M)<|cB ?_)
  refine aM ?_
  refine aC (aA M (lra q9 la38 M M M M M (nle M) M)<|aA M (stA q9 q9 ti38 M M M M M M M M (nle M) M)<|aB ?_)
  refine aT ?_
  obtain rfl:=sj_ h
  refine ⟨.inr M,(fun i=>i),⟨.nil,(.cons (.blk M M M) .nil),cA [1000] M (by decide),fun _ _=>M⟩,(.cons (rva la38 M M (nle M) M) .nil),M⟩
 ·
  replace h:=bT h hc3
  refine aV ?_
  refine aM ?_
  refine aC (aA M (lra q9 la38 M M M M M (nle M) M)<|aA M (stA q9 q9 ti38 M M M M M M M M (nle M) M)<|aB ?_)
  refine aT ?_
  obtain rfl:=sj_ h
  refine ⟨.inr M,(fun i=>i),⟨.nil,(.cons (.blk M M M) .nil),cA [1000] M (by decide),fun _ _=>M⟩,(.cons (rva la38 M M (nle M) M) .nil),M⟩

theorem nU (a0:bB) (a1:Int) (r:bB) (h:hT a0 a1=some r):cJ prog 12 [.agg (v0 a0),.int .i64 a1] (.agg (v0 r)):=by
 refine bC (rs:=[.agg (v0 r)]) func12 M ntmps12 (nle M) M fun O hO=>?_
 show IWP _ _ _ _ ⟨[(0,.agg (v0 a0)),(1,.int .i64 a1)],[]⟩ _
 unfold hT at h
 refine aC (aA M (bV (cs:=q9) 0 M M (lb M) M (svA q9 M) M M)<|aA M (bV (cs:=[.int _ _]) 1 M M (lb M) M (svI M) M M)<|aA M (bI (cs:=q10) (cs':=(w38 0 [] 0 ([]:List aL) ([]:List aI) false false false false 0 [] ([]:List aU) 0 [] 0 0)) 2 M M (lb M) M ti38 M M (.k (.k (.k (.cons (.nils _) (.cons (.nils _) (.k4 (.k (.k (.cons (.nils _) (.all _)))))))))))<|aB ?_)
 obtain ⟨x1,hx1,h⟩:=aZ h
 refine aC (aA M (lra q9 la38 M M M M M (nle M) M)<|aA M (lD M M (lb M) (.cons (svR M) .nil))<|aA M (eN (r':=.agg (v0 x1)) (H1':=[(1,.blk 3 [.int .i64 a1])]) 3 [1] M M (lb M) cl25 (.cons (svA q9 M) (.cons (sv (d:=.fn 34 [.ref _ _]) M) .nil)) M M ⟨M,M,by decide,M,List.forall_mem_cons.2 ⟨⟨M,M,M,M⟩,List.forall_mem_nil _⟩⟩ (nA _ _ _ hx1) M M (List.forall_mem_cons.2 ⟨⟨M,M⟩,List.forall_mem_nil _⟩) M)<|aA M (stA q9 q9 ti38 M M M M M M M M (nle M) M)<|aB ?_)
 refine aT ?_
 obtain rfl:=sj_ h
 refine ⟨.inr M,(.cons (rva la38 M M (nle M) M) .nil)⟩

theorem oM (a0:bB) (r:Int) (h:kI a0=some r):cJ prog 13 [.agg (v0 a0)] (.int .i64 r):=by
 refine bC (rs:=[.int .i64 r]) func13 M ntmps13 (nle M) M fun O hO=>?_
 show IWP _ _ _ _ ⟨[(0,.agg (v0 a0))],[]⟩ _
 unfold kI at h
 refine aC (aA M (bV (cs:=q9) 0 M M (lb M) M (svA q9 M) M M)<|aA M (aE M M (lb M) (sv (d:=.int _ 0) M))<|aB ?_)
 refine aC (aA M (faR 9 M M M underlying38 M ti33 (lb M) M M)<|aA M (faR 9 M M M underlying33 M ti31 (lb M) M M)<|aA M (faR 9 M M M underlying31 M ti3 (lb M) M M)<|aA M (aG (d:=.int _ _) M M (lb M) underlying3 ag3 ti3 (by decide) (svR M) M (nle M) M)<|aA M (asI M M M M)<|aB ?_)
 refine aT ?_
 obtain rfl:=sj_ h
 refine ⟨.inr M,(.cons (sv M) .nil)⟩

theorem aBk (a0:aY) (a1:Int) (r:Bool) (h:rF a0 a1=some r):cJ prog 42 [.agg (v3 a0),.int .i64 a1] (.bool r):=by
 refine bC (rs:=[.bool r]) func42 M ntmps42 (nle M) M fun O hO=>?_
 show IWP _ _ _ _ ⟨[(0,.agg (v3 a0)),(1,.int .i64 a1)],[]⟩ _
 unfold rF at h
 refine aC (aA M (bV (cs:=q14) 0 M M (lb M) M (svA q14 M) M M)<|aA M (aE M M (lb M) (sv (d:=.bool false) M))<|aB ?_)
 refine aW ?_
 obtain ⟨x1,hx1,h⟩:=aZ h
 obtain ⟨x2,hx2,h⟩:=aS h
 refine aC (aA M (lra q14 la28 M M M M M (nle M) M)<|aA M (aX (r:=.int _ _) M M (lb M) cl39 (.cons (svA q14 M) .nil) M (mC _ _ hx1))<|aA M (aP M M (lb M) (svI M) (sv (d:=.int _ 0) M) M hx2)<|aB ?_)
 refine aR (b:=_) M (fun hc3=>?_) (fun hc3=>?_)
 ·
  replace h:=bS h hc3
  refine aC (aA M (aE M M (lb M) (sv (d:=.bool false) M))<|aB ?_)
  refine aT ?_
  refine bA ?_
  obtain rfl:=sj_ h
  refine ⟨.inr M,(.cons (sv M) .nil)⟩
 ·
  replace h:=bT h hc3
  refine aV ?_
  refine aM ?_
  obtain ⟨x4,hx4,h⟩:=aZ h
  refine aC (aA M (lra q14 la28 M M M M M (nle M) M)<|aA M (mvI M M M M)<|aA M (aX (r:=.tuple q36) M M (lb M) cl53 (.cons (svA q14 M) (.cons (sv (d:=.int _ 1) M) (.cons (svI M) .nil))) M (pU _ _ _ _ hx4))<|aA M (aK M M (lb M) (sv (d:=.tuple q36) M))<|aA M (bD (d:=.agg q19) M M (lb M) (sv (d:=.tuple q36) M) M)<|aA M (bD (d:=.bool _) M M (lb M) (sv (d:=.tuple q36) M) M)<|aA M (bI (cs:=q19) (cs':=(w44 0 0 0 false)) 1 M M (lb M) M ti52 M M (.all _))<|aA M (stA q19 q19 ti52 M M M M M M M M (nle M) M)<|aA M (asB M M M M)<|aB ?_)
  refine aC (aA M (mvB M M M M)<|aA M (asB M M M M)<|aB ?_)
  refine aT ?_
  obtain rfl:=sj_ h
  refine ⟨.inr M,(.cons (sv M) .nil)⟩

theorem nE (a0:bB) (r:Bool) (h:hG a0=some r):cJ prog 17 [.agg (v0 a0)] (.bool r):=by
 refine bC (rs:=[.bool r]) func17 M ntmps17 (nle M) M fun O hO=>?_
 show IWP _ _ _ _ ⟨[(0,.agg (v0 a0))],[]⟩ _
 unfold hG at h
 refine aC (aA M (bV (cs:=q9) 0 M M (lb M) M (svA q9 M) M M)<|aA M (aE M M (lb M) (sv (d:=.bool false) M))<|aB ?_)
 obtain ⟨x1,hx1,h⟩:=aZ h
 obtain ⟨x2,hx2,h⟩:=aS h
 obtain ⟨x3,hx3,h⟩:=aZ h
 obtain ⟨x4,hx4,h⟩:=aS h
 refine aC (aA M (lra q9 la38 M M M M M (nle M) M)<|aA M (aX (r:=.int _ _) M M (lb M) cl16 (.cons (svA q9 M) .nil) M (eL _ _ hx1))<|aA M (aP M M (lb M) (svI M) (sv (d:=.int _ 0) M) M hx2)<|aA M (mvB M M M M)<|aF M M (.one M) M (by decide) (fun hb=>(faR 0 M M M underlying38 M ti28 (lb M) M M))<|aF M M (.one M) M (by decide) (fun hb=>(bY (cs:=q14) M M (lb M) underlying28 ag28 ti28 (by decide) (svcR M hb) M (nle M) M))<|aF M M (.one M) M (by decide) (fun hb=>(aX (r:=.bool _) M M (lb M) cl42 (.cons (svcA (v3 a0.Send) M hb) (.cons (sv (d:=.int _ 1099511627776) M) .nil)) M (aBk _ _ _ (gd_t hx3 hb))))<|aA M (cC M M (lb M) (svB M) M M hx4)<|aA M (asB M M M M)<|aB ?_)
 refine aT ?_
 obtain rfl:=sj_ h
 refine ⟨.inr M,(.cons (sv M) .nil)⟩

theorem lN (a0:(List aL)) (a1:(List aL)) (r:Bool) (h:fO a0 a1=some r):cJ prog 75 [.slice false (a0.map aD.d),.slice false (a1.map aD.d)] (.bool r):=by
 refine bC (rs:=[.bool r]) func75 M ntmps75 (nle M) M fun O hO=>?_
 show IWP _ _ _ _ ⟨[(0,.slice false (a0.map aD.d)),(1,.slice false (a1.map aD.d))],[]⟩ _
 unfold fO at h
 refine aC (aA M (aE M M (lb M) (sv (d:=.bool false) M))<|aB ?_)
 refine aW ?_
 obtain ⟨x1,hx1,h⟩:=aS h
 refine aC (aA M (mvL M M M M)<|aA M (cN aD (l:=a0) M M (lb M) underlying24 (svL M))<|aA M (mvL M M M M)<|aA M (cN aD (l:=a1) M M (lb M) underlying24 (svL M))<|aA M (aP M M (lb M) (svI M) (svI M) M hx1)<|aB ?_)
 refine aR (b:=_) M (fun hc2=>?_) (fun hc2=>?_)
 ·
  replace h:=bS h hc2
  refine aC (aA M (aE M M (lb M) (sv (d:=.bool false) M))<|aB ?_)
  refine aT ?_
  refine bA ?_
  obtain rfl:=sj_ h
  refine ⟨.inr M,(.cons (sv M) .nil)⟩
 ·
  replace h:=bT h hc2
  refine aV ?_
  refine aM ?_
  refine aW ?_
  refine aC (aA M (mvL M M M M)<|aA M (cN aD (l:=a0) M M (lb M) underlying24 (svL M))<|aA M (aK M M (lb M) (sv (d:=.int _ 0) M))<|aB ?_)
  refine bG ?_
  refine dA (α:=Nat × Int) (fun z=>⟨[(0,.slice false (a0.map aD.d)),(1,.slice false (a1.map aD.d)),(12,.int .i64 (a0.length:Int)),(13,.int .i64 z.2)],[]⟩) (fun z=>dV a0 a1 z.1 z.2=some r) (fun z=>z.1) (fuel,0) (fun i=>i) ⟨(.sames M M),.nil,cA [] M (by decide),fun _ _=>M⟩ ?_ ?_
  ·exact h
  ·
   rintro ⟨n0,v10⟩ h
   cases n0 with
   | zero=>exact absurd h (by unfold dV; exact nofun)
   | succ n0 =>
    unfold dV at h
    obtain ⟨x18,hx18,h⟩:=aS h
    refine aC (aA M (aP M M (lb M) (svI M) (svI M) M hx18)<|aB ?_)
    refine aW ?_
    refine aR (b:=_) M (fun hc19=>?_) (fun hc19=>?_)
    ·
     replace h:=bS h hc19
     refine aV ?_
     refine aM ?_
     refine aW ?_
     refine bG ?_
     refine aC (aA M (mvI M M M M)<|aA M (asI M M M M)<|aB ?_)
     obtain ⟨x20,hx20,h⟩:=aZ h
     obtain ⟨x21,hx21,h⟩:=aZ h
     obtain ⟨x22,hx22,h⟩:=aS h
     refine dH M [⟨[0],[],[(16,.slice false (a0.map aD.d))],[]⟩,
      ⟨[5],[],[(17,.int .i64 v10)],[]⟩,
      ⟨[16,17],[],[(18,.fptr (v7 x20))],[]⟩,
      ⟨[18],[],[(19,.agg (v7 x20))],[]⟩,
      ⟨[1],[],[(20,.slice false (a1.map aD.d))],[]⟩,
      ⟨[5],[],[(21,.int .i64 v10)],[]⟩,
      ⟨[20,21],[],[(22,.fptr (v7 x21))],[]⟩,
      ⟨[22],[],[(23,.agg (v7 x21))],[]⟩,
      ⟨[19,23],[],[(24,.bool (!x22))],[]⟩] M ?_ (by kernel_rfl) ?_
     ·refine .cons (lop M M fun S hA=>(aK M M (lb M) (svaL hA M M))) ?_
      refine .cons (lop M M fun S hA=>(aK M M (lb M) (svaI hA M M))) ?_
      refine .cons (lop M M fun S hA=>(dB aD (cs:=q19) M M (lb M) underlying24 ti52 (svaL hA M M) (svaI hA M M) hx20 M M)) ?_
      refine .cons (lop M M fun S hA=>(cX (cs:=q19) M M (lb M) underlying52 ag52 ti52 (by decide) (sv (d:=.fptr q19) (agr hA M M)) (nle M) M)) ?_
      refine .cons (lop M M fun S hA=>(aK M M (lb M) (svaL hA M M))) ?_
      refine .cons (lop M M fun S hA=>(aK M M (lb M) (svaI hA M M))) ?_
      refine .cons (lop M M fun S hA=>(dB aD (cs:=q19) M M (lb M) underlying24 ti52 (svaL hA M M) (svaI hA M M) hx21 M M)) ?_
      refine .cons (lop M M fun S hA=>(cX (cs:=q19) M M (lb M) underlying52 ag52 ti52 (by decide) (sv (d:=.fptr q19) (agr hA M M)) (nle M) M)) ?_
      refine .cons (lop M M fun S hA=>(xY M M (lb M) underlying52 st52.1 st52.2 (svaA q19 hA M M) (svaA q19 hA M M) (congrArg some hx22))) ?_
      exact .nil
     refine aR (b:=_) M (fun hc23=>?_) (fun hc23=>?_)
     ·
      replace h:=bS h hc23
      refine aC (aA M (aE M M (lb M) (sv (d:=.bool false) M))<|aB ?_)
      refine aT ?_
      refine bP ?_
      refine bA ?_
      refine bA ?_
      refine bP ?_
      refine bA ?_
      obtain rfl:=sj_ h
      refine ⟨.inr M,(.cons (sv M) .nil)⟩
     ·
      replace h:=bT h hc23
      refine aV ?_
      refine bZ ?_
      refine aM ?_
      obtain ⟨x24,hx24,h⟩:=aS h
      refine bE (aA M (bN M M (lb M) (svI M) (sv (d:=.int _ 1) M) M hx24)<|aA M (mvI M M M M)<|cB ?_)
      refine aM ⟨(n0,x24),(fun i=>i),⟨(.sames M M),.nil,cA [] M (by decide),fun _ _=>M⟩,?_,?_⟩
      exact h
      exact Nat.lt_succ_self _
    ·
     replace h:=bT h hc19
     refine cQ ?_
     refine bJ ?_
     refine bJ ?_
     refine cR ?_
     refine aM ?_
     refine aC (aA M (aE M M (lb M) (sv (d:=.bool true) M))<|aB ?_)
     refine aT ?_
     obtain rfl:=sj_ h
     refine ⟨.inr M,(.cons (sv M) .nil)⟩

theorem aBl (a0:aY) (a1:aY) (r:Bool) (h:xF a0 a1=some r):cJ prog 43 [.agg (v3 a0),.agg (v3 a1)] (.bool r):=by
 refine bC (rs:=[.bool r]) func43 M ntmps43 (nle M) M fun O hO=>?_
 show IWP _ _ _ _ ⟨[(0,.agg (v3 a0)),(1,.agg (v3 a1))],[]⟩ _
 unfold xF at h
 refine aC (aA M (bV (cs:=q14) 0 M M (lb M) M (svA q14 M) M M)<|aA M (bV (cs:=q14) 1 M M (lb M) M (svA q14 M) M M)<|aA M (aE M M (lb M) (sv (d:=.bool false) M))<|aB ?_)
 refine aW ?_
 obtain ⟨x1,hx1,h⟩:=aZ h
 obtain ⟨x2,hx2,h⟩:=aZ h
 obtain ⟨x3,hx3,h⟩:=aS h
 refine aC (aA M (faR 3 M M M underlying28 M ti24 (lb M) M M)<|aA M (lrL la24 M M M M M (nle M) M)<|aA M (faR 3 M M M underlying28 M ti24 (lb M) M M)<|aA M (lrL la24 M M M M M (nle M) M)<|aA M (aX (r:=.bool _) M M (lb M) cl75 (.cons (svL M) (.cons (svL M) .nil)) M (lN _ _ _ hx1))<|aA M (dN M M (lb M) (svB M))<|aA M (mvB M M M M)<|aF M M (.one M) M (by decide) (fun hb=>(faR 4 M M M underlying28 M ti26 (lb M) M M))<|aF M M (.one M) M (by decide) (fun hb=>(aG (d:=.slice _ _) M M (lb M) underlying26 ag26 ti26 (by decide) (svcR M hb) M (nle M) M))<|aF M M (.one M) M (by decide) (fun hb=>(faR 4 M M M underlying28 M ti26 (lb M) M M))<|aF M M (.one M) M (by decide) (fun hb=>(aG (d:=.slice _ _) M M (lb M) underlying26 ag26 ti26 (by decide) (svcR M hb) M (nle M) M))<|aF M M (.one M) M (by decide) (fun hb=>(aX (r:=.bool _) M M (lb M) cl76 (.cons (svcL M hb) (.cons (svcL M hb) .nil)) M (vZ _ _ _ (gd_t hx2 hb))))<|aF M M (.one M) M (by decide) (fun hb=>(dN M M (lb M) (svcB M hb)))<|aA M (dT M M (lb M) (svB M) M M hx3)<|aB ?_)
 refine aR (b:=_) M (fun hc4=>?_) (fun hc4=>?_)
 ·
  replace h:=bS h hc4
  refine aC (aA M (aE M M (lb M) (sv (d:=.bool false) M))<|aB ?_)
  refine aT ?_
  refine bA ?_
  obtain rfl:=sj_ h
  refine ⟨.inr M,(.cons (sv M) .nil)⟩
 ·
  replace h:=bT h hc4
  refine aV ?_
  refine aM ?_
  obtain ⟨x5,hx5,h⟩:=aS h
  obtain ⟨x6,hx6,h⟩:=aS h
  obtain ⟨x7,hx7,h⟩:=aS h
  obtain ⟨x8,hx8,h⟩:=aS h
  obtain ⟨x9,hx9,h⟩:=aS h
  obtain ⟨x10,hx10,h⟩:=aS h
  obtain ⟨x11,hx11,h⟩:=aS h
  refine aC (aA M (faR 5 M M M underlying28 M ti4 (lb M) M M)<|aA M (aG (d:=.bool _) M M (lb M) underlying4 ag4 ti4 (by decide) (svR M) M (nle M) M)<|aA M (faR 5 M M M underlying28 M ti4 (lb M) M M)<|aA M (aG (d:=.bool _) M M (lb M) underlying4 ag4 ti4 (by decide) (svR M) M (nle M) M)<|aA M (uR M M (lb M) underlying4 (svB M) (svB M) hx5)<|aA M (mvB M M M M)<|aF M M (.one M) M (by decide) (fun hb=>(faR 6 M M M underlying28 M ti4 (lb M) M M))<|aF M M (.one M) M (by decide) (fun hb=>(aG (d:=.bool _) M M (lb M) underlying4 ag4 ti4 (by decide) (svcR M hb) M (nle M) M))<|aF M M (.one M) M (by decide) (fun hb=>(faR 6 M M M underlying28 M ti4 (lb M) M M))<|aF M M (.one M) M (by decide) (fun hb=>(aG (d:=.bool _) M M (lb M) underlying4 ag4 ti4 (by decide) (svcR M hb) M (nle M) M))<|aF M M (.one M) M (by decide) (fun hb=>(uR M M (lb M) underlying4 (svcB M hb) (svcB M hb) hx6))<|aA M (cC M M (lb M) (svB M) M M hx7)<|aA M (mvB M M M M)<|aF M M (.one M) M (by decide) (fun hb=>(faR 7 M M M underlying28 M ti4 (lb M) M M))<|aF M M (.one M) M (by decide) (fun hb=>(aG (d:=.bool _) M M (lb M) underlying4 ag4 ti4 (by decide) (svcR M hb) M (nle M) M))<|aF M M (.one M) M (by decide) (fun hb=>(faR 7 M M M underlying28 M ti4 (lb M) M M))<|aF M M (.one M) M (by decide) (fun hb=>(aG (d:=.bool _) M M (lb M) underlying4 ag4 ti4 (by decide) (svcR M hb) M (nle M) M))<|aF M M (.one M) M (by decide) (fun hb=>(uR M M (lb M) underlying4 (svcB M hb) (svcB M hb) hx8))<|aA M (cC M M (lb M) (svB M) M M hx9)<|aA M (mvB M M M M)<|aF M M (.one M) M (by decide) (fun hb=>(faR 8 M M M underlying28 M ti4 (lb M) M M))<|aF M M (.one M) M (by decide) (fun hb=>(aG (d:=.bool _) M M (lb M) underlying4 ag4 ti4 (by decide) (svcR M hb) M (nle M) M))<|aF M M (.one M) M (by decide) (fun hb=>(faR 8 M M M underlying28 M ti4 (lb M) M M))<|aF M M (.one M) M (by decide) (fun hb=>(aG (d:=.bool _) M M (lb M) underlying4 ag4 ti4 (by decide) (svcR M hb) M (nle M) M))<|aF M M (.one M) M (by decide) (fun hb=>(uR M M (lb M) underlying4 (svcB M hb) (svcB M hb) hx10))<|aA M (cC M M (lb M) (svB M) M M hx11)<|aA M (asB M M M M)<|aB ?_)
  obtain ⟨x12,hx12,h⟩:=aS h
  obtain ⟨x13,hx13,h⟩:=aS h
  obtain ⟨x14,hx14,h⟩:=aS h
  obtain ⟨x15,hx15,h⟩:=aS h
  obtain ⟨x16,hx16,h⟩:=aS h
  obtain ⟨x17,hx17,h⟩:=aS h
  refine aC (aA M (mvB M M M M)<|aA M (mvB M M M M)<|aF M M (.one M) M (by decide) (fun hb=>(faR 0 M M M underlying28 M ti3 (lb M) M M))<|aF M M (.one M) M (by decide) (fun hb=>(aG (d:=.int _ _) M M (lb M) underlying3 ag3 ti3 (by decide) (svcR M hb) M (nle M) M))<|aF M M (.one M) M (by decide) (fun hb=>(faR 0 M M M underlying28 M ti3 (lb M) M M))<|aF M M (.one M) M (by decide) (fun hb=>(aG (d:=.int _ _) M M (lb M) underlying3 ag3 ti3 (by decide) (svcR M hb) M (nle M) M))<|aF M M (.one M) M (by decide) (fun hb=>(aP M M (lb M) (svcI M hb) (svcI M hb) M hx12))<|aA M (cC M M (lb M) (svB M) M M hx13)<|aA M (mvB M M M M)<|aF M M (.one M) M (by decide) (fun hb=>(faR 1 M M M underlying28 M ti9 (lb M) M M))<|aF M M (.one M) M (by decide) (fun hb=>(aG (d:=.str _) M M (lb M) underlying9 ag9 ti9 (by decide) (svcR M hb) M (nle M) M))<|aF M M (.one M) M (by decide) (fun hb=>(faR 1 M M M underlying28 M ti9 (lb M) M M))<|aF M M (.one M) M (by decide) (fun hb=>(aG (d:=.str _) M M (lb M) underlying9 ag9 ti9 (by decide) (svcR M hb) M (nle M) M))<|aF M M (.one M) M (by decide) (fun hb=>(jC M M (lb M) (svc (d:=.str _) M hb) (svc (d:=.str _) M hb) M hx14))<|aA M (cC M M (lb M) (svB M) M M hx15)<|aA M (mvB M M M M)<|aF M M (.one M) M (by decide) (fun hb=>(faR 2 M M M underlying28 M ti3 (lb M) M M))<|aF M M (.one M) M (by decide) (fun hb=>(aG (d:=.int _ _) M M (lb M) underlying3 ag3 ti3 (by decide) (svcR M hb) M (nle M) M))<|aF M M (.one M) M (by decide) (fun hb=>(faR 2 M M M underlying28 M ti3 (lb M) M M))<|aF M M (.one M) M (by decide) (fun hb=>(aG (d:=.int _ _) M M (lb M) underlying3 ag3 ti3 (by decide) (svcR M hb) M (nle M) M))<|aF M M (.one M) M (by decide) (fun hb=>(aP M M (lb M) (svcI M hb) (svcI M hb) M hx16))<|aA M (cC M M (lb M) (svB M) M M hx17)<|aA M (asB M M M M)<|aB ?_)
  refine aT ?_
  obtain rfl:=sj_ h
  refine ⟨.inr M,(.cons (sv M) .nil)⟩

theorem lO (a0:(List aU)) (a1:(List aU)) (r:Bool) (h:fP a0 a1=some r):cJ prog 111 [.slice false (a0.map aN.d),.slice false (a1.map aN.d)] (.bool r):=by
 refine bC (rs:=[.bool r]) func111 M ntmps111 (nle M) M fun O hO=>?_
 show IWP _ _ _ _ ⟨[(0,.slice false (a0.map aN.d)),(1,.slice false (a1.map aN.d))],[]⟩ _
 unfold fP at h
 refine aC (aA M (aE M M (lb M) (sv (d:=.bool false) M))<|aB ?_)
 refine aW ?_
 obtain ⟨x1,hx1,h⟩:=aS h
 refine aC (aA M (mvL M M M M)<|aA M (cN aN (l:=a0) M M (lb M) underlying29 (svL M))<|aA M (mvL M M M M)<|aA M (cN aN (l:=a1) M M (lb M) underlying29 (svL M))<|aA M (aP M M (lb M) (svI M) (svI M) M hx1)<|aB ?_)
 refine aR (b:=_) M (fun hc2=>?_) (fun hc2=>?_)
 ·
  replace h:=bS h hc2
  refine aC (aA M (aE M M (lb M) (sv (d:=.bool false) M))<|aB ?_)
  refine aT ?_
  refine bA ?_
  obtain rfl:=sj_ h
  refine ⟨.inr M,(.cons (sv M) .nil)⟩
 ·
  replace h:=bT h hc2
  refine aV ?_
  refine aM ?_
  refine aW ?_
  refine aC (aA M (mvL M M M M)<|aA M (cN aN (l:=a0) M M (lb M) underlying29 (svL M))<|aA M (aK M M (lb M) (sv (d:=.int _ 0) M))<|aB ?_)
  refine bG ?_
  refine dA (α:=Nat × Int) (fun z=>⟨[(0,.slice false (a0.map aN.d)),(1,.slice false (a1.map aN.d)),(12,.int .i64 (a0.length:Int)),(13,.int .i64 z.2)],[]⟩) (fun z=>dW a0 a1 z.1 z.2=some r) (fun z=>z.1) (fuel,0) (fun i=>i) ⟨(.sames M M),.nil,cA [] M (by decide),fun _ _=>M⟩ ?_ ?_
  ·exact h
  ·
   rintro ⟨n0,v10⟩ h
   cases n0 with
   | zero=>exact absurd h (by unfold dW; exact nofun)
   | succ n0 =>
    unfold dW at h
    obtain ⟨x18,hx18,h⟩:=aS h
    refine aC (aA M (aP M M (lb M) (svI M) (svI M) M hx18)<|aB ?_)
    refine aW ?_
    refine aR (b:=_) M (fun hc19=>?_) (fun hc19=>?_)
    ·
     replace h:=bS h hc19
     refine aV ?_
     refine aM ?_
     refine aW ?_
     refine bG ?_
     refine aC (aA M (mvI M M M M)<|aA M (asI M M M M)<|aB ?_)
     obtain ⟨x20,hx20,h⟩:=aZ h
     obtain ⟨x21,hx21,h⟩:=aZ h
     obtain ⟨x22,hx22,h⟩:=aS h
     refine dH M [⟨[0],[],[(16,.slice false (a0.map aN.d))],[]⟩,
      ⟨[5],[],[(17,.int .i64 v10)],[]⟩,
      ⟨[16,17],[],[(18,.fptr [.int .i64 x20.At,.str x20.Data])],[]⟩,
      ⟨[18],[],[(19,.agg [.int .i64 x20.At,.str x20.Data])],[]⟩,
      ⟨[1],[],[(20,.slice false (a1.map aN.d))],[]⟩,
      ⟨[5],[],[(21,.int .i64 v10)],[]⟩,
      ⟨[20,21],[],[(22,.fptr [.int .i64 x21.At,.str x21.Data])],[]⟩,
      ⟨[22],[],[(23,.agg [.int .i64 x21.At,.str x21.Data])],[]⟩,
      ⟨[19,23],[],[(24,.bool (!x22))],[]⟩] M ?_ (by kernel_rfl) ?_
     ·refine .cons (lop M M fun S hA=>(aK M M (lb M) (svaL hA M M))) ?_
      refine .cons (lop M M fun S hA=>(aK M M (lb M) (svaI hA M M))) ?_
      refine .cons (lop M M fun S hA=>(dB aN (cs:=q28) M M (lb M) underlying29 gR (svaL hA M M) (svaI hA M M) hx20 M M)) ?_
      refine .cons (lop M M fun S hA=>(cX (cs:=q28) M M (lb M) underlying165 vC gR (by decide) (sv (d:=.fptr q28) (agr hA M M)) (nle M) M)) ?_
      refine .cons (lop M M fun S hA=>(aK M M (lb M) (svaL hA M M))) ?_
      refine .cons (lop M M fun S hA=>(aK M M (lb M) (svaI hA M M))) ?_
      refine .cons (lop M M fun S hA=>(dB aN (cs:=q28) M M (lb M) underlying29 gR (svaL hA M M) (svaI hA M M) hx21 M M)) ?_
      refine .cons (lop M M fun S hA=>(cX (cs:=q28) M M (lb M) underlying165 vC gR (by decide) (sv (d:=.fptr q28) (agr hA M M)) (nle M) M)) ?_
      refine .cons (lop M M fun S hA=>(xY M M (lb M) underlying165 st165.1 st165.2 (svaA q28 hA M M) (svaA q28 hA M M) (congrArg some hx22))) ?_
      exact .nil
     refine aR (b:=_) M (fun hc23=>?_) (fun hc23=>?_)
     ·
      replace h:=bS h hc23
      refine aC (aA M (aE M M (lb M) (sv (d:=.bool false) M))<|aB ?_)
      refine aT ?_
      refine bP ?_
      refine bA ?_
      refine bA ?_
      refine bP ?_
      refine bA ?_
      obtain rfl:=sj_ h
      refine ⟨.inr M,(.cons (sv M) .nil)⟩
     ·
      replace h:=bT h hc23
      refine aV ?_
      refine bZ ?_
      refine aM ?_
      obtain ⟨x24,hx24,h⟩:=aS h
      refine bE (aA M (bN M M (lb M) (svI M) (sv (d:=.int _ 1) M) M hx24)<|aA M (mvI M M M M)<|cB ?_)
      refine aM ⟨(n0,x24),(fun i=>i),⟨(.sames M M),.nil,cA [] M (by decide),fun _ _=>M⟩,?_,?_⟩
      exact h
      exact Nat.lt_succ_self _
    ·
     replace h:=bT h hc19
     refine cQ ?_
     refine bJ ?_
     refine bJ ?_
     refine cR ?_
     refine aM ?_
     refine aC (aA M (aE M M (lb M) (sv (d:=.bool true) M))<|aB ?_)
     refine aT ?_
     obtain rfl:=sj_ h
     refine ⟨.inr M,(.cons (sv M) .nil)⟩

theorem aA2 (a0:bM) (a1:bM) (r:Bool) (h:vH a0 a1=some r):cJ prog 77 [.agg (v6 a0),.agg (v6 a1)] (.bool r):=by
 refine bC (rs:=[.bool r]) func77 M ntmps77 (nle M) M fun O hO=>?_
 show IWP _ _ _ _ ⟨[(0,.agg (v6 a0)),(1,.agg (v6 a1))],[]⟩ _
 unfold vH at h
 refine aC (aA M (bV (cs:=q21) 0 M M (lb M) M (svA q21 M) M M)<|aA M (bV (cs:=q21) 1 M M (lb M) M (svA q21 M) M M)<|aA M (aE M M (lb M) (sv (d:=.bool false) M))<|aB ?_)
 obtain ⟨x1,hx1,h⟩:=aS h
 obtain ⟨x2,hx2,h⟩:=aS h
 obtain ⟨x3,hx3,h⟩:=aS h
 obtain ⟨x4,hx4,h⟩:=aZ h
 obtain ⟨x5,hx5,h⟩:=aS h
 refine aC (aA M (faR 0 M M M underlying31 M ti3 (lb M) M M)<|aA M (aG (d:=.int _ _) M M (lb M) underlying3 ag3 ti3 (by decide) (svR M) M (nle M) M)<|aA M (faR 0 M M M underlying31 M ti3 (lb M) M M)<|aA M (aG (d:=.int _ _) M M (lb M) underlying3 ag3 ti3 (by decide) (svR M) M (nle M) M)<|aA M (aP M M (lb M) (svI M) (svI M) M hx1)<|aA M (mvB M M M M)<|aF M M (.one M) M (by decide) (fun hb=>(faR 1 M M M underlying31 M ti9 (lb M) M M))<|aF M M (.one M) M (by decide) (fun hb=>(aG (d:=.str _) M M (lb M) underlying9 ag9 ti9 (by decide) (svcR M hb) M (nle M) M))<|aF M M (.one M) M (by decide) (fun hb=>(faR 1 M M M underlying31 M ti9 (lb M) M M))<|aF M M (.one M) M (by decide) (fun hb=>(aG (d:=.str _) M M (lb M) underlying9 ag9 ti9 (by decide) (svcR M hb) M (nle M) M))<|aF M M (.one M) M (by decide) (fun hb=>(jC M M (lb M) (svc (d:=.str _) M hb) (svc (d:=.str _) M hb) M hx2))<|aA M (cC M M (lb M) (svB M) M M hx3)<|aA M (mvB M M M M)<|aF M M (.one M) M (by decide) (fun hb=>(faR 2 M M M underlying31 M ti29 (lb M) M M))<|aF M M (.one M) M (by decide) (fun hb=>(aG (d:=.slice _ _) M M (lb M) underlying29 ag29 ti29 (by decide) (svcR M hb) M (nle M) M))<|aF M M (.one M) M (by decide) (fun hb=>(faR 2 M M M underlying31 M ti29 (lb M) M M))<|aF M M (.one M) M (by decide) (fun hb=>(aG (d:=.slice _ _) M M (lb M) underlying29 ag29 ti29 (by decide) (svcR M hb) M (nle M) M))<|aF M M (.one M) M (by decide) (fun hb=>(aX (r:=.bool _) M M (lb M) cl111 (.cons (svcL M hb) (.cons (svcL M hb) .nil)) M (lO _ _ _ (gd_t hx4 hb))))<|aA M (cC M M (lb M) (svB M) M M hx5)<|aA M (asB M M M M)<|aB ?_)
 refine aT ?_
 obtain rfl:=sj_ h
 refine ⟨.inr M,(.cons (sv M) .nil)⟩

theorem aBr (a0:bX) (a1:bX) (r:Bool) (h:xL a0 a1=some r):cJ prog 44 [.agg (v5 a0),.agg (v5 a1)] (.bool r):=by
 refine bC (rs:=[.bool r]) func44 M ntmps44 (nle M) M fun O hO=>?_
 show IWP _ _ _ _ ⟨[(0,.agg (v5 a0)),(1,.agg (v5 a1))],[]⟩ _
 unfold xL at h
 refine aC (aA M (bV (cs:=q18) 0 M M (lb M) M (svA q18 M) M M)<|aA M (bV (cs:=q18) 1 M M (lb M) M (svA q18 M) M M)<|aA M (aE M M (lb M) (sv (d:=.bool false) M))<|aB ?_)
 obtain ⟨x1,hx1,h⟩:=aS h
 obtain ⟨x2,hx2,h⟩:=aZ h
 obtain ⟨x3,hx3,h⟩:=aS h
 refine aC (aA M (faR 3 M M M underlying33 M ti3 (lb M) M M)<|aA M (aG (d:=.int _ _) M M (lb M) underlying3 ag3 ti3 (by decide) (svR M) M (nle M) M)<|aA M (faR 3 M M M underlying33 M ti3 (lb M) M M)<|aA M (aG (d:=.int _ _) M M (lb M) underlying3 ag3 ti3 (by decide) (svR M) M (nle M) M)<|aA M (aP M M (lb M) (svI M) (svI M) M hx1)<|aA M (mvB M M M M)<|aF M M (.one M) M (by decide) (fun hb=>(faR 0 M M M underlying33 M ti31 (lb M) M M))<|aF M M (.one M) M (by decide) (fun hb=>(bY (cs:=q21) M M (lb M) underlying31 ag31 ti31 (by decide) (svcR M hb) M (nle M) M))<|aF M M (.one M) M (by decide) (fun hb=>(faR 0 M M M underlying33 M ti31 (lb M) M M))<|aF M M (.one M) M (by decide) (fun hb=>(bY (cs:=q21) M M (lb M) underlying31 ag31 ti31 (by decide) (svcR M hb) M (nle M) M))<|aF M M (.one M) M (by decide) (fun hb=>(aX (r:=.bool _) M M (lb M) cl77 (.cons (svcA (v6 a0.Recv) M hb) (.cons (svcA (v6 a1.Recv) M hb) .nil)) M (aA2 _ _ _ (gd_t hx2 hb))))<|aA M (cC M M (lb M) (svB M) M M hx3)<|aA M (asB M M M M)<|aB ?_)
 refine aT ?_
 obtain rfl:=sj_ h
 refine ⟨.inr M,(.cons (sv M) .nil)⟩

theorem sW (a0:bB) (a1:bB) (r:Bool) (h:pF a0 a1=some r):cJ prog 18 [.agg (v0 a0),.agg (v0 a1)] (.bool r):=by
 refine bC (rs:=[.bool r]) func18 M ntmps18 (nle M) M fun O hO=>?_
 show IWP _ _ _ _ ⟨[(0,.agg (v0 a0)),(1,.agg (v0 a1))],[]⟩ _
 unfold pF at h
 refine aC (aA M (bV (cs:=q9) 0 M M (lb M) M (svA q9 M) M M)<|aA M (bV (cs:=q9) 1 M M (lb M) M (svA q9 M) M M)<|aA M (aE M M (lb M) (sv (d:=.bool false) M))<|aB ?_)
 obtain ⟨x1,hx1,h⟩:=aS h
 obtain ⟨x2,hx2,h⟩:=aZ h
 obtain ⟨x3,hx3,h⟩:=aS h
 obtain ⟨x4,hx4,h⟩:=aZ h
 obtain ⟨x5,hx5,h⟩:=aS h
 refine aC (aA M (faR 13 M M M underlying38 M ti36 (lb M) M M)<|aA M (lra q24 la36 M M M M M (nle M) M)<|aA M (faR 13 M M M underlying38 M ti36 (lb M) M M)<|aA M (lra q24 la36 M M M M M (nle M) M)<|aA M (iop_eqs M M (lb M) underlying36 st36.1 st36.2 (svA q24 M) (svA q24 M) (congrArg some hx1))<|aA M (mvB M M M M)<|aF M M (.one M) M (by decide) (fun hb=>(faR 0 M M M underlying38 M ti28 (lb M) M M))<|aF M M (.one M) M (by decide) (fun hb=>(bY (cs:=q14) M M (lb M) underlying28 ag28 ti28 (by decide) (svcR M hb) M (nle M) M))<|aF M M (.one M) M (by decide) (fun hb=>(faR 0 M M M underlying38 M ti28 (lb M) M M))<|aF M M (.one M) M (by decide) (fun hb=>(bY (cs:=q14) M M (lb M) underlying28 ag28 ti28 (by decide) (svcR M hb) M (nle M) M))<|aF M M (.one M) M (by decide) (fun hb=>(aX (r:=.bool _) M M (lb M) cl43 (.cons (svcA (v3 a0.Send) M hb) (.cons (svcA (v3 a1.Send) M hb) .nil)) M (aBl _ _ _ (gd_t hx2 hb))))<|aA M (cC M M (lb M) (svB M) M M hx3)<|aA M (mvB M M M M)<|aF M M (.one M) M (by decide) (fun hb=>(faR 9 M M M underlying38 M ti33 (lb M) M M))<|aF M M (.one M) M (by decide) (fun hb=>(bY (cs:=q18) M M (lb M) underlying33 ag33 ti33 (by decide) (svcR M hb) M (nle M) M))<|aF M M (.one M) M (by decide) (fun hb=>(faR 9 M M M underlying38 M ti33 (lb M) M M))<|aF M M (.one M) M (by decide) (fun hb=>(bY (cs:=q18) M M (lb M) underlying33 ag33 ti33 (by decide) (svcR M hb) M (nle M) M))<|aF M M (.one M) M (by decide) (fun hb=>(aX (r:=.bool _) M M (lb M) cl44 (.cons (svcA (v5 a0.Recv) M hb) (.cons (svcA (v5 a1.Recv) M hb) .nil)) M (aBr _ _ _ (gd_t hx4 hb))))<|aA M (cC M M (lb M) (svB M) M M hx5)<|aA M (asB M M M M)<|aB ?_)
 refine aT ?_
 obtain rfl:=sj_ h
 refine ⟨.inr M,(.cons (sv M) .nil)⟩

theorem lX  (r:Bool) (h:hY=some r):cJ prog 5 [] (.bool r):=by
 refine bC (rs:=[.bool r]) func5 M ntmps5 (nle M) M fun O hO=>?_
 show IWP _ _ _ _ ⟨[],[]⟩ _
 unfold hY at h
 refine aC (aA M (aE M M (lb M) (sv (d:=.bool false) M))<|aB ?_)
 obtain ⟨x1,hx1,h⟩:=aZ h
 obtain ⟨x2,hx2,h⟩:=aZ h
 refine aC (aA M (aX (r:=.agg q9) M M (lb M) cl6 .nil M (oB  _ hx1))<|aA M (qP (d':=.agg (w39 6 false 0 0 0 0 7 0 ([]:List bL) [])) (cF (cs:=q13) M M (lb M) underlying50 ti50 pl50 M (.cons (sv (d:=.int _ 6) M) (.cons (sv (d:=.int _ 7) M) .nil)) M) (.agg (.k4 (.k4 (.cons (.nils _) (.all _))))))<|aA M (aX (r:=.tuple q37) M M (lb M) cl8 (.cons (svA q9 M) (.cons (svA q12 M) .nil)) M (pI _ _ _ hx2))<|aA M (aK M M (lb M) (sv (d:=.tuple q37) M))<|aA M (bD (d:=.agg q9) M M (lb M) (sv (d:=.tuple q37) M) M)<|aA M (bD (d:=.int _ _) M M (lb M) (sv (d:=.tuple q37) M) M)<|aA M (bI (cs:=q10) (cs':=(w38 0 [] 0 ([]:List aL) ([]:List aI) false false false false 0 [] ([]:List aU) 0 [] 0 0)) 0 M M (lb M) M ti38 M M (.k (.k (.k (.cons (.nils _) (.cons (.nils _) (.k4 (.k (.k (.cons (.nils _) (.all _)))))))))))<|aA M (stA q9 q9 ti38 M M M M M M M M (nle M) M)<|aA M (asI M M M M)<|aB ?_)
 obtain ⟨x3,hx3,h⟩:=aZ h
 refine aC (aA M (lra q9 la38 M M M M M (nle M) M)<|aA M (qP (d':=.agg (w39 9 false 0 0 0 0 0 0 ([]:List bL) [])) (cF (cs:=q13) M M (lb M) underlying50 ti50 pl50 M (.cons (sv (d:=.int _ 9) M) .nil) M) (.agg (.k4 (.k4 (.cons (.nils _) (.all _))))))<|aA M (aX (r:=.tuple q37) M M (lb M) cl8 (.cons (svA q9 M) (.cons (svA q12 M) .nil)) M (pI _ _ _ hx3))<|aA M (aK M M (lb M) (sv (d:=.tuple q37) M))<|aA M (bD (d:=.agg q9) M M (lb M) (sv (d:=.tuple q37) M) M)<|aA M (bD (d:=.int _ _) M M (lb M) (sv (d:=.tuple q37) M) M)<|aA M (bI (cs:=q10) (cs':=(w38 0 [] 0 ([]:List aL) ([]:List aI) false false false false 0 [] ([]:List aU) 0 [] 0 0)) 1 M M (lb M) M ti38 M M (.k (.k (.k (.cons (.nils _) (.cons (.nils _) (.k4 (.k (.k (.cons (.nils _) (.all _)))))))))))<|aA M (stA q9 q9 ti38 M M M M M M M M (nle M) M)<|aA M (asI M M M M)<|aB ?_)
 obtain ⟨x4,hx4,h⟩:=aZ h
 refine aC (aA M (lra q9 la38 M M M M M (nle M) M)<|aA M (aX (r:=.tuple q31) M M (lb M) cl9 (.cons (svA q9 M) (.cons (sv (d:=.int _ 1) M) (.cons (sv (d:=.int _ 3) M) .nil))) M (nF _ _ _ _ hx4))<|aA M (aK M M (lb M) (sv (d:=.tuple q31) M))<|aA M (bD (d:=.agg q9) M M (lb M) (sv (d:=.tuple q31) M) M)<|aA M (bD (d:=.agg q19) M M (lb M) (sv (d:=.tuple q31) M) M)<|aA M (bD (d:=.str _) M M (lb M) (sv (d:=.tuple q31) M) M)<|aA M (bD (d:=.bool _) M M (lb M) (sv (d:=.tuple q31) M) M)<|aA M (bI (cs:=q10) (cs':=(w38 0 [] 0 ([]:List aL) ([]:List aI) false false false false 0 [] ([]:List aU) 0 [] 0 0)) 2 M M (lb M) M ti38 M M (.k (.k (.k (.cons (.nils _) (.cons (.nils _) (.k4 (.k (.k (.cons (.nils _) (.all _)))))))))))<|aA M (bI (cs:=q19) (cs':=(w44 0 0 0 false)) 3 M M (lb M) M ti52 M M (.all _))<|aA M (stA q9 q9 ti38 M M M M M M M M (nle M) M)<|aA M (stA q19 q19 ti52 M M M M M M M M (nle M) M)<|aA M (aE M M (lb M) (sv (d:=.str _) M))<|aA M (asB M M M M)<|aB ?_)
 obtain ⟨x5,hx5,h⟩:=aZ h
 refine aC (aA M (lra q9 la38 M M M M M (nle M) M)<|aA M (aX (r:=.tuple q31) M M (lb M) cl9 (.cons (svA q9 M) (.cons (sv (d:=.int _ 2) M) (.cons (sv (d:=.int _ 9) M) .nil))) M (nF _ _ _ _ hx5))<|aA M (aK M M (lb M) (sv (d:=.tuple q31) M))<|aA M (bD (d:=.agg q9) M M (lb M) (sv (d:=.tuple q31) M) M)<|aA M (bD (d:=.agg q19) M M (lb M) (sv (d:=.tuple q31) M) M)<|aA M (bD (d:=.str _) M M (lb M) (sv (d:=.tuple q31) M) M)<|aA M (bD (d:=.bool _) M M (lb M) (sv (d:=.tuple q31) M) M)<|aA M (bI (cs:=q10) (cs':=(w38 0 [] 0 ([]:List aL) ([]:List aI) false false false false 0 [] ([]:List aU) 0 [] 0 0)) 4 M M (lb M) M ti38 M M (.k (.k (.k (.cons (.nils _) (.cons (.nils _) (.k4 (.k (.k (.cons (.nils _) (.all _)))))))))))<|aA M (bI (cs:=q19) (cs':=(w44 0 0 0 false)) 5 M M (lb M) M ti52 M M (.all _))<|aA M (stA q9 q9 ti38 M M M M M M M M (nle M) M)<|aA M (stA q19 q19 ti52 M M M M M M M M (nle M) M)<|aA M (aE M M (lb M) (sv (d:=.str _) M))<|aA M (asB M M M M)<|aB ?_)
 obtain ⟨x6,hx6,h⟩:=aZ h
 obtain ⟨x7,hx7,h⟩:=aZ h
 refine aC (aA M (aX (r:=.agg q9) M M (lb M) cl6 .nil M (oB  _ hx6))<|aA M (aK M M (lb M) (sv (d:=.str _) M))<|aA M (aX (r:=.tuple q32) M M (lb M) cl10 (.cons (svA q9 M) (.cons (sv (d:=.int _ 3) M) (.cons (sv (d:=.str _) M) .nil))) M (kL _ _ _ _ hx7))<|aA M (aK M M (lb M) (sv (d:=.tuple q32) M))<|aA M (bD (d:=.agg q9) M M (lb M) (sv (d:=.tuple q32) M) M)<|aA M (bD (d:=.slice _ _) M M (lb M) (sv (d:=.tuple q32) M) M)<|aA M (bD (d:=.int _ _) M M (lb M) (sv (d:=.tuple q32) M) M)<|aA M (bI (cs:=q10) (cs':=(w38 0 [] 0 ([]:List aL) ([]:List aI) false false false false 0 [] ([]:List aU) 0 [] 0 0)) 6 M M (lb M) M ti38 M M (.k (.k (.k (.cons (.nils _) (.cons (.nils _) (.k4 (.k (.k (.cons (.nils _) (.all _)))))))))))<|aA M (stA q9 q9 ti38 M M M M M M M M (nle M) M)<|aA M (aE M M (lb M) (svL M))<|aA M (asI M M M M)<|aB ?_)
 obtain ⟨x8,hx8,h⟩:=aZ h
 refine aC (aA M (lra q9 la38 M M M M M (nle M) M)<|aA M (aK M M (lb M) (sv (d:=.str _) M))<|aA M (aX (r:=.tuple q32) M M (lb M) cl10 (.cons (svA q9 M) (.cons (sv (d:=.int _ 0) M) (.cons (sv (d:=.str _) M) .nil))) M (kL _ _ _ _ hx8))<|aA M (aK M M (lb M) (sv (d:=.tuple q32) M))<|aA M (bD (d:=.agg q9) M M (lb M) (sv (d:=.tuple q32) M) M)<|aA M (bD (d:=.slice _ _) M M (lb M) (sv (d:=.tuple q32) M) M)<|aA M (bD (d:=.int _ _) M M (lb M) (sv (d:=.tuple q32) M) M)<|aA M (bI (cs:=q10) (cs':=(w38 0 [] 0 ([]:List aL) ([]:List aI) false false false false 0 [] ([]:List aU) 0 [] 0 0)) 7 M M (lb M) M ti38 M M (.k (.k (.k (.cons (.nils _) (.cons (.nils _) (.k4 (.k (.k (.cons (.nils _) (.all _)))))))))))<|aA M (stA q9 q9 ti38 M M M M M M M M (nle M) M)<|aA M (aE M M (lb M) (svL M))<|aA M (asI M M M M)<|aB ?_)
 obtain ⟨x9,hx9,h⟩:=aZ h
 refine aC (aA M (lra q9 la38 M M M M M (nle M) M)<|aA M (aX (r:=.tuple q32) M M (lb M) cl10 (.cons (svA q9 M) (.cons (sv (d:=.int _ 4) M) (.cons (sv (d:=.str [4,1,0,10,0,2,0,0]) M) .nil))) M (kL _ _ _ _ hx9))<|aA M (aK M M (lb M) (sv (d:=.tuple q32) M))<|aA M (bD (d:=.agg q9) M M (lb M) (sv (d:=.tuple q32) M) M)<|aA M (bD (d:=.slice _ _) M M (lb M) (sv (d:=.tuple q32) M) M)<|aA M (bD (d:=.int _ _) M M (lb M) (sv (d:=.tuple q32) M) M)<|aA M (bI (cs:=q10) (cs':=(w38 0 [] 0 ([]:List aL) ([]:List aI) false false false false 0 [] ([]:List aU) 0 [] 0 0)) 8 M M (lb M) M ti38 M M (.k (.k (.k (.cons (.nils _) (.cons (.nils _) (.k4 (.k (.k (.cons (.nils _) (.all _)))))))))))<|aA M (stA q9 q9 ti38 M M M M M M M M (nle M) M)<|aA M (aE M M (lb M) (svL M))<|aA M (asI M M M M)<|aB ?_)
 obtain ⟨x10,hx10,h⟩:=aZ h
 refine aC (aA M (lra q9 la38 M M M M M (nle M) M)<|aA M (aX (r:=.agg q9) M M (lb M) cl14 (.cons (svA q9 M) (.cons (sv (d:=.int _ 1) M) .nil)) M (pJ _ _ _ hx10))<|aA M (bI (cs:=q10) (cs':=(w38 0 [] 0 ([]:List aL) ([]:List aI) false false false false 0 [] ([]:List aU) 0 [] 0 0)) 9 M M (lb M) M ti38 M M (.k (.k (.k (.cons (.nils _) (.cons (.nils _) (.k4 (.k (.k (.cons (.nils _) (.all _)))))))))))<|aA M (stA q9 q9 ti38 M M M M M M M M (nle M) M)<|aB ?_)
 obtain ⟨x11,hx11,h⟩:=aZ h
 refine aC (aA M (lra q9 la38 M M M M M (nle M) M)<|aA M (aX (r:=.agg q9) M M (lb M) cl12 (.cons (svA q9 M) (.cons (sv (d:=.int _ 4) M) .nil)) M (nU _ _ _ hx11))<|aA M (bI (cs:=q10) (cs':=(w38 0 [] 0 ([]:List aL) ([]:List aI) false false false false 0 [] ([]:List aU) 0 [] 0 0)) 10 M M (lb M) M ti38 M M (.k (.k (.k (.cons (.nils _) (.cons (.nils _) (.k4 (.k (.k (.cons (.nils _) (.all _)))))))))))<|aA M (stA q9 q9 ti38 M M M M M M M M (nle M) M)<|aB ?_)
 obtain ⟨x12,hx12,h⟩:=aS h
 obtain ⟨x13,hx13,h⟩:=aS h
 obtain ⟨x14,hx14,h⟩:=aS h
 obtain ⟨x15,hx15,h⟩:=aS h
 obtain ⟨x16,hx16,h⟩:=aS h
 obtain ⟨x17,hx17,h⟩:=aS h
 obtain ⟨x18,hx18,h⟩:=aS h
 obtain ⟨x19,hx19,h⟩:=aS h
 obtain ⟨x20,hx20,h⟩:=aS h
 obtain ⟨x21,hx21,h⟩:=aS h
 obtain ⟨x22,hx22,h⟩:=aS h
 obtain ⟨x23,hx23,h⟩:=aS h
 obtain ⟨x24,hx24,h⟩:=aS h
 obtain ⟨x25,hx25,h⟩:=aS h
 obtain ⟨x26,hx26,h⟩:=aS h
 obtain ⟨x27,hx27,h⟩:=aS h
 obtain ⟨x28,hx28,h⟩:=aS h
 obtain ⟨x29,hx29,h⟩:=aS h
 obtain ⟨x30,hx30,h⟩:=aS h
 obtain ⟨x31,hx31,h⟩:=aZ h
 obtain ⟨x32,hx32,h⟩:=aS h
 obtain ⟨x33,hx33,h⟩:=aS h
 obtain ⟨x34,hx34,h⟩:=aS h
 obtain ⟨x35,hx35,h⟩:=aS h
 obtain ⟨x36,hx36,h⟩:=aZ h
 obtain ⟨x37,hx37,h⟩:=aS h
 obtain ⟨x38,hx38,h⟩:=aS h
 obtain ⟨x39,hx39,h⟩:=aS h
 obtain ⟨x40,hx40,h⟩:=aS h
 obtain ⟨x41,hx41,h⟩:=aZ h
 obtain ⟨x42,hx42,h⟩:=aS h
 obtain ⟨x43,hx43,h⟩:=aS h
 obtain ⟨x44,hx44,h⟩:=aS h
 obtain ⟨x45,hx45,h⟩:=aZ h
 obtain ⟨x46,hx46,h⟩:=aS h
 obtain ⟨x47,hx47,h⟩:=aZ h
 obtain ⟨x48,hx48,h⟩:=aS h
 obtain ⟨x49,hx49,h⟩:=aS h
 obtain ⟨x50,hx50,h⟩:=aS h
 obtain ⟨x51,hx51,h⟩:=aZ h
 obtain ⟨x52,hx52,h⟩:=aS h
 obtain ⟨x53,hx53,h⟩:=aZ h
 obtain ⟨x54,hx54,h⟩:=aS h
 obtain ⟨x55,hx55,h⟩:=aS h
 obtain ⟨x56,hx56,h⟩:=aZ h
 obtain ⟨x57,hx57,h⟩:=aS h
 obtain ⟨x58,hx58,h⟩:=aS h
 obtain ⟨x59,hx59,h⟩:=aZ h
 obtain ⟨x60,hx60,h⟩:=aS h
 obtain ⟨x61,hx61,h⟩:=aZ h
 obtain ⟨x62,hx62,h⟩:=aS h
 obtain ⟨x63,hx63,h⟩:=aS h
 obtain ⟨x64,hx64,h⟩:=aS h
 obtain ⟨x65,hx65,h⟩:=aS h
 obtain ⟨x66,hx66,h⟩:=aS h
 obtain ⟨x67,hx67,h⟩:=aS h
 refine aC (aA M (mvI M M M M)<|aA M (aP M M (lb M) (svI M) (sv (d:=.int _ 0) M) M hx12)<|aA M (mvB M M M M)<|aF M M (.one M) M (by decide) (fun hb=>(mvI M M M M))<|aF M M (.one M) M (by decide) (fun hb=>(aP M M (lb M) (svcI M hb) (sv (d:=.int _ 12) M) M hx13))<|aA M (cC M M (lb M) (svB M) M M hx14)<|aA M (mvB M M M M)<|aF M M (.one M) M (by decide) (fun hb=>(mvB M M M M))<|aA M (cC M M (lb M) (svB M) M M hx15)<|aA M (mvB M M M M)<|aF M M (.one M) M (by decide) (fun hb=>(faR 1 M M M underlying52 M ti3 (lb M) M M))<|aF M M (.one M) M (by decide) (fun hb=>(aG (d:=.int _ _) M M (lb M) underlying3 ag3 ti3 (by decide) (svcR M hb) M (nle M) M))<|aF M M (.one M) M (by decide) (fun hb=>(aP M M (lb M) (svcI M hb) (sv (d:=.int _ 3) M) M hx16))<|aA M (cC M M (lb M) (svB M) M M hx17)<|aA M (mvB M M M M)<|aF M M (.one M) M (by decide) (fun hb=>(aK M M (lb M) (sv (d:=.str _) M)))<|aF M M (.one M) M (by decide) (fun hb=>(jC M M (lb M) (svc (d:=.str _) M hb) (sv (d:=.str [6,0,1]) M) M hx18))<|aA M (cC M M (lb M) (svB M) M M hx19)<|aA M (mvB M M M M)<|aF M M (.one M) M (by decide) (fun hb=>(mvB M M M M))<|aA M (cC M M (lb M) (svB M) M M hx20)<|aA M (mvB M M M M)<|aF M M (.one M) M (by decide) (fun hb=>(faR 0 M M M underlying52 M ti3 (lb M) M M))<|aF M M (.one M) M (by decide) (fun hb=>(aG (d:=.int _ _) M M (lb M) underlying3 ag3 ti3 (by decide) (svcR M hb) M (nle M) M))<|aF M M (.one M) M (by decide) (fun hb=>(aP M M (lb M) (svcI M hb) (sv (d:=.int _ 3) M) M hx21))<|aA M (cC M M (lb M) (svB M) M M hx22)<|aA M (mvB M M M M)<|aF M M (.one M) M (by decide) (fun hb=>(aK M M (lb M) (sv (d:=.str _) M)))<|aF M M (.one M) M (by decide) (fun hb=>(jC M M (lb M) (svc (d:=.str _) M hb) (sv (d:=.str [7]) M) M hx23))<|aA M (cC M M (lb M) (svB M) M M hx24)<|aA M (mvB M M M M)<|aF M M (.one M) M (by decide) (fun hb=>(mvL M M M M))<|aF M M (.one M) M (by decide) (fun hb=>(cN aQ (l:=x7.2.1) M M (lb M) underlying57 (svcL M hb)))<|aF M M (.one M) M (by decide) (fun hb=>(aP M M (lb M) (svcI M hb) (sv (d:=.int _ 0) M) M hx25))<|aA M (cC M M (lb M) (svB M) M M hx26)<|aA M (mvB M M M M)<|aF M M (.one M) M (by decide) (fun hb=>(mvI M M M M))<|aF M M (.one M) M (by decide) (fun hb=>(aP M M (lb M) (svcI M hb) (sv (d:=.int _ 0) M) M hx27))<|aA M (cC M M (lb M) (svB M) M M hx28)<|aA M (mvB M M M M)<|aF M M (.one M) M (by decide) (fun hb=>(mvL M M M M))<|aF M M (.one M) M (by decide) (fun hb=>(cN aQ (l:=x8.2.1) M M (lb M) underlying57 (svcL M hb)))<|aF M M (.one M) M (by decide) (fun hb=>(aP M M (lb M) (svcI M hb) (sv (d:=.int _ 1) M) M hx29))<|aA M (cC M M (lb M) (svB M) M M hx30)<|aA M (mvB M M M M)<|aF M M (.one M) M (by decide) (fun hb=>(mvL M M M M))<|aF M M (.one M) M (by decide) (fun hb=>(dB aQ (cs:=q12) M M (lb M) underlying57 ti50 (svcL M hb) (sv (d:=.int _ 0) M) (gd_t hx31 hb) M M))<|aF M M (.one M) M (by decide) (fun hb=>(cV (cs':=[.int _ _]) M M (lb M) underlying50 M ti3 (by decide) (svc (d:=.fptr q12) M hb) M))<|aF M M (.one M) M (by decide) (fun hb=>(eB M M (lb M) underlying3 ag3 ti3 (by decide) (svc (d:=.fptr [.int _ _]) M hb) (nle M)))<|aF M M (.one M) M (by decide) (fun hb=>(aP M M (lb M) (svcI M hb) (sv (d:=.int _ 7) M) M hx32))<|aA M (cC M M (lb M) (svB M) M M hx33)<|aA M (mvB M M M M)<|aF M M (.one M) M (by decide) (fun hb=>(mvI M M M M))<|aF M M (.one M) M (by decide) (fun hb=>(aP M M (lb M) (svcI M hb) (sv (d:=.int _ 0) M) M hx34))<|aA M (cC M M (lb M) (svB M) M M hx35)<|aA M (mvB M M M M)<|aF M M (.one M) M (by decide) (fun hb=>(lra q9 la38 M M M M M (nle M) M))<|aF M M (.one M) M (by decide) (fun hb=>(aX (r:=.int _ _) M M (lb M) cl13 (.cons (svcA (v0 x8.1) M hb) .nil) M (oM _ _ (gd_t hx36 hb))))<|aF M M (.one M) M (by decide) (fun hb=>(aP M M (lb M) (svcI M hb) (sv (d:=.int _ 4) M) M hx37))<|aA M (cC M M (lb M) (svB M) M M hx38)<|aA M (mvB M M M M)<|aF M M (.one M) M (by decide) (fun hb=>(mvL M M M M))<|aF M M (.one M) M (by decide) (fun hb=>(cN aQ (l:=x9.2.1) M M (lb M) underlying57 (svcL M hb)))<|aF M M (.one M) M (by decide) (fun hb=>(aP M M (lb M) (svcI M hb) (sv (d:=.int _ 1) M) M hx39))<|aA M (cC M M (lb M) (svB M) M M hx40)<|aA M (mvB M M M M)<|aF M M (.one M) M (by decide) (fun hb=>(mvL M M M M))<|aF M M (.one M) M (by decide) (fun hb=>(dB aQ (cs:=q12) M M (lb M) underlying57 ti50 (svcL M hb) (sv (d:=.int _ 0) M) (gd_t hx41 hb) M M))<|aF M M (.one M) M (by decide) (fun hb=>(cV (cs':=[.bool _]) M M (lb M) underlying50 M ti4 (by decide) (svc (d:=.fptr q12) M hb) M))<|aF M M (.one M) M (by decide) (fun hb=>(eB M M (lb M) underlying4 ag4 ti4 (by decide) (svc (d:=.fptr [.bool _]) M hb) (nle M)))<|aA M (cC M M (lb M) (svB M) M M hx42)<|aA M (mvB M M M M)<|aF M M (.one M) M (by decide) (fun hb=>(mvI M M M M))<|aF M M (.one M) M (by decide) (fun hb=>(aP M M (lb M) (svcI M hb) (sv (d:=.int _ 1) M) M hx43))<|aA M (cC M M (lb M) (svB M) M M hx44)<|aA M (mvB M M M M)<|aF M M (.one M) M (by decide) (fun hb=>(lra q9 la38 M M M M M (nle M) M))<|aF M M (.one M) M (by decide) (fun hb=>(aX (r:=.bool _) M M (lb M) cl17 (.cons (svcA (v0 x10) M hb) .nil) M (nE _ _ (gd_t hx45 hb))))<|aA M (cC M M (lb M) (svB M) M M hx46)<|aA M (mvB M M M M)<|aF M M (.one M) M (by decide) (fun hb=>(lra q9 la38 M M M M M (nle M) M))<|aF M M (.one M) M (by decide) (fun hb=>(aX (r:=.bool _) M M (lb M) cl17 (.cons (svcA (v0 x5.1) M hb) .nil) M (nE _ _ (gd_t hx47 hb))))<|aF M M (.one M) M (by decide) (fun hb=>(dN M M (lb M) (svcB M hb)))<|aA M (cC M M (lb M) (svB M) M M hx48)<|aA M (mvB M M M M)<|aF M M (.one M) M (by decide) (fun hb=>(faR 0 M M M underlying38 M ti28 (lb M) M M))<|aF M M (.one M) M (by decide) (fun hb=>(aO M M (lb M) underlying28 M ti3 (by decide) (svcR M hb) (off':=0) M))<|aF M M (.one M) M (by decide) (fun hb=>(aG (d:=.int _ _) M M (lb M) underlying3 ag3 ti3 (by decide) (svcR M hb) M (nle M) M))<|aF M M (.one M) M (by decide) (fun hb=>(aP M M (lb M) (svcI M hb) (sv (d:=.int _ 4) M) M hx49))<|aA M (cC M M (lb M) (svB M) M M hx50)<|aA M (mvB M M M M)<|aF M M (.one M) M (by decide) (fun hb=>(lra q9 la38 M M M M M (nle M) M))<|aF M M (.one M) M (by decide) (fun hb=>(aX (r:=.bool _) M M (lb M) cl17 (.cons (svcA (v0 x11) M hb) .nil) M (nE _ _ (gd_t hx51 hb))))<|aF M M (.one M) M (by decide) (fun hb=>(dN M M (lb M) (svcB M hb)))<|aA M (cC M M (lb M) (svB M) M M hx52)<|aA M (mvB M M M M)<|aF M M (.one M) M (by decide) (fun hb=>(lra q9 la38 M M M M M (nle M) M))<|aF M M (.one M) M (by decide) (fun hb=>(aX (r:=.int _ _) M M (lb M) cl16 (.cons (svcA (v0 x11) M hb) .nil) M (eL _ _ (gd_t hx53 hb))))<|aF M M (.one M) M (by decide) (fun hb=>(aP M M (lb M) (svcI M hb) (sv (d:=.int _ 0) M) M hx54))<|aA M (cC M M (lb M) (svB M) M M hx55)<|aA M (mvB M M M M)<|aF M M (.one M) M (by decide) (fun hb=>(qP (d':=.agg (w38 0 [] 0 ([]:List aL) ([]:List aI) false false false false 0 [] ([]:List aU) 0 [] 0 0)) (cF (cs:=q10) M M (lb M) underlying38 ti38 pl38 M .nil M) (.agg (.k (.k (.k (.cons (.nils _) (.cons (.nils _) (.k4 (.k (.k (.cons (.nils _) (.all _)))))))))))))<|aF M M (.one M) M (by decide) (fun hb=>(aX (r:=.int _ _) M M (lb M) cl16 (.cons (svc (d:=.agg (w38 0 [] 0 ([]:List aL) ([]:List aI) false false false false 0 [] ([]:List aU) 0 [] 0 0)) M hb) .nil) M (eL _ _ (gd_t hx56 hb))))<|aF M M (.one M) M (by decide) (fun hb=>(aP M M (lb M) (svcI M hb) (sv (d:=.int _ 4) M) M hx57))<|aA M (cC M M (lb M) (svB M) M M hx58)<|aA M (mvB M M M M)<|aF M M (.one M) M (by decide) (fun hb=>(lra q9 la38 M M M M M (nle M) M))<|aF M M (.one M) M (by decide) (fun hb=>(lra q9 la38 M M M M M (nle M) M))<|aF M M (.one M) M (by decide) (fun hb=>(aX (r:=.bool _) M M (lb M) cl18 (.cons (svcA (v0 x10) M hb) (.cons (svcA (v0 x11) M hb) .nil)) M (sW _ _ _ (gd_t hx59 hb))))<|aF M M (.one M) M (by decide) (fun hb=>(dN M M (lb M) (svcB M hb)))<|aA M (cC M M (lb M) (svB M) M M hx60)<|aA M (mvB M M M M)<|aF M M (.one M) M (by decide) (fun hb=>(lra q9 la38 M M M M M (nle M) M))<|aF M M (.one M) M (by decide) (fun hb=>(lra q9 la38 M M M M M (nle M) M))<|aF M M (.one M) M (by decide) (fun hb=>(aX (r:=.bool _) M M (lb M) cl18 (.cons (svcA (v0 x11) M hb) (.cons (svcA (v0 x11) M hb) .nil)) M (sW _ _ _ (gd_t hx61 hb))))<|aA M (cC M M (lb M) (svB M) M M hx62)<|aA M (mvB M M M M)<|aA M (rV M M (lb M) (svB M) M M hx63)<|aA M (mvB M M M M)<|aA M (rV M M (lb M) (svB M) M M hx64)<|aA M (mvB M M M M)<|aA M (rV M M (lb M) (svB M) M M hx65)<|aA M (mvB M M M M)<|aA M (rV M M (lb M) (svB M) M M hx66)<|aA M (mvB M M M M)<|aA M (rV M M (lb M) (svB M) M M hx67)<|aA M (asB M M M M)<|aB ?_)
 refine aT ?_
 obtain rfl:=sj_ h
 refine ⟨.inr M,(.cons (sv M) .nil)⟩

theorem tH (a0:aH) (r:Bool) (h:lG a0=some r):cJ prog 7 [.agg (v2 a0)] (.bool r):=by
 refine bC (rs:=[.bool r]) func7 M ntmps7 (nle M) M fun O hO=>?_
 show IWP _ _ _ _ ⟨[(0,.agg (v2 a0))],[]⟩ _
 unfold lG at h
 refine aC (aA M (bV (cs:=q12) 0 M M (lb M) M (svA q12 M) M M)<|aA M (aE M M (lb M) (sv (d:=.bool false) M))<|aB ?_)
 obtain ⟨x1,hx1,h⟩:=aS h
 obtain ⟨x2,hx2,h⟩:=aS h
 obtain ⟨x3,hx3,h⟩:=aS h
 refine aC (aA M (faR 8 M M M underlying44 M ti42 (lb M) M M)<|aA M (lrL la42 M M M M M (nle M) M)<|aA M (cN bR (l:=a0.Pairs) M M (lb M) underlying42 (svL M))<|aA M (aP M M (lb M) (svI M) (sv (d:=.int _ 10) M) M hx1)<|aA M (mvB M M M M)<|aF M M (.one M) M (by decide) (fun hb=>(faR 9 M M M underlying44 M ti9 (lb M) M M))<|aF M M (.one M) M (by decide) (fun hb=>(aG (d:=.str _) M M (lb M) underlying9 ag9 ti9 (by decide) (svcR M hb) M (nle M) M))<|aF M M (.one M) M (by decide) (fun hb=>(dF M M (lb M) underlying9 (svc (d:=.str _) M hb) M))<|aF M M (.one M) M (by decide) (fun hb=>(aP M M (lb M) (svcI M hb) (sv (d:=.int _ 100) M) M hx2))<|aA M (cC M M (lb M) (svB M) M M hx3)<|aA M (asB M M M M)<|aB ?_)
 refine aT ?_
 obtain rfl:=sj_ h
 refine ⟨.inr M,(.cons (sv M) .nil)⟩

theorem nX (a0:(List aH)) (r:(List aH)) (h:gK a0=some r):cJ prog 11 [.slice false (a0.map aQ.d)] (.slice false (r.map aQ.d)):=by
 refine gW (rs:=[.slice false (r.map aQ.d)]) func11 M ntmps11 (nle M) M fun O hO=>?_
 show IWP _ _ _ _ ⟨[(0,.slice false (a0.map aQ.d))],[]⟩ _
 unfold gK at h
 refine aC (aA M (aE M M (lb M) (sv (d:=.nils) M))<|aB ?_)
 refine aC (aA M (aE M M (lb M) (sv (d:=.nils) M))<|aB ?_)
 refine aW ?_
 refine aC (aA M (aE M M (lb M) (sv (d:=.int _ 0) M))<|aB ?_)
 refine bG ?_
 refine dA (α:=Nat × (List aH) × Int) (fun z=>⟨[(0,.slice false (a0.map aQ.d)),(3,.osl 21 aQ.sz z.2.1.length),(4,.int .i64 z.2.2)],[(21,.blk 44 (D.flat (z.2.1.map aQ.d)))]⟩) (fun z=>eU a0 z.1 z.2.1 z.2.2=some r) (fun z=>z.1) (fuel,([]:(List aH)),0) (fun i=>if i=21 then 71 else i) ⟨(.s M M (.cons (.nilo M) (.sames M M))),(.cons (.nilb M) .nil),cA [71] M (by decide),(fun i hi=>by first | rfl | (show (if _ then _ else _)=_; (repeat' split) <;> omega))⟩ ?_ ?_
 ·exact h
 ·
  rintro ⟨n0,v6,v7⟩ h
  cases n0 with
  | zero=>exact absurd h (by unfold eU; exact nofun)
  | succ n0 =>
   unfold eU at h
   refine aW ?_
   obtain ⟨x13,hx13,h⟩:=aS h
   refine aC (aA M (mvI M M M M)<|aA M (mvL M M M M)<|aA M (cN aQ (l:=a0) M M (lb M) underlying57 (svL M))<|aA M (aP M M (lb M) (svI M) (svI M) M hx13)<|aB ?_)
   refine aR (b:=_) M (fun hc14=>?_) (fun hc14=>?_)
   ·
    replace h:=bS h hc14
    refine aV ?_
    refine aM ?_
    refine aW ?_
    refine bG ?_
    obtain ⟨x15,hx15,h⟩:=aZ h
    obtain ⟨x16,hx16,h⟩:=aZ h
    refine bE (aA M (aK M M (lb M) (sv (d:=.osl _ _ _) M))<|aA M (mvL M M M M)<|aA M (mvI M M M M)<|aA M (dB aQ (cs:=q12) M M (lb M) underlying57 ti50 (svL M) (svI M) hx15 M M)<|aA M (cX (cs:=q12) M M (lb M) underlying50 ag50 ti50 (by decide) (sv (d:=.fptr q12) M) (nle M) M)<|aA M (kG aQ.toEnc0 ([x15]:(List aH)) 22 M M (lb M) underlying40 ti44 M (.cons (svA q12 M) .nil) M M (by decide))<|aA M (lQ aQ.toEnc0 23 M M (lb M) underlying40 ti44 M M M M M (rD aQ.toEnc0 M M M) hx16)<|aA M (aE M M (lb M) (sv (d:=.osl _ _ _) M))<|cB ?_)
    refine bZ ?_
    refine aM ?_
    obtain ⟨x17,hx17,h⟩:=aS h
    refine bE (aA M (mvI M M M M)<|aA M (bN M M (lb M) (svI M) (sv (d:=.int _ 1) M) M hx17)<|aA M (asI M M M M)<|cB ?_)
    refine aM ⟨(n0,x16,x17),(fun i=>if i=21 then 23 else i),⟨(.sames M M),(.cons (EntW.lst M) .nil),cA [23] M (by decide),(fun i hi=>by first | rfl | (show (if _ then _ else _)=_; (repeat' split) <;> omega))⟩,?_,?_⟩
    exact h
    exact Nat.lt_succ_self _
   ·
    replace h:=bT h hc14
    refine cQ ?_
    refine bJ ?_
    refine bJ ?_
    refine cR ?_
    refine aM ?_
    refine aC (aA M (aK M M (lb M) (sv (d:=.osl _ _ _) M))<|aA M (aE M M (lb M) (sv (d:=.osl _ _ _) M))<|aB ?_)
    refine aT ?_
    obtain rfl:=sj_ h
    refine ⟨.inr M,_,(.cons (sv M) .nil),(.cons (FDT aQ M M) .nil)⟩
end Go.Proofs.YtfaflcdfgaoehaaGreat
