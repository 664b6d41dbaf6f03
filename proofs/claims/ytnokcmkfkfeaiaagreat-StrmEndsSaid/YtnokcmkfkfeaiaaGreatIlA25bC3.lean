/-
  A part of the proof: rules and plain facts. No condition.
-/
import Derived.Test.YtnokcmkfkfeaiaaGreatProg
import Derived.KernelRfl
import Derived.Test.YtnokcmkfkfeaiaaGreatIlEq
import Derived.Test.YtnokcmkfkfeaiaaGreatIlA25bD
import Derived.Test.YtnokcmkfkfeaiaaGreatIlA25bC2
set_option linter.all false
set_option maxRecDepth 8000
set_option maxHeartbeats 2000000
open Go Go.IL Go.Fn Go.Proofs
namespace Go.Proofs.YtnokcmkfkfeaiaaGreat
theorem ti5 : TI Tryz.prog 5 (some (.int .u8 0)) 1 1:=by unfold TI; kernel_rfl
theorem ti47 : TI Tryz.prog 47 (some (.slice none 0 0)) 1 24:=by unfold TI; kernel_rfl
theorem ti51 : TI Tryz.prog 51 (some (.agg #[.int .i64 0,.string ⟨#[]⟩,.bool false])) 3 32:=by unfold TI; kernel_rfl
theorem ag5 : gP Tryz.prog 5 = false:=by kernel_rfl
theorem ag47 : gP Tryz.prog 47 = false:=by kernel_rfl
theorem ag51 : gP Tryz.prog 51 = true:=by kernel_rfl
theorem pl51 : ∀ w,(Array.mapM (m:=Sem) (fun (f : Field)=>Functor.map (Prod.mk f.offset) (sizeOf f.type)) (fieldsOf Tryz.prog 51)).run Tryz.prog w = .ok #[(0,1),(1,1),(2,1)] w:=fun w=>by kernel_rfl
theorem cl12 : bH Tryz.prog 12:=⟨Tryz.f12,Tryz.func12,rfl,rfl⟩
theorem cl14 : bH Tryz.prog 14:=⟨Tryz.f14,Tryz.func14,rfl,rfl⟩
theorem cl22 : bH Tryz.prog 22:=⟨Tryz.f22,Tryz.func22,rfl,rfl⟩
theorem cl26 : bH Tryz.prog 26:=⟨Tryz.f26,Tryz.func26,rfl,rfl⟩
theorem cl28 : bH Tryz.prog 28:=⟨Tryz.f28,Tryz.func28,rfl,rfl⟩
theorem cl30 : bH Tryz.prog 30:=⟨Tryz.f30,Tryz.func30,rfl,rfl⟩
theorem cl31 : bH Tryz.prog 31:=⟨Tryz.f31,Tryz.func31,rfl,rfl⟩
theorem cl32 : bH Tryz.prog 32:=⟨Tryz.f32,Tryz.func32,rfl,rfl⟩
theorem cl33 : bH Tryz.prog 33:=⟨Tryz.f33,Tryz.func33,rfl,rfl⟩
theorem cl34 : bH Tryz.prog 34:=⟨Tryz.f34,Tryz.func34,rfl,rfl⟩
theorem cl35 : bH Tryz.prog 35:=⟨Tryz.f35,Tryz.func35,rfl,rfl⟩
theorem cl36 : bH Tryz.prog 36:=⟨Tryz.f36,Tryz.func36,rfl,rfl⟩
theorem cl37 : bH Tryz.prog 37:=⟨Tryz.f37,Tryz.func37,rfl,rfl⟩
theorem cl38 : bH Tryz.prog 38:=⟨Tryz.f38,Tryz.func38,rfl,rfl⟩
theorem cl91 : bH Tryz.prog 91:=⟨Tryz.f91,Tryz.func91,rfl,rfl⟩
theorem cl92 : bH Tryz.prog 92:=⟨Tryz.f92,Tryz.func92,rfl,rfl⟩
theorem cl93 : bH Tryz.prog 93:=⟨Tryz.f93,Tryz.func93,rfl,rfl⟩
theorem cl94 : bH Tryz.prog 94:=⟨Tryz.f94,Tryz.func94,rfl,rfl⟩
theorem cl139 : bH Tryz.prog 139:=⟨Tryz.f139,Tryz.func139,rfl,rfl⟩
theorem cl140 : bH Tryz.prog 140:=⟨Tryz.f140,Tryz.func140,rfl,rfl⟩
theorem cl141 : bH Tryz.prog 141:=⟨Tryz.f141,Tryz.func141,rfl,rfl⟩
theorem cl142 : bH Tryz.prog 142:=⟨Tryz.f142,Tryz.func142,rfl,rfl⟩
theorem cl178 : bH Tryz.prog 178:=⟨Tryz.f178,Tryz.func178,rfl,rfl⟩



theorem lS  (r : Bool) (h : fV = some r) : cF Tryz.prog 8 [] (.bool r):=by
 refine bA (rs:=[.bool r]) Tryz.func8 rfl Tryz.ntmps8 (nle rfl) rfl fun O hO=>?_
 show IWP _ _ _ _ ⟨[],[]⟩ _
 unfold fV at h
 refine aE (aA rfl (aH rfl rfl (lb rfl) (sv (d:=.bool false) rfl)) <|aD ?_)
 obtain ⟨x1,hx1,h⟩:=bF h
 refine aE (aA rfl (aU (r:=.tuple q38) rfl rfl (lb rfl) cl14 (.cons (sv (d:=.int _ 1) rfl) (.cons (sv (d:=.int _ 10) rfl) (.cons (sv (d:=.int _ 10) rfl) .nil))) rfl (mV _ _ _ _ hx1)) <|aA rfl (aM rfl rfl (lb rfl) (sv (d:=.tuple q38) rfl)) <|aA rfl (aZ (d:=.agg q13) rfl rfl (lb rfl) (sv (d:=.tuple q38) rfl) rfl) <|aA rfl (aZ (d:=.int _ _) rfl rfl (lb rfl) (sv (d:=.tuple q38) rfl) rfl) <|aA rfl (bD (cs:=q14) (cs':=(w41 0 0 [] 0 ([] : List aJ) ([] : List aG) false false false false 0 [] ([] : List aN) 0 0 0 0 0 0 0 0 0 0 0)) 0 rfl rfl (lb rfl) rfl ti46 rfl rfl (.k4 (.cons (.nils _) (.cons (.nils _) (.k4 (.k (.k (.cons (.nils _) (.all _))))))))) <|aA rfl (stA q13 q13 ti46 rfl rfl rfl rfl rfl rfl rfl rfl (nle rfl) rfl) <|aA rfl (asI rfl rfl rfl rfl) <|aD ?_)
 obtain ⟨x2,hx2,h⟩:=bF h
 refine aE (aA rfl (lra q13 la46 rfl rfl rfl rfl rfl (nle rfl) rfl) <|aA rfl (aU (r:=.tuple q34) rfl rfl (lb rfl) cl31 (.cons (svA q13 rfl) (.cons (sv (d:=.str [104,101,108,108,111]) rfl) .nil)) rfl (rE _ _ _ hx2)) <|aA rfl (aM rfl rfl (lb rfl) (sv (d:=.tuple q34) rfl)) <|aA rfl (aZ (d:=.agg q13) rfl rfl (lb rfl) (sv (d:=.tuple q34) rfl) rfl) <|aA rfl (aZ (d:=.int _ _) rfl rfl (lb rfl) (sv (d:=.tuple q34) rfl) rfl) <|aA rfl (aZ (d:=.int _ _) rfl rfl (lb rfl) (sv (d:=.tuple q34) rfl) rfl) <|aA rfl (stA q13 q13 ti46 rfl rfl rfl rfl rfl rfl rfl rfl (nle rfl) rfl) <|aA rfl (asI rfl rfl rfl rfl) <|aA rfl (asI rfl rfl rfl rfl) <|aD ?_)
 obtain ⟨x3,hx3,h⟩:=bF h
 refine aE (aA rfl (lra q13 la46 rfl rfl rfl rfl rfl (nle rfl) rfl) <|aA rfl (aU (r:=.tuple q31) rfl rfl (lb rfl) cl34 (.cons (svA q13 rfl) (.cons (sv (d:=.int _ 0) rfl) (.cons (sv (d:=.int _ 3) rfl) (.cons (sv (d:=.int _ 99) rfl) .nil)))) rfl (sR _ _ _ _ _ hx3)) <|aA rfl (aM rfl rfl (lb rfl) (sv (d:=.tuple q31) rfl)) <|aA rfl (aZ (d:=.agg q13) rfl rfl (lb rfl) (sv (d:=.tuple q31) rfl) rfl) <|aA rfl (aZ (d:=.agg q20) rfl rfl (lb rfl) (sv (d:=.tuple q31) rfl) rfl) <|aA rfl (aZ (d:=.str _) rfl rfl (lb rfl) (sv (d:=.tuple q31) rfl) rfl) <|aA rfl (aZ (d:=.bool _) rfl rfl (lb rfl) (sv (d:=.tuple q31) rfl) rfl) <|aA rfl (bD (cs:=q14) (cs':=(w41 0 0 [] 0 ([] : List aJ) ([] : List aG) false false false false 0 [] ([] : List aN) 0 0 0 0 0 0 0 0 0 0 0)) 1 rfl rfl (lb rfl) rfl ti46 rfl rfl (.k4 (.cons (.nils _) (.cons (.nils _) (.k4 (.k (.k (.cons (.nils _) (.all _))))))))) <|aA rfl (bD (cs:=q20) (cs':=(w46 0 0 0 false)) 2 rfl rfl (lb rfl) rfl dH rfl rfl (.all _)) <|aA rfl (stA q13 q13 ti46 rfl rfl rfl rfl rfl rfl rfl rfl (nle rfl) rfl) <|aA rfl (stA q20 q20 dH rfl rfl rfl rfl rfl rfl rfl rfl (nle rfl) rfl) <|aA rfl (aH rfl rfl (lb rfl) (sv (d:=.str _) rfl)) <|aA rfl (asB rfl rfl rfl rfl) <|aD ?_)
 obtain ⟨x4,hx4,h⟩:=bF h
 refine aE (aA rfl (aU (r:=.tuple q38) rfl rfl (lb rfl) cl14 (.cons (sv (d:=.int _ 1) rfl) (.cons (sv (d:=.int _ 10) rfl) (.cons (sv (d:=.int _ 10) rfl) .nil))) rfl (mV _ _ _ _ hx4)) <|aA rfl (aM rfl rfl (lb rfl) (sv (d:=.tuple q38) rfl)) <|aA rfl (aZ (d:=.agg q13) rfl rfl (lb rfl) (sv (d:=.tuple q38) rfl) rfl) <|aA rfl (aZ (d:=.int _ _) rfl rfl (lb rfl) (sv (d:=.tuple q38) rfl) rfl) <|aA rfl (bD (cs:=q14) (cs':=(w41 0 0 [] 0 ([] : List aJ) ([] : List aG) false false false false 0 [] ([] : List aN) 0 0 0 0 0 0 0 0 0 0 0)) 3 rfl rfl (lb rfl) rfl ti46 rfl rfl (.k4 (.cons (.nils _) (.cons (.nils _) (.k4 (.k (.k (.cons (.nils _) (.all _))))))))) <|aA rfl (stA q13 q13 ti46 rfl rfl rfl rfl rfl rfl rfl rfl (nle rfl) rfl) <|aA rfl (asI rfl rfl rfl rfl) <|aD ?_)
 obtain ⟨x5,hx5,h⟩:=bF h
 refine aE (aA rfl (lra q13 la46 rfl rfl rfl rfl rfl (nle rfl) rfl) <|aA rfl (aM rfl rfl (lb rfl) (sv (d:=.str _) rfl)) <|aA rfl (aU (r:=.tuple q34) rfl rfl (lb rfl) cl12 (.cons (svA q13 rfl) (.cons (sv (d:=.int _ 0) rfl) (.cons (sv (d:=.str _) rfl) (.cons (sv (d:=.bool false) rfl) .nil)))) rfl (lD _ _ _ _ _ hx5)) <|aA rfl (aM rfl rfl (lb rfl) (sv (d:=.tuple q34) rfl)) <|aA rfl (aZ (d:=.agg q13) rfl rfl (lb rfl) (sv (d:=.tuple q34) rfl) rfl) <|aA rfl (aZ (d:=.int _ _) rfl rfl (lb rfl) (sv (d:=.tuple q34) rfl) rfl) <|aA rfl (aZ (d:=.int _ _) rfl rfl (lb rfl) (sv (d:=.tuple q34) rfl) rfl) <|aA rfl (stA q13 q13 ti46 rfl rfl rfl rfl rfl rfl rfl rfl (nle rfl) rfl) <|aA rfl (asI rfl rfl rfl rfl) <|aA rfl (asI rfl rfl rfl rfl) <|aD ?_)
 obtain ⟨x6,hx6,h⟩:=bF h
 refine aE (aA rfl (lra q13 la46 rfl rfl rfl rfl rfl (nle rfl) rfl) <|aA rfl (aU (r:=.tuple q34) rfl rfl (lb rfl) cl12 (.cons (svA q13 rfl) (.cons (sv (d:=.int _ 9) rfl) (.cons (sv (d:=.str [120,121]) rfl) (.cons (sv (d:=.bool false) rfl) .nil)))) rfl (lD _ _ _ _ _ hx6)) <|aA rfl (aM rfl rfl (lb rfl) (sv (d:=.tuple q34) rfl)) <|aA rfl (aZ (d:=.agg q13) rfl rfl (lb rfl) (sv (d:=.tuple q34) rfl) rfl) <|aA rfl (aZ (d:=.int _ _) rfl rfl (lb rfl) (sv (d:=.tuple q34) rfl) rfl) <|aA rfl (aZ (d:=.int _ _) rfl rfl (lb rfl) (sv (d:=.tuple q34) rfl) rfl) <|aA rfl (bD (cs:=q14) (cs':=(w41 0 0 [] 0 ([] : List aJ) ([] : List aG) false false false false 0 [] ([] : List aN) 0 0 0 0 0 0 0 0 0 0 0)) 4 rfl rfl (lb rfl) rfl ti46 rfl rfl (.k4 (.cons (.nils _) (.cons (.nils _) (.k4 (.k (.k (.cons (.nils _) (.all _))))))))) <|aA rfl (stA q13 q13 ti46 rfl rfl rfl rfl rfl rfl rfl rfl (nle rfl) rfl) <|aA rfl (asI rfl rfl rfl rfl) <|aA rfl (asI rfl rfl rfl rfl) <|aD ?_)
 obtain ⟨x7,hx7,h⟩:=bF h
 refine aE (aA rfl (lra q13 la46 rfl rfl rfl rfl rfl (nle rfl) rfl) <|aA rfl (aU (r:=.tuple q32) rfl rfl (lb rfl) cl32 (.cons (svA q13 rfl) (.cons (sv (d:=.int _ 9) rfl) .nil)) rfl (pE _ _ _ hx7)) <|aA rfl (aM rfl rfl (lb rfl) (sv (d:=.tuple q32) rfl)) <|aA rfl (aZ (d:=.agg q13) rfl rfl (lb rfl) (sv (d:=.tuple q32) rfl) rfl) <|aA rfl (aZ (d:=.str _) rfl rfl (lb rfl) (sv (d:=.tuple q32) rfl) rfl) <|aA rfl (aZ (d:=.bool _) rfl rfl (lb rfl) (sv (d:=.tuple q32) rfl) rfl) <|aA rfl (aZ (d:=.int _ _) rfl rfl (lb rfl) (sv (d:=.tuple q32) rfl) rfl) <|aA rfl (bD (cs:=q14) (cs':=(w41 0 0 [] 0 ([] : List aJ) ([] : List aG) false false false false 0 [] ([] : List aN) 0 0 0 0 0 0 0 0 0 0 0)) 5 rfl rfl (lb rfl) rfl ti46 rfl rfl (.k4 (.cons (.nils _) (.cons (.nils _) (.k4 (.k (.k (.cons (.nils _) (.all _))))))))) <|aA rfl (stA q13 q13 ti46 rfl rfl rfl rfl rfl rfl rfl rfl (nle rfl) rfl) <|aA rfl (aH rfl rfl (lb rfl) (sv (d:=.str _) rfl)) <|aA rfl (asB rfl rfl rfl rfl) <|aA rfl (asI rfl rfl rfl rfl) <|aD ?_)
 obtain ⟨x8,hx8,h⟩:=bF h
 refine aE (aA rfl (lra q13 la46 rfl rfl rfl rfl rfl (nle rfl) rfl) <|aA rfl (aU (r:=.tuple q38) rfl rfl (lb rfl) cl33 (.cons (svA q13 rfl) .nil) rfl (oF _ _ hx8)) <|aA rfl (aM rfl rfl (lb rfl) (sv (d:=.tuple q38) rfl)) <|aA rfl (aZ (d:=.agg q13) rfl rfl (lb rfl) (sv (d:=.tuple q38) rfl) rfl) <|aA rfl (aZ (d:=.int _ _) rfl rfl (lb rfl) (sv (d:=.tuple q38) rfl) rfl) <|aA rfl (bD (cs:=q14) (cs':=(w41 0 0 [] 0 ([] : List aJ) ([] : List aG) false false false false 0 [] ([] : List aN) 0 0 0 0 0 0 0 0 0 0 0)) 6 rfl rfl (lb rfl) rfl ti46 rfl rfl (.k4 (.cons (.nils _) (.cons (.nils _) (.k4 (.k (.k (.cons (.nils _) (.all _))))))))) <|aA rfl (stA q13 q13 ti46 rfl rfl rfl rfl rfl rfl rfl rfl (nle rfl) rfl) <|aA rfl (asI rfl rfl rfl rfl) <|aD ?_)
 obtain ⟨x9,hx9,h⟩:=bF h
 obtain ⟨x10,hx10,h⟩:=bF h
 refine aE (aA rfl (lra q13 la46 rfl rfl rfl rfl rfl (nle rfl) rfl) <|aA rfl (aU (r:=.agg q13) rfl rfl (lb rfl) cl30 (.cons (svA q13 rfl) (.cons (sv (d:=.int _ 8) rfl) .nil)) rfl (tO _ _ _ hx9)) <|aA rfl (aU (r:=.tuple q38) rfl rfl (lb rfl) cl33 (.cons (svA q13 rfl) .nil) rfl (oF _ _ hx10)) <|aA rfl (aM rfl rfl (lb rfl) (sv (d:=.tuple q38) rfl)) <|aA rfl (aZ (d:=.agg q13) rfl rfl (lb rfl) (sv (d:=.tuple q38) rfl) rfl) <|aA rfl (aZ (d:=.int _ _) rfl rfl (lb rfl) (sv (d:=.tuple q38) rfl) rfl) <|aA rfl (bD (cs:=q14) (cs':=(w41 0 0 [] 0 ([] : List aJ) ([] : List aG) false false false false 0 [] ([] : List aN) 0 0 0 0 0 0 0 0 0 0 0)) 7 rfl rfl (lb rfl) rfl ti46 rfl rfl (.k4 (.cons (.nils _) (.cons (.nils _) (.k4 (.k (.k (.cons (.nils _) (.all _))))))))) <|aA rfl (stA q13 q13 ti46 rfl rfl rfl rfl rfl rfl rfl rfl (nle rfl) rfl) <|aA rfl (asI rfl rfl rfl rfl) <|aD ?_)
 obtain ⟨x11,hx11,h⟩:=bF h
 refine aE (aA rfl (lra q13 la46 rfl rfl rfl rfl rfl (nle rfl) rfl) <|aA rfl (aU (r:=.tuple q32) rfl rfl (lb rfl) cl32 (.cons (svA q13 rfl) (.cons (sv (d:=.int _ 1) rfl) .nil)) rfl (pE _ _ _ hx11)) <|aA rfl (aM rfl rfl (lb rfl) (sv (d:=.tuple q32) rfl)) <|aA rfl (aZ (d:=.agg q13) rfl rfl (lb rfl) (sv (d:=.tuple q32) rfl) rfl) <|aA rfl (aZ (d:=.str _) rfl rfl (lb rfl) (sv (d:=.tuple q32) rfl) rfl) <|aA rfl (aZ (d:=.bool _) rfl rfl (lb rfl) (sv (d:=.tuple q32) rfl) rfl) <|aA rfl (aZ (d:=.int _ _) rfl rfl (lb rfl) (sv (d:=.tuple q32) rfl) rfl) <|aA rfl (bD (cs:=q14) (cs':=(w41 0 0 [] 0 ([] : List aJ) ([] : List aG) false false false false 0 [] ([] : List aN) 0 0 0 0 0 0 0 0 0 0 0)) 8 rfl rfl (lb rfl) rfl ti46 rfl rfl (.k4 (.cons (.nils _) (.cons (.nils _) (.k4 (.k (.k (.cons (.nils _) (.all _))))))))) <|aA rfl (stA q13 q13 ti46 rfl rfl rfl rfl rfl rfl rfl rfl (nle rfl) rfl) <|aA rfl (aH rfl rfl (lb rfl) (sv (d:=.str _) rfl)) <|aA rfl (asB rfl rfl rfl rfl) <|aA rfl (asI rfl rfl rfl rfl) <|aD ?_)
 obtain ⟨x12,hx12,h⟩:=bF h
 refine aE (aA rfl (lra q13 la46 rfl rfl rfl rfl rfl (nle rfl) rfl) <|aA rfl (aU (r:=.tuple q38) rfl rfl (lb rfl) cl35 (.cons (svA q13 rfl) (.cons (sv (d:=.int _ 0) rfl) .nil)) rfl (oE _ _ _ hx12)) <|aA rfl (aM rfl rfl (lb rfl) (sv (d:=.tuple q38) rfl)) <|aA rfl (aZ (d:=.agg q13) rfl rfl (lb rfl) (sv (d:=.tuple q38) rfl) rfl) <|aA rfl (aZ (d:=.int _ _) rfl rfl (lb rfl) (sv (d:=.tuple q38) rfl) rfl) <|aA rfl (bD (cs:=q14) (cs':=(w41 0 0 [] 0 ([] : List aJ) ([] : List aG) false false false false 0 [] ([] : List aN) 0 0 0 0 0 0 0 0 0 0 0)) 9 rfl rfl (lb rfl) rfl ti46 rfl rfl (.k4 (.cons (.nils _) (.cons (.nils _) (.k4 (.k (.k (.cons (.nils _) (.all _))))))))) <|aA rfl (stA q13 q13 ti46 rfl rfl rfl rfl rfl rfl rfl rfl (nle rfl) rfl) <|aA rfl (asI rfl rfl rfl rfl) <|aD ?_)
 obtain ⟨x13,hx13,h⟩:=bF h
 refine aE (aA rfl (aU (r:=.tuple q38) rfl rfl (lb rfl) cl14 (.cons (sv (d:=.int _ 1) rfl) (.cons (sv (d:=.int _ 10) rfl) (.cons (sv (d:=.int _ 4097) rfl) .nil))) rfl (mV _ _ _ _ hx13)) <|aA rfl (aM rfl rfl (lb rfl) (sv (d:=.tuple q38) rfl)) <|aA rfl (aZ (d:=.agg q13) rfl rfl (lb rfl) (sv (d:=.tuple q38) rfl) rfl) <|aA rfl (aZ (d:=.int _ _) rfl rfl (lb rfl) (sv (d:=.tuple q38) rfl) rfl) <|aA rfl (bD (cs:=q14) (cs':=(w41 0 0 [] 0 ([] : List aJ) ([] : List aG) false false false false 0 [] ([] : List aN) 0 0 0 0 0 0 0 0 0 0 0)) 10 rfl rfl (lb rfl) rfl ti46 rfl rfl (.k4 (.cons (.nils _) (.cons (.nils _) (.k4 (.k (.k (.cons (.nils _) (.all _))))))))) <|aA rfl (stA q13 q13 ti46 rfl rfl rfl rfl rfl rfl rfl rfl (nle rfl) rfl) <|aA rfl (asI rfl rfl rfl rfl) <|aD ?_)
 obtain ⟨x14,hx14,h⟩:=aQ h
 obtain ⟨x15,hx15,h⟩:=aQ h
 obtain ⟨x16,hx16,h⟩:=aQ h
 obtain ⟨x17,hx17,h⟩:=aQ h
 obtain ⟨x18,hx18,h⟩:=aQ h
 obtain ⟨x19,hx19,h⟩:=aQ h
 obtain ⟨x20,hx20,h⟩:=aQ h
 obtain ⟨x21,hx21,h⟩:=aQ h
 obtain ⟨x22,hx22,h⟩:=aQ h
 obtain ⟨x23,hx23,h⟩:=aQ h
 obtain ⟨x24,hx24,h⟩:=aQ h
 obtain ⟨x25,hx25,h⟩:=aQ h
 obtain ⟨x26,hx26,h⟩:=aQ h
 obtain ⟨x27,hx27,h⟩:=aQ h
 obtain ⟨x28,hx28,h⟩:=aQ h
 obtain ⟨x29,hx29,h⟩:=aQ h
 obtain ⟨x30,hx30,h⟩:=aQ h
 obtain ⟨x31,hx31,h⟩:=aQ h
 obtain ⟨x32,hx32,h⟩:=aQ h
 obtain ⟨x33,hx33,h⟩:=aQ h
 obtain ⟨x34,hx34,h⟩:=aQ h
 obtain ⟨x35,hx35,h⟩:=aQ h
 obtain ⟨x36,hx36,h⟩:=aQ h
 obtain ⟨x37,hx37,h⟩:=aQ h
 obtain ⟨x38,hx38,h⟩:=aQ h
 obtain ⟨x39,hx39,h⟩:=aQ h
 obtain ⟨x40,hx40,h⟩:=aQ h
 obtain ⟨x41,hx41,h⟩:=aQ h
 obtain ⟨x42,hx42,h⟩:=aQ h
 obtain ⟨x43,hx43,h⟩:=aQ h
 obtain ⟨x44,hx44,h⟩:=aQ h
 obtain ⟨x45,hx45,h⟩:=aQ h
 obtain ⟨x46,hx46,h⟩:=aQ h
 obtain ⟨x47,hx47,h⟩:=bF h
 obtain ⟨x48,hx48,h⟩:=aQ h
 obtain ⟨x49,hx49,h⟩:=bF h
 obtain ⟨x50,hx50,h⟩:=aQ h
 obtain ⟨x51,hx51,h⟩:=bF h
 obtain ⟨x52,hx52,h⟩:=aQ h
 obtain ⟨x53,hx53,h⟩:=aQ h
 obtain ⟨x54,hx54,h⟩:=bF h
 obtain ⟨x55,hx55,h⟩:=aQ h
 obtain ⟨x56,hx56,h⟩:=bF h
 obtain ⟨x57,hx57,h⟩:=aQ h
 obtain ⟨x58,hx58,h⟩:=aQ h
 obtain ⟨x59,hx59,h⟩:=aQ h
 obtain ⟨x60,hx60,h⟩:=bF h
 obtain ⟨x61,hx61,h⟩:=aQ h
 obtain ⟨x62,hx62,h⟩:=aQ h
 obtain ⟨x63,hx63,h⟩:=bF h
 obtain ⟨x64,hx64,h⟩:=aQ h
 obtain ⟨x65,hx65,h⟩:=bF h
 obtain ⟨x66,hx66,h⟩:=aQ h
 obtain ⟨x67,hx67,h⟩:=aQ h
 obtain ⟨x68,hx68,h⟩:=aQ h
 obtain ⟨x69,hx69,h⟩:=aQ h
 obtain ⟨x70,hx70,h⟩:=aQ h
 refine aE (aA rfl (mvI rfl rfl rfl rfl) <|aA rfl (aP rfl rfl (lb rfl) (svI rfl) (sv (d:=.int _ 0) rfl) rfl hx14) <|aA rfl (mvB rfl rfl rfl rfl) <|aC rfl rfl (.one rfl) rfl (by decide) (fun hb=>(mvI rfl rfl rfl rfl)) <|aC rfl rfl (.one rfl) rfl (by decide) (fun hb=>(aP rfl rfl (lb rfl) (svcI rfl hb) (sv (d:=.int _ 5) rfl) rfl hx15)) <|aA rfl (bT rfl rfl (lb rfl) (svB rfl) rfl rfl hx16) <|aA rfl (mvB rfl rfl rfl rfl) <|aC rfl rfl (.one rfl) rfl (by decide) (fun hb=>(mvI rfl rfl rfl rfl)) <|aC rfl rfl (.one rfl) rfl (by decide) (fun hb=>(aP rfl rfl (lb rfl) (svcI rfl hb) (sv (d:=.int _ 0) rfl) rfl hx17)) <|aA rfl (bT rfl rfl (lb rfl) (svB rfl) rfl rfl hx18) <|aA rfl (mvB rfl rfl rfl rfl) <|aC rfl rfl (.one rfl) rfl (by decide) (fun hb=>(mvB rfl rfl rfl rfl)) <|aA rfl (bT rfl rfl (lb rfl) (svB rfl) rfl rfl hx19) <|aA rfl (mvB rfl rfl rfl rfl) <|aC rfl rfl (.one rfl) rfl (by decide) (fun hb=>(faR 1 rfl rfl rfl Tryz.underlying105 rfl ti3 (lb rfl) rfl rfl)) <|aC rfl rfl (.one rfl) rfl (by decide) (fun hb=>(aF (d:=.int _ _) rfl rfl (lb rfl) Tryz.underlying3 ag3 ti3 (by decide) (svcR rfl hb) rfl (nle rfl) rfl)) <|aC rfl rfl (.one rfl) rfl (by decide) (fun hb=>(aP rfl rfl (lb rfl) (svcI rfl hb) (sv (d:=.int _ 3) rfl) rfl hx20)) <|aA rfl (bT rfl rfl (lb rfl) (svB rfl) rfl rfl hx21) <|aA rfl (mvB rfl rfl rfl rfl) <|aC rfl rfl (.one rfl) rfl (by decide) (fun hb=>(aM rfl rfl (lb rfl) (sv (d:=.str _) rfl))) <|aC rfl rfl (.one rfl) rfl (by decide) (fun hb=>(jC rfl rfl (lb rfl) (svc (d:=.str _) rfl hb) (sv (d:=.str [104,101,108]) rfl) rfl hx22)) <|aA rfl (bT rfl rfl (lb rfl) (svB rfl) rfl rfl hx23) <|aA rfl (mvB rfl rfl rfl rfl) <|aC rfl rfl (.one rfl) rfl (by decide) (fun hb=>(faR 14 rfl rfl rfl Tryz.underlying46 rfl ti44 (lb rfl) rfl rfl)) <|aC rfl rfl (.one rfl) rfl (by decide) (fun hb=>(aI rfl rfl (lb rfl) Tryz.underlying44 rfl ti3 (by decide) (svcR rfl hb) (off':=16) rfl)) <|aC rfl rfl (.one rfl) rfl (by decide) (fun hb=>(aF (d:=.int _ _) rfl rfl (lb rfl) Tryz.underlying3 ag3 ti3 (by decide) (svcR rfl hb) rfl (nle rfl) rfl)) <|aC rfl rfl (.one rfl) rfl (by decide) (fun hb=>(aP rfl rfl (lb rfl) (svcI rfl hb) (sv (d:=.int _ 3) rfl) rfl hx24)) <|aA rfl (bT rfl rfl (lb rfl) (svB rfl) rfl rfl hx25) <|aA rfl (mvB rfl rfl rfl rfl) <|aC rfl rfl (.one rfl) rfl (by decide) (fun hb=>(mvI rfl rfl rfl rfl)) <|aC rfl rfl (.one rfl) rfl (by decide) (fun hb=>(aP rfl rfl (lb rfl) (svcI rfl hb) (sv (d:=.int _ 0) rfl) rfl hx26)) <|aA rfl (bT rfl rfl (lb rfl) (svB rfl) rfl rfl hx27) <|aA rfl (mvB rfl rfl rfl rfl) <|aC rfl rfl (.one rfl) rfl (by decide) (fun hb=>(mvI rfl rfl rfl rfl)) <|aC rfl rfl (.one rfl) rfl (by decide) (fun hb=>(aP rfl rfl (lb rfl) (svcI rfl hb) (sv (d:=.int _ 3) rfl) rfl hx28)) <|aA rfl (bT rfl rfl (lb rfl) (svB rfl) rfl rfl hx29) <|aA rfl (mvB rfl rfl rfl rfl) <|aC rfl rfl (.one rfl) rfl (by decide) (fun hb=>(mvI rfl rfl rfl rfl)) <|aC rfl rfl (.one rfl) rfl (by decide) (fun hb=>(aP rfl rfl (lb rfl) (svcI rfl hb) (sv (d:=.int _ 0) rfl) rfl hx30)) <|aA rfl (bT rfl rfl (lb rfl) (svB rfl) rfl rfl hx31) <|aA rfl (mvB rfl rfl rfl rfl) <|aC rfl rfl (.one rfl) rfl (by decide) (fun hb=>(mvI rfl rfl rfl rfl)) <|aC rfl rfl (.one rfl) rfl (by decide) (fun hb=>(aP rfl rfl (lb rfl) (svcI rfl hb) (sv (d:=.int _ 3) rfl) rfl hx32)) <|aA rfl (bT rfl rfl (lb rfl) (svB rfl) rfl rfl hx33) <|aA rfl (mvB rfl rfl rfl rfl) <|aC rfl rfl (.one rfl) rfl (by decide) (fun hb=>(aM rfl rfl (lb rfl) (sv (d:=.str _) rfl))) <|aC rfl rfl (.one rfl) rfl (by decide) (fun hb=>(jC rfl rfl (lb rfl) (svc (d:=.str _) rfl hb) (sv (d:=.str [104,101,108]) rfl) rfl hx34)) <|aA rfl (bT rfl rfl (lb rfl) (svB rfl) rfl rfl hx35) <|aA rfl (mvB rfl rfl rfl rfl) <|aC rfl rfl (.one rfl) rfl (by decide) (fun hb=>(mvB rfl rfl rfl rfl)) <|aC rfl rfl (.one rfl) rfl (by decide) (fun hb=>(dB rfl rfl (lb rfl) (svcB rfl hb))) <|aA rfl (bT rfl rfl (lb rfl) (svB rfl) rfl rfl hx36) <|aA rfl (mvB rfl rfl rfl rfl) <|aC rfl rfl (.one rfl) rfl (by decide) (fun hb=>(mvI rfl rfl rfl rfl)) <|aC rfl rfl (.one rfl) rfl (by decide) (fun hb=>(aP rfl rfl (lb rfl) (svcI rfl hb) (sv (d:=.int _ 0) rfl) rfl hx37)) <|aA rfl (bT rfl rfl (lb rfl) (svB rfl) rfl rfl hx38) <|aA rfl (mvB rfl rfl rfl rfl) <|aC rfl rfl (.one rfl) rfl (by decide) (fun hb=>(mvI rfl rfl rfl rfl)) <|aC rfl rfl (.one rfl) rfl (by decide) (fun hb=>(aP rfl rfl (lb rfl) (svcI rfl hb) (sv (d:=.int _ 0) rfl) rfl hx39)) <|aA rfl (bT rfl rfl (lb rfl) (svB rfl) rfl rfl hx40) <|aA rfl (mvB rfl rfl rfl rfl) <|aC rfl rfl (.one rfl) rfl (by decide) (fun hb=>(mvI rfl rfl rfl rfl)) <|aC rfl rfl (.one rfl) rfl (by decide) (fun hb=>(aP rfl rfl (lb rfl) (svcI rfl hb) (sv (d:=.int _ 0) rfl) rfl hx41)) <|aA rfl (bT rfl rfl (lb rfl) (svB rfl) rfl rfl hx42) <|aA rfl (mvB rfl rfl rfl rfl) <|aC rfl rfl (.one rfl) rfl (by decide) (fun hb=>(mvI rfl rfl rfl rfl)) <|aC rfl rfl (.one rfl) rfl (by decide) (fun hb=>(aP rfl rfl (lb rfl) (svcI rfl hb) (sv (d:=.int _ 15) rfl) rfl hx43)) <|aA rfl (bT rfl rfl (lb rfl) (svB rfl) rfl rfl hx44) <|aA rfl (mvB rfl rfl rfl rfl) <|aC rfl rfl (.one rfl) rfl (by decide) (fun hb=>(mvI rfl rfl rfl rfl)) <|aC rfl rfl (.one rfl) rfl (by decide) (fun hb=>(aP rfl rfl (lb rfl) (svcI rfl hb) (sv (d:=.int _ 3) rfl) rfl hx45)) <|aA rfl (bT rfl rfl (lb rfl) (svB rfl) rfl rfl hx46) <|aA rfl (mvB rfl rfl rfl rfl) <|aC rfl rfl (.one rfl) rfl (by decide) (fun hb=>(lra q13 la46 rfl rfl rfl rfl rfl (nle rfl) rfl)) <|aC rfl rfl (.one rfl) rfl (by decide) (fun hb=>(aU (r:=.bool _) rfl rfl (lb rfl) cl22 (.cons (svcA (v1 x10.1) rfl hb) .nil) rfl (sS _ _ (gd_t hx47 hb)))) <|aA rfl (bT rfl rfl (lb rfl) (svB rfl) rfl rfl hx48) <|aA rfl (mvB rfl rfl rfl rfl) <|aC rfl rfl (.one rfl) rfl (by decide) (fun hb=>(lra q13 la46 rfl rfl rfl rfl rfl (nle rfl) rfl)) <|aC rfl rfl (.one rfl) rfl (by decide) (fun hb=>(aU (r:=.bool _) rfl rfl (lb rfl) cl22 (.cons (svcA (v1 x8.1) rfl hb) .nil) rfl (sS _ _ (gd_t hx49 hb)))) <|aC rfl rfl (.one rfl) rfl (by decide) (fun hb=>(dB rfl rfl (lb rfl) (svcB rfl hb))) <|aA rfl (bT rfl rfl (lb rfl) (svB rfl) rfl rfl hx50) <|aA rfl (mvB rfl rfl rfl rfl) <|aC rfl rfl (.one rfl) rfl (by decide) (fun hb=>(lra q13 la46 rfl rfl rfl rfl rfl (nle rfl) rfl)) <|aC rfl rfl (.one rfl) rfl (by decide) (fun hb=>(aU (r:=.int _ _) rfl rfl (lb rfl) cl24 (.cons (svcA (v1 x8.1) rfl hb) .nil) rfl (rF _ _ (gd_t hx51 hb)))) <|aC rfl rfl (.one rfl) rfl (by decide) (fun hb=>(aP rfl rfl (lb rfl) (svcI rfl hb) (sv (d:=.int _ 2) rfl) rfl hx52)) <|aA rfl (bT rfl rfl (lb rfl) (svB rfl) rfl rfl hx53) <|aA rfl (mvB rfl rfl rfl rfl) <|aC rfl rfl (.one rfl) rfl (by decide) (fun hb=>(lra q13 la46 rfl rfl rfl rfl rfl (nle rfl) rfl)) <|aC rfl rfl (.one rfl) rfl (by decide) (fun hb=>(aU (r:=.bool _) rfl rfl (lb rfl) cl26 (.cons (svcA (v1 x3.1) rfl hb) (.cons (sv (d:=.int _ 1) rfl) .nil)) rfl (sP _ _ _ (gd_t hx54 hb)))) <|aA rfl (bT rfl rfl (lb rfl) (svB rfl) rfl rfl hx55) <|aA rfl (mvB rfl rfl rfl rfl) <|aC rfl rfl (.one rfl) rfl (by decide) (fun hb=>(lra q13 la46 rfl rfl rfl rfl rfl (nle rfl) rfl)) <|aC rfl rfl (.one rfl) rfl (by decide) (fun hb=>(aU (r:=.bool _) rfl rfl (lb rfl) cl26 (.cons (svcA (v1 x3.1) rfl hb) (.cons (sv (d:=.int _ 0) rfl) .nil)) rfl (sP _ _ _ (gd_t hx56 hb)))) <|aC rfl rfl (.one rfl) rfl (by decide) (fun hb=>(dB rfl rfl (lb rfl) (svcB rfl hb))) <|aA rfl (bT rfl rfl (lb rfl) (svB rfl) rfl rfl hx57) <|aA rfl (mvB rfl rfl rfl rfl) <|aC rfl rfl (.one rfl) rfl (by decide) (fun hb=>(mvI rfl rfl rfl rfl)) <|aC rfl rfl (.one rfl) rfl (by decide) (fun hb=>(aP rfl rfl (lb rfl) (svcI rfl hb) (sv (d:=.int _ 8) rfl) rfl hx58)) <|aA rfl (bT rfl rfl (lb rfl) (svB rfl) rfl rfl hx59) <|aA rfl (mvB rfl rfl rfl rfl) <|aC rfl rfl (.one rfl) rfl (by decide) (fun hb=>(lra q13 la46 rfl rfl rfl rfl rfl (nle rfl) rfl)) <|aC rfl rfl (.one rfl) rfl (by decide) (fun hb=>(aU (r:=.int _ _) rfl rfl (lb rfl) cl20 (.cons (svcA (v1 x8.1) rfl hb) .nil) rfl (jU _ _ (gd_t hx60 hb)))) <|aC rfl rfl (.one rfl) rfl (by decide) (fun hb=>(aP rfl rfl (lb rfl) (svcI rfl hb) (sv (d:=.int _ 0) rfl) rfl hx61)) <|aA rfl (bT rfl rfl (lb rfl) (svB rfl) rfl rfl hx62) <|aA rfl (mvB rfl rfl rfl rfl) <|aC rfl rfl (.one rfl) rfl (by decide) (fun hb=>(lra q13 la46 rfl rfl rfl rfl rfl (nle rfl) rfl)) <|aC rfl rfl (.one rfl) rfl (by decide) (fun hb=>(lra q13 la46 rfl rfl rfl rfl rfl (nle rfl) rfl)) <|aC rfl rfl (.one rfl) rfl (by decide) (fun hb=>(aU (r:=.bool _) rfl rfl (lb rfl) cl28 (.cons (svcA (v1 x8.1) rfl hb) (.cons (svcA (v1 x7.1) rfl hb) .nil)) rfl (sQ _ _ _ (gd_t hx63 hb)))) <|aA rfl (bT rfl rfl (lb rfl) (svB rfl) rfl rfl hx64) <|aA rfl (mvB rfl rfl rfl rfl) <|aC rfl rfl (.one rfl) rfl (by decide) (fun hb=>(lra q13 la46 rfl rfl rfl rfl rfl (nle rfl) rfl)) <|aC rfl rfl (.one rfl) rfl (by decide) (fun hb=>(lra q13 la46 rfl rfl rfl rfl rfl (nle rfl) rfl)) <|aC rfl rfl (.one rfl) rfl (by decide) (fun hb=>(aU (r:=.bool _) rfl rfl (lb rfl) cl28 (.cons (svcA (v1 x8.1) rfl hb) (.cons (svcA (v1 x10.1) rfl hb) .nil)) rfl (sQ _ _ _ (gd_t hx65 hb)))) <|aC rfl rfl (.one rfl) rfl (by decide) (fun hb=>(dB rfl rfl (lb rfl) (svcB rfl hb))) <|aA rfl (bT rfl rfl (lb rfl) (svB rfl) rfl rfl hx66) <|aA rfl (mvB rfl rfl rfl rfl) <|aA rfl (lW rfl rfl (lb rfl) (svB rfl) rfl rfl hx67) <|aA rfl (mvB rfl rfl rfl rfl) <|aA rfl (lW rfl rfl (lb rfl) (svB rfl) rfl rfl hx68) <|aA rfl (mvB rfl rfl rfl rfl) <|aA rfl (lW rfl rfl (lb rfl) (svB rfl) rfl rfl hx69) <|aA rfl (mvB rfl rfl rfl rfl) <|aA rfl (lW rfl rfl (lb rfl) (svB rfl) rfl rfl hx70) <|aA rfl (asB rfl rfl rfl rfl) <|aD ?_)
 refine aT ?_
 obtain rfl:=Option.some.inj h
 refine ⟨.inr rfl,(.cons (sv rfl) .nil)⟩

theorem wF (a0 : aW) (r : aW) (h : mP a0 = some r) : cF Tryz.prog 91 [.agg (v2 a0)] (.agg (v2 r)):=by
 refine iC (rs:=[.agg (v2 r)]) Tryz.func91 rfl Tryz.ntmps91 (nle rfl) rfl fun O hO=>?_
 show IWP _ _ _ _ ⟨[(0,.agg (v2 a0))],[]⟩ _
 unfold mP at h
 refine aE (aA rfl (bR (cs:=q15) 0 rfl rfl (lb rfl) rfl (svA q15 rfl) rfl rfl) <|aA rfl (bD (cs:=q17) (cs':=(w42 0 [] 0 ([] : List aJ) ([] : List aG) false false false false)) 1 rfl rfl (lb rfl) rfl ti37 rfl rfl (.k (.k (.k (.cons (.nils _) (.cons (.nils _) (.all _))))))) <|aD ?_)
 obtain ⟨x1,hx1,h⟩:=bF h
 refine aE (aA rfl (lra q15 la37 rfl rfl rfl rfl rfl (nle rfl) rfl) <|aA rfl (dO (r':=.agg (w43 x1.1 x1.2.1 x1.2.2.1 (.osl 2 aB.sz x1.2.2.2.1.length) x1.2.2.2.2.1 x1.2.2.2.2.2.1 x1.2.2.2.2.2.2.1 x1.2.2.2.2.2.2.2.1 x1.2.2.2.2.2.2.2.2)) (H1':=[(2,.blk 105 (D.flat (x1.2.2.2.1.map aB.d)))]) 2 [] rfl rfl (lb rfl) aA7 (.cons (svA q15 rfl) .nil) rfl rfl ⟨rfl,rfl,by decide,rfl,List.forall_mem_nil _⟩ (gM _ _ hx1) rfl rfl (List.forall_mem_cons.2 ⟨⟨rfl,(fB aB)⟩,List.forall_mem_nil _⟩) (by simp only [List.map_cons,List.map_nil,Ent.ren,eD,eQ]; rfl)) <|aA rfl (bD (cs:=q17) (cs':=(w42 0 [] 0 ([] : List aJ) ([] : List aG) false false false false)) 3 rfl rfl (lb rfl) rfl ti37 rfl rfl (.k (.k (.k (.cons (.nils _) (.cons (.nils _) (.all _))))))) <|aA rfl (stA q16 q16 ti37 rfl rfl rfl rfl rfl rfl rfl rfl (nle rfl) rfl) <|aD ?_)
 obtain ⟨x2,hx2,h⟩:=bF h
 obtain ⟨x3,hx3,h⟩:=aQ h
 obtain ⟨x4,hx4,h⟩:=aQ h
 refine aE (aA rfl (faR 5 rfl rfl rfl Tryz.underlying37 rfl ti4 (lb rfl) rfl rfl) <|aA rfl (aF (d:=.bool _) rfl rfl (lb rfl) Tryz.underlying4 ag4 ti4 (by decide) (svR rfl) rfl (nle rfl) rfl) <|aA rfl (mvB rfl rfl rfl rfl) <|aC rfl rfl (.one rfl) rfl (by decide) (fun hb=>(lra q15 la37 rfl rfl rfl rfl rfl (nle rfl) rfl)) <|aC rfl rfl (.one rfl) rfl (by decide) (fun hb=>(aU (r:=.int _ _) rfl rfl (lb rfl) yG (.cons (svcA (v2 a0) rfl hb) .nil) rfl (iU _ _ (gd_t hx2 hb)))) <|aC rfl rfl (.one rfl) rfl (by decide) (fun hb=>(aP rfl rfl (lb rfl) (svcI rfl hb) (sv (d:=.int _ 0) rfl) rfl hx3)) <|aA rfl (cQ rfl rfl (lb rfl) (svB rfl) rfl rfl hx4) <|aA rfl (faR 5 rfl rfl rfl Tryz.underlying37 rfl ti4 (lb rfl) rfl rfl) <|aA rfl (bN (ds':=q16) rfl rfl ti4 (svR rfl) rfl (svB rfl) rfl rfl rfl (nle rfl) rfl) <|aD ?_)
 refine aE (aA rfl (lra q16 la37 rfl rfl rfl rfl rfl (nle rfl) rfl) <|aA rfl (stA q16 q16 ti37 rfl rfl rfl rfl rfl rfl rfl rfl (nle rfl) rfl) <|aD ?_)
 refine aT ?_
 obtain rfl:=Option.some.inj h
 refine ⟨.inr rfl,_,(.cons (rva la37 rfl rfl (nle rfl) rfl) .nil),(.cons (.agg (.k (.k (.k (.cons (FDT aB rfl rfl) (.all _)))))) .nil)⟩

theorem wD (a0 : aR) (r : (aR × Int)) (h : mL a0 = some r) : cF Tryz.prog 36 [.agg (v1 a0)] (retD [.agg (v1 r.1),.int .i64 r.2]):=by
 refine bA (rs:=[.agg (v1 r.1),.int .i64 r.2]) Tryz.func36 rfl Tryz.ntmps36 (nle rfl) rfl fun O hO=>?_
 show IWP _ _ _ _ ⟨[(0,.agg (v1 a0))],[]⟩ _
 unfold mL at h
 refine aE (aA rfl (bR (cs:=q13) 0 rfl rfl (lb rfl) rfl (svA q13 rfl) rfl rfl) <|aA rfl (bD (cs:=q14) (cs':=(w41 0 0 [] 0 ([] : List aJ) ([] : List aG) false false false false 0 [] ([] : List aN) 0 0 0 0 0 0 0 0 0 0 0)) 1 rfl rfl (lb rfl) rfl ti46 rfl rfl (.k4 (.cons (.nils _) (.cons (.nils _) (.k4 (.k (.k (.cons (.nils _) (.all _))))))))) <|aA rfl (aH rfl rfl (lb rfl) (sv (d:=.int _ 0) rfl)) <|aD ?_)
 refine bC ?_
 obtain ⟨x1,hx1,h⟩:=bF h
 refine aE (aA rfl (lra q13 la46 rfl rfl rfl rfl rfl (nle rfl) rfl) <|aA rfl (aU (r:=.int _ _) rfl rfl (lb rfl) cl82 (.cons (svA q13 rfl) .nil) rfl (mU _ _ hx1)) <|aA rfl (asI rfl rfl rfl rfl) <|aD ?_)
 obtain ⟨x2,hx2,h⟩:=aQ h
 refine aE (aA rfl (mvI rfl rfl rfl rfl) <|aA rfl (aP rfl rfl (lb rfl) (svI rfl) (sv (d:=.int _ 0) rfl) rfl hx2) <|aD ?_)
 refine aV (b:=_) rfl (fun hc3=>?_) (fun hc3=>?_)
 ·
  replace h:=cD h hc3
  refine aE (aA rfl (lra q13 la46 rfl rfl rfl rfl rfl (nle rfl) rfl) <|aA rfl (mvI rfl rfl rfl rfl) <|aA rfl (stA q13 q13 ti46 rfl rfl rfl rfl rfl rfl rfl rfl (nle rfl) rfl) <|aA rfl (asI rfl rfl rfl rfl) <|aD ?_)
  refine aT ?_
  refine bI ?_
  obtain rfl:=Option.some.inj h
  refine ⟨.inr rfl,(.cons (rva la46 rfl rfl (nle rfl) rfl) (.cons (sv rfl) .nil))⟩
 ·
  replace h:=cE h hc3
  refine aY ?_
  refine aS ?_
  obtain ⟨x4,hx4,h⟩:=bF h
  refine aE (aA rfl (faR 1 rfl rfl rfl Tryz.underlying46 rfl ti37 (lb rfl) rfl rfl) <|aA rfl (lra q15 la37 rfl rfl rfl rfl rfl (nle rfl) rfl) <|aA rfl (aU (r:=.agg q15) rfl rfl (lb rfl) cl91 (.cons (svA q15 rfl) .nil) rfl (wF _ _ hx4)) <|aA rfl (faR 1 rfl rfl rfl Tryz.underlying46 rfl ti37 (lb rfl) rfl rfl) <|aA rfl (stA q15 q13 ti37 rfl rfl rfl rfl rfl rfl rfl rfl (nle rfl) rfl) <|aD ?_)
  refine aE (aA rfl (lra q13 la46 rfl rfl rfl rfl rfl (nle rfl) rfl) <|aA rfl (stA q13 q13 ti46 rfl rfl rfl rfl rfl rfl rfl rfl (nle rfl) rfl) <|aA rfl (aH rfl rfl (lb rfl) (sv (d:=.int _ 0) rfl)) <|aD ?_)
  refine aT ?_
  obtain rfl:=Option.some.inj h
  refine ⟨.inr rfl,(.cons (rva la46 rfl rfl (nle rfl) rfl) (.cons (sv rfl) .nil))⟩

theorem pY (a0 : aJ) (r : Bool) (h : lP a0 = some r) : cF Tryz.prog 140 [.agg (v7 a0)] (.bool r):=by
 refine bA (rs:=[.bool r]) Tryz.func140 rfl Tryz.ntmps140 (nle rfl) rfl fun O hO=>?_
 show IWP _ _ _ _ ⟨[(0,.agg (v7 a0))],[]⟩ _
 unfold lP at h
 refine aE (aA rfl (bR (cs:=q20) 0 rfl rfl (lb rfl) rfl (svA q20 rfl) rfl rfl) <|aA rfl (aH rfl rfl (lb rfl) (sv (d:=.bool false) rfl)) <|aD ?_)
 obtain ⟨x1,hx1,h⟩:=aQ h
 obtain ⟨x2,hx2,h⟩:=aQ h
 refine aE (aA rfl (faR 0 rfl rfl rfl Tryz.underlying105 rfl ti3 (lb rfl) rfl rfl) <|aA rfl (aF (d:=.int _ _) rfl rfl (lb rfl) Tryz.underlying3 ag3 ti3 (by decide) (svR rfl) rfl (nle rfl) rfl) <|aA rfl (faR 1 rfl rfl rfl Tryz.underlying105 rfl ti3 (lb rfl) rfl rfl) <|aA rfl (aF (d:=.int _ _) rfl rfl (lb rfl) Tryz.underlying3 ag3 ti3 (by decide) (svR rfl) rfl (nle rfl) rfl) <|aA rfl (aP rfl rfl (lb rfl) (svI rfl) (svI rfl) rfl hx1) <|aA rfl (mvB rfl rfl rfl rfl) <|aC rfl rfl (.one rfl) rfl (by decide) (fun hb=>(faR 3 rfl rfl rfl Tryz.underlying105 rfl ti4 (lb rfl) rfl rfl)) <|aC rfl rfl (.one rfl) rfl (by decide) (fun hb=>(aF (d:=.bool _) rfl rfl (lb rfl) Tryz.underlying4 ag4 ti4 (by decide) (svcR rfl hb) rfl (nle rfl) rfl)) <|aC rfl rfl (.one rfl) rfl (by decide) (fun hb=>(dB rfl rfl (lb rfl) (svcB rfl hb))) <|aA rfl (bT rfl rfl (lb rfl) (svB rfl) rfl rfl hx2) <|aA rfl (asB rfl rfl rfl rfl) <|aD ?_)
 refine aT ?_
 obtain rfl:=Option.some.inj h
 refine ⟨.inr rfl,(.cons (sv rfl) .nil)⟩

theorem gS (a0 : (List aJ)) (r : Int) (h : dU a0 = some r) : cF Tryz.prog 176 [.slice false (a0.map aB.d),.fn 140 []] (.int .i64 r):=by
 refine bA (rs:=[.int .i64 r]) Tryz.func176 rfl Tryz.ntmps176 (nle rfl) rfl fun O hO=>?_
 show IWP _ _ _ _ ⟨[(0,.slice false (a0.map aB.d)),(1,.fn 140 [])],[]⟩ _
 unfold dU at h
 refine aE (aA rfl (aH rfl rfl (lb rfl) (sv (d:=.int _ 0) rfl)) <|aD ?_)
 refine bC ?_
 refine aE (aA rfl (mvL rfl rfl rfl rfl) <|aA rfl (dL aB (l:=a0) rfl rfl (lb rfl) Tryz.underlying33 (svL rfl)) <|aA rfl (aM rfl rfl (lb rfl) (sv (d:=.int _ 0) rfl)) <|aD ?_)
 refine bZ ?_
 refine dW (α:=Nat × Int) (fun z=>⟨[(0,.slice false (a0.map aB.d)),(1,.fn 140 []),(7,.int .i64 (a0.length : Int)),(8,.int .i64 z.2)],[]⟩) (fun z=>cH a0 z.1 z.2 = some r) (fun z=>z.1) (fuel,0) (fun i=>i) ⟨(.sames rfl rfl),.nil,cK [] rfl (by decide),fun _ _=>rfl⟩ ?_ ?_
 ·exact h
 ·
  rintro ⟨n0,v7⟩ h
  cases n0 with
  | zero=>exact absurd h (by unfold cH; exact nofun)
  | succ n0 =>
   unfold cH at h
   obtain ⟨x14,hx14,h⟩:=aQ h
   refine aE (aA rfl (aP rfl rfl (lb rfl) (svI rfl) (svI rfl) rfl hx14) <|aD ?_)
   refine bC ?_
   refine aV (b:=_) rfl (fun hc15=>?_) (fun hc15=>?_)
   ·
    replace h:=cD h hc15
    refine aY ?_
    refine aS ?_
    refine bC ?_
    refine bZ ?_
    refine aE (aA rfl (mvI rfl rfl rfl rfl) <|aA rfl (asI rfl rfl rfl rfl) <|aD ?_)
    obtain ⟨x16,hx16,h⟩:=bF h
    obtain ⟨x17,hx17,h⟩:=bF h
    refine aE (aA rfl (aM rfl rfl (lb rfl) (sv (d:=.fn 140 []) rfl)) <|aA rfl (mvL rfl rfl rfl rfl) <|aA rfl (mvI rfl rfl rfl rfl) <|aA rfl (dY aB (cs:=q20) rfl rfl (lb rfl) Tryz.underlying33 dH (svL rfl) (svI rfl) hx16 rfl rfl) <|aA rfl (dE (cs:=q20) rfl rfl (lb rfl) Tryz.underlying105 nN dH (by decide) (sv (d:=.fptr q20) rfl) (nle rfl) rfl) <|aA rfl (nB (r:=.bool _) rfl rfl (lb rfl) cl140 (sv (d:=.fn 140 []) rfl) (.cons (svA q20 rfl) .nil) rfl (pY _ _ hx17)) <|aD ?_)
    refine aV (b:=_) rfl (fun hc18=>?_) (fun hc18=>?_)
    ·
     replace h:=cD h hc18
     refine aE (aA rfl (mvI rfl rfl rfl rfl) <|aA rfl (asI rfl rfl rfl rfl) <|aD ?_)
     refine aT ?_
     refine cS ?_
     refine bI ?_
     refine bI ?_
     refine cS ?_
     refine bI ?_
     obtain rfl:=Option.some.inj h
     refine ⟨.inr rfl,(.cons (sv rfl) .nil)⟩
    ·
     replace h:=cE h hc18
     refine aY ?_
     refine cO ?_
     refine aS ?_
     obtain ⟨x19,hx19,h⟩:=aQ h
     refine bO (aA rfl (bM rfl rfl (lb rfl) (svI rfl) (sv (d:=.int _ 1) rfl) rfl hx19) <|aA rfl (mvI rfl rfl rfl rfl) <|cL ?_)
     refine aS ⟨(n0,x19),(fun i=>i),⟨(.sames rfl rfl),.nil,cK [] rfl (by decide),fun _ _=>rfl⟩,?_,?_⟩
     exact h
     exact Nat.lt_succ_self _
   ·
    replace h:=cE h hc15
    refine eE ?_
    refine cU ?_
    refine cU ?_
    refine eG ?_
    refine aS ?_
    refine aE (aA rfl (aH rfl rfl (lb rfl) (sv (d:=.int _ (-1)) rfl)) <|aD ?_)
    refine aT ?_
    obtain rfl:=Option.some.inj h
    refine ⟨.inr rfl,(.cons (sv rfl) .nil)⟩

theorem gA (a0 : (List aJ)) (r : (List aJ)) (h : cW a0 = some r) : FnH Tryz.prog 139 [.osl 1000 aB.sz a0.length,.fn 140 []] [(1000,.blk 105 (D.flat (a0.map aB.d)))] (.osl 0 aB.sz r.length) [(0,.blk 105 (D.flat (r.map aB.d)))]:=by
 refine fE (rs:=[.osl 0 aB.sz r.length]) Tryz.func139 rfl Tryz.ntmps139 (nle rfl) fun O hO=>?_
 show IWP _ _ _ _ ⟨[(0,.osl 1000 aB.sz a0.length),(1,.fn 140 [])],[(1000,.blk 105 (D.flat (a0.map aB.d)))]⟩ _
 unfold cW at h
 refine aE (aA rfl (aH rfl rfl (lb rfl) (sv (d:=.nils) rfl)) <|aD ?_)
 obtain ⟨x1,hx1,h⟩:=bF h
 refine aE (aA rfl (aM rfl rfl (lb rfl) (sv (d:=.osl _ _ _) rfl)) <|aA rfl (aM rfl rfl (lb rfl) (sv (d:=.fn 140 []) rfl)) <|aA rfl (oL (r:=.int .i64 x1) rfl rfl (lb rfl) cl176 (.cons (sv (d:=.osl _ _ _) rfl) (.cons (sv (d:=.fn 140 []) rfl) .nil)) (.cons (FDT aB rfl rfl) (.all _)) rfl rfl (gS _ _ hx1)) <|aA rfl (asI rfl rfl rfl rfl) <|aD ?_)
 refine bC ?_
 obtain ⟨x2,hx2,h⟩:=aQ h
 refine aE (aA rfl (mvI rfl rfl rfl rfl) <|aA rfl (aP rfl rfl (lb rfl) (svI rfl) (sv (d:=.int _ (-1)) rfl) rfl hx2) <|aD ?_)
 refine aV (b:=_) rfl (fun hc3=>?_) (fun hc3=>?_)
 ·
  replace h:=cD h hc3
  refine aE (aA rfl (aM rfl rfl (lb rfl) (sv (d:=.osl _ _ _) rfl)) <|aA rfl (aH rfl rfl (lb rfl) (sv (d:=.osl _ _ _) rfl)) <|aD ?_)
  refine aT ?_
  refine bI ?_
  obtain rfl:=Option.some.inj h
  refine ⟨.inr rfl,(fun i=>if i = 0 then 1000 else i),⟨.nil,(.cons (EntW.lst rfl) .nil),cK [1000] rfl (by decide),(fun i hi=>by first | rfl | (show (if _ then _ else _) = _; (repeat' split) <;> omega))⟩,(.cons (sv rfl) .nil),rfl⟩
 ·
  replace h:=cE h hc3
  refine aY ?_
  refine aS ?_
  refine bC ?_
  obtain ⟨x4,hx4,h⟩:=aQ h
  refine aE (aA rfl (mvI rfl rfl rfl rfl) <|aA rfl (bM rfl rfl (lb rfl) (svI rfl) (sv (d:=.int _ 1) rfl) rfl hx4) <|aA rfl (asI rfl rfl rfl rfl) <|aD ?_)
  refine bZ ?_
  refine dW (α:=Nat × (List aJ) × Int × Int) (fun z=>⟨[(0,.osl 1000 aB.sz z.2.1.length),(1,.fn 140 []),(5,.int .i64 z.2.2.1),(6,.int .i64 z.2.2.2)],[(1000,.blk 105 (D.flat (z.2.1.map aB.d)))]⟩) (fun z=>bX z.1 z.2.1 z.2.2.1 z.2.2.2 = some r) (fun z=>z.1) (fuel,a0,x1,x4) (fun i=>i) ⟨(.sames rfl rfl),(.cons (EntW.lst rfl) .nil),cK [1000] rfl (by decide),fun _ _=>rfl⟩ ?_ ?_
  ·exact h
  ·
   rintro ⟨n0,v17,v18,v19⟩ h
   cases n0 with
   | zero=>exact absurd h (by unfold bX; exact nofun)
   | succ n0 =>
    unfold bX at h
    refine bC ?_
    obtain ⟨x32,hx32,h⟩:=aQ h
    refine aE (aA rfl (mvI rfl rfl rfl rfl) <|aA rfl (aM rfl rfl (lb rfl) (sv (d:=.osl _ _ _) rfl)) <|aA rfl (mC rfl rfl (lb rfl) Tryz.underlying33 (sv (d:=.osl _ _ _) rfl)) <|aA rfl (aP rfl rfl (lb rfl) (svI rfl) (svI rfl) rfl hx32) <|aD ?_)
    refine aV (b:=_) rfl (fun hc33=>?_) (fun hc33=>?_)
    ·
     replace h:=cD h hc33
     refine aY ?_
     refine aS ?_
     refine bC ?_
     refine bZ ?_
     obtain ⟨x34,hx34,h⟩:=bF h
     obtain ⟨x35,hx35,h⟩:=bF h
     refine aE (aA rfl (aM rfl rfl (lb rfl) (sv (d:=.osl _ _ _) rfl)) <|aA rfl (mvI rfl rfl rfl rfl) <|aA rfl (kD aB.toEnc0 rfl rfl (lb rfl) Tryz.underlying33 dH (sv (d:=.osl _ _ _) rfl) rfl (svI rfl) hx34) <|aA rfl (nA aB.toEnc0 (cs:=q20) rfl rfl (lb rfl) Tryz.underlying105 nN dH (by decide) (svR rfl) rfl hx35 (nle rfl) rfl) <|aA rfl (bD (cs:=q20) (cs':=(w46 0 0 0 false)) 0 rfl rfl (lb rfl) rfl dH rfl rfl (.all _)) <|aA rfl (stA q20 q20 dH rfl rfl rfl rfl rfl rfl rfl rfl (nle rfl) rfl) <|aD ?_)
     obtain ⟨x36,hx36,h⟩:=bF h
     refine aE (aA rfl (aM rfl rfl (lb rfl) (sv (d:=.fn 140 []) rfl)) <|aA rfl (lra q20 qD rfl rfl rfl rfl rfl (nle rfl) rfl) <|aA rfl (nB (r:=.bool _) rfl rfl (lb rfl) cl140 (sv (d:=.fn 140 []) rfl) (.cons (svA q20 rfl) .nil) rfl (pY _ _ hx36)) <|aA rfl (dB rfl rfl (lb rfl) (svB rfl)) <|aD ?_)
     refine aV (b:=_) rfl (fun hc37=>?_) (fun hc37=>?_)
     ·
      replace h:=cD h hc37
      obtain ⟨x38,hx38,h⟩:=bF h
      obtain ⟨x39,hx39,h⟩:=bF h
      obtain ⟨x40,hx40,h⟩:=aQ h
      refine aE (aA rfl (aM rfl rfl (lb rfl) (sv (d:=.osl _ _ _) rfl)) <|aA rfl (mvI rfl rfl rfl rfl) <|aA rfl (lra q20 qD rfl rfl rfl rfl rfl (nle rfl) rfl) <|aA rfl (kD aB.toEnc0 rfl rfl (lb rfl) Tryz.underlying33 dH (sv (d:=.osl _ _ _) rfl) rfl (svI rfl) hx38) <|aA rfl (lK aB.toEnc0 (a':=x35) rfl rfl dH (svR rfl) rfl (svA q20 rfl) rfl rfl rfl hx39 (nle rfl) rfl hx40) <|aD ?_)
      obtain ⟨x41,hx41,h⟩:=aQ h
      refine bO (aA rfl (mvI rfl rfl rfl rfl) <|aA rfl (bM rfl rfl (lb rfl) (svI rfl) (sv (d:=.int _ 1) rfl) rfl hx41) <|aA rfl (asI rfl rfl rfl rfl) <|cL ?_)
      refine cO ?_
      refine aS ?_
      obtain ⟨x42,hx42,h⟩:=aQ h
      refine bO (aA rfl (mvI rfl rfl rfl rfl) <|aA rfl (bM rfl rfl (lb rfl) (svI rfl) (sv (d:=.int _ 1) rfl) rfl hx42) <|aA rfl (asI rfl rfl rfl rfl) <|cL ?_)
      refine aS ⟨(n0,x40,x41,x42),(fun i=>i),⟨(.cons (.same (congrArg (D.osl _ _) (qY hx40 rfl).symm) rfl) (.sames rfl rfl)),(.cons (EntW.lst rfl) .nil),cK [1000] rfl (by decide),fun _ _=>rfl⟩,?_,?_⟩
      exact h
      exact Nat.lt_succ_self _
     ·
      replace h:=cE h hc37
      refine aY ?_
      refine cO ?_
      refine aS ?_
      obtain ⟨x43,hx43,h⟩:=aQ h
      refine bO (aA rfl (mvI rfl rfl rfl rfl) <|aA rfl (bM rfl rfl (lb rfl) (svI rfl) (sv (d:=.int _ 1) rfl) rfl hx43) <|aA rfl (asI rfl rfl rfl rfl) <|cL ?_)
      refine aS ⟨(n0,v17,v18,x43),(fun i=>i),⟨(.sames rfl rfl),(.cons (EntW.lst rfl) .nil),cK [1000] rfl (by decide),fun _ _=>rfl⟩,?_,?_⟩
      exact h
      exact Nat.lt_succ_self _
    ·
     replace h:=cE h hc33
     refine eE ?_
     refine cU ?_
     refine cU ?_
     refine eG ?_
     refine aS ?_
     obtain ⟨x44,hx44,h⟩:=bF h
     refine aE (aA rfl (aM rfl rfl (lb rfl) (sv (d:=.osl _ _ _) rfl)) <|aA rfl (mvI rfl rfl rfl rfl) <|tI aB.toEnc0 rfl rfl rfl rfl (by decide) rfl rfl Tryz.underlying33 dH rfl rfl rfl rfl rfl (fun S1 h9=>sv ((h9 37 (by decide)).trans rfl)) hx44 <|aD ?_)
     obtain ⟨x45,hx45,h⟩:=bF h
     refine aE (aA rfl (aM rfl rfl (lb rfl) (sv (d:=.osl _ _ _) rfl)) <|aA rfl (mvI rfl rfl rfl rfl) <|aA rfl (uF aB.toEnc0 rfl rfl (lb rfl) Tryz.underlying33 dH (sv (d:=.osl _ _ _) rfl) rfl (Nat.le_trans (aCG hx44) (Nat.le_of_eq rfl)) (svI rfl) hx45) <|aA rfl (aH rfl rfl (lb rfl) (sv (d:=.osl _ _ _) rfl)) <|aD ?_)
     refine aT ?_
     obtain rfl:=Option.some.inj h
     refine ⟨.inr rfl,(fun i=>if i = 0 then 1000 else i),⟨.nil,(.cons (EntW.lst rfl) .nil),cK [1000] rfl (by decide),(fun i hi=>by first | rfl | (show (if _ then _ else _) = _; (repeat' split) <;> omega))⟩,(.cons (sv rfl) .nil),rfl⟩

theorem xP (a0 : aW) (a1 : Int) (a2 : Bool) (r : aW) (h : mQ a0 a1 a2 = some r) : cF Tryz.prog 93 [.agg (v2 a0),.int .i64 a1,.bool a2] (.agg (v2 r)):=by
 refine iC (rs:=[.agg (v2 r)]) Tryz.func93 rfl Tryz.ntmps93 (nle rfl) rfl fun O hO=>?_
 show IWP _ _ _ _ ⟨[(0,.agg (v2 a0)),(1,.int .i64 a1),(2,.bool a2)],[]⟩ _
 unfold mQ at h
 refine aE (aA rfl (bR (cs:=q15) 0 rfl rfl (lb rfl) rfl (svA q15 rfl) rfl rfl) <|aA rfl (bD (cs:=q17) (cs':=(w42 0 [] 0 ([] : List aJ) ([] : List aG) false false false false)) 1 rfl rfl (lb rfl) rfl ti37 rfl rfl (.k (.k (.k (.cons (.nils _) (.cons (.nils _) (.all _))))))) <|aD ?_)
 obtain ⟨x1,hx1,h⟩:=bF h
 refine aE (aA rfl (lra q15 la37 rfl rfl rfl rfl rfl (nle rfl) rfl) <|aA rfl (dO (r':=.agg (w43 x1.1 x1.2.1 x1.2.2.1 (.osl 2 aB.sz x1.2.2.2.1.length) x1.2.2.2.2.1 x1.2.2.2.2.2.1 x1.2.2.2.2.2.2.1 x1.2.2.2.2.2.2.2.1 x1.2.2.2.2.2.2.2.2)) (H1':=[(2,.blk 105 (D.flat (x1.2.2.2.1.map aB.d)))]) 2 [] rfl rfl (lb rfl) aA7 (.cons (svA q15 rfl) .nil) rfl rfl ⟨rfl,rfl,by decide,rfl,List.forall_mem_nil _⟩ (gM _ _ hx1) rfl rfl (List.forall_mem_cons.2 ⟨⟨rfl,(fB aB)⟩,List.forall_mem_nil _⟩) (by simp only [List.map_cons,List.map_nil,Ent.ren,eD,eQ]; rfl)) <|aA rfl (bD (cs:=q17) (cs':=(w42 0 [] 0 ([] : List aJ) ([] : List aG) false false false false)) 3 rfl rfl (lb rfl) rfl ti37 rfl rfl (.k (.k (.k (.cons (.nils _) (.cons (.nils _) (.all _))))))) <|aA rfl (stA q16 q16 ti37 rfl rfl rfl rfl rfl rfl rfl rfl (nle rfl) rfl) <|aD ?_)
 refine bC ?_
 obtain ⟨x2,hx2,h⟩:=bF h
 obtain ⟨x3,hx3,h⟩:=aQ h
 obtain ⟨x4,hx4,h⟩:=aQ h
 obtain ⟨x5,hx5,h⟩:=aQ h
 obtain ⟨x6,hx6,h⟩:=aQ h
 obtain ⟨x7,hx7,h⟩:=aQ h
 obtain ⟨x8,hx8,h⟩:=bF h
 obtain ⟨x9,hx9,h⟩:=aQ h
 obtain ⟨x10,hx10,h⟩:=aQ h
 obtain ⟨x11,hx11,h⟩:=aQ h
 obtain ⟨x12,hx12,h⟩:=aQ h
 refine aE (aA rfl (lra q15 la37 rfl rfl rfl rfl rfl (nle rfl) rfl) <|aA rfl (aU (r:=.int _ _) rfl rfl (lb rfl) yG (.cons (svA q15 rfl) .nil) rfl (iU _ _ hx2)) <|aA rfl (aP rfl rfl (lb rfl) (svI rfl) (sv (d:=.int _ 0) rfl) rfl hx3) <|aA rfl (mvB rfl rfl rfl rfl) <|aC rfl rfl (.one rfl) rfl (by decide) (fun hb=>(mvI rfl rfl rfl rfl)) <|aC rfl rfl (.one rfl) rfl (by decide) (fun hb=>(aP rfl rfl (lb rfl) (svcI rfl hb) (sv (d:=.int _ 0) rfl) rfl hx4)) <|aA rfl (cQ rfl rfl (lb rfl) (svB rfl) rfl rfl hx5) <|aA rfl (mvB rfl rfl rfl rfl) <|aC rfl rfl (.one rfl) rfl (by decide) (fun hb=>(mvI rfl rfl rfl rfl)) <|aC rfl rfl (.one rfl) rfl (by decide) (fun hb=>(faR 2 rfl rfl rfl Tryz.underlying37 rfl ti3 (lb rfl) rfl rfl)) <|aC rfl rfl (.one rfl) rfl (by decide) (fun hb=>(aF (d:=.int _ _) rfl rfl (lb rfl) Tryz.underlying3 ag3 ti3 (by decide) (svcR rfl hb) rfl (nle rfl) rfl)) <|aC rfl rfl (.one rfl) rfl (by decide) (fun hb=>(aP rfl rfl (lb rfl) (svcI rfl hb) (svcI rfl hb) rfl hx6)) <|aA rfl (cQ rfl rfl (lb rfl) (svB rfl) rfl rfl hx7) <|aA rfl (mvB rfl rfl rfl rfl) <|aC rfl rfl (.one rfl) rfl (by decide) (fun hb=>(mvB rfl rfl rfl rfl)) <|aC rfl rfl (.one rfl) rfl (by decide) (fun hb=>(aM rfl rfl (lb rfl) (svcB rfl hb))) <|aC rfl rfl (.two rfl) rfl (by decide) (fun hb=>(mvI rfl rfl rfl rfl)) <|aC rfl rfl (.two rfl) rfl (by decide) (fun hb=>(lra q15 la37 rfl rfl rfl rfl rfl (nle rfl) rfl)) <|aC rfl rfl (.two rfl) rfl (by decide) (fun hb=>(aU (r:=.int _ _) rfl rfl (lb rfl) xA (.cons (svcA (v2 a0) rfl hb) .nil) rfl (eZ _ _ (gd_t hx8 hb)))) <|aC rfl rfl (.two rfl) rfl (by decide) (fun hb=>(aP rfl rfl (lb rfl) (svcI rfl hb) (svcI rfl hb) rfl hx9)) <|aC rfl rfl (.two rfl) rfl (by decide) (fun hb=>(aM rfl rfl (lb rfl) (svcB rfl hb))) <|aC rfl rfl (.two rfl) rfl (by decide) (fun hb=>(faR 6 rfl rfl rfl Tryz.underlying37 rfl ti4 (lb rfl) rfl rfl)) <|aC rfl rfl (.two rfl) rfl (by decide) (fun hb=>(aF (d:=.bool _) rfl rfl (lb rfl) Tryz.underlying4 ag4 ti4 (by decide) (svcR rfl hb) rfl (nle rfl) rfl)) <|aC rfl rfl (.two rfl) rfl (by decide) (fun hb=>(dB rfl rfl (lb rfl) (svcB rfl hb))) <|aC rfl rfl (.two rfl) rfl (by decide) (fun hb=>(vC rfl rfl (lb rfl) hb (svcB rfl hb) rfl rfl hx10)) <|aC rfl rfl (.one rfl) rfl (by decide) (fun hb=>(jH rfl rfl (lb rfl) hb (svcB rfl hb) rfl rfl hx11)) <|aA rfl (cQ rfl rfl (lb rfl) (svB rfl) rfl rfl hx12) <|aD ?_)
 refine aV (b:=_) rfl (fun hc13=>?_) (fun hc13=>?_)
 ·
  replace h:=cD h hc13
  refine aE (aA rfl (lra q16 la37 rfl rfl rfl rfl rfl (nle rfl) rfl) <|aA rfl (stA q16 q16 ti37 rfl rfl rfl rfl rfl rfl rfl rfl (nle rfl) rfl) <|aD ?_)
  refine aT ?_
  refine bI ?_
  obtain rfl:=Option.some.inj h
  refine ⟨.inr rfl,_,(.cons (rva la37 rfl rfl (nle rfl) rfl) .nil),(.cons (.agg (.k (.k (.k (.cons (FDT aB rfl rfl) (.all _)))))) .nil)⟩
 ·
  replace h:=cE h hc13
  refine aY ?_
  refine aS ?_
  obtain ⟨x14,hx14,h⟩:=aQ h
  refine aE (aA rfl (mvI rfl rfl rfl rfl) <|aA rfl (faR 0 rfl rfl rfl Tryz.underlying37 rfl ti3 (lb rfl) rfl rfl) <|aA rfl (aF (d:=.int _ _) rfl rfl (lb rfl) Tryz.underlying3 ag3 ti3 (by decide) (svR rfl) rfl (nle rfl) rfl) <|aA rfl (kO rfl rfl (lb rfl) (svI rfl) (svI rfl) hx14) <|aA rfl (asI rfl rfl rfl rfl) <|aD ?_)
  refine bC ?_
  refine aE (aA rfl (faR 3 rfl rfl rfl Tryz.underlying37 rfl ti33 (lb rfl) rfl rfl) <|aA rfl (aF (d:=.osl _ _ _) rfl rfl (lb rfl) Tryz.underlying33 ag33 ti33 (by decide) (svR rfl) rfl (nle rfl) rfl) <|aA rfl (mC rfl rfl (lb rfl) Tryz.underlying33 (sv (d:=.osl _ _ _) rfl)) <|aA rfl (aM rfl rfl (lb rfl) (sv (d:=.int _ 0) rfl)) <|aD ?_)
  refine bZ ?_
  refine dW (α:=Nat × Int × (List aJ)) (fun z=>⟨[(2,.bool a2),(3,.ref 0 0),(6,.ref 1 0),(7,.ref 3 0),(8,.int .i64 x14),(47,.int .i64 (x1.2.2.2.1.length : Int)),(48,.int .i64 z.2.1)],[(0,.blk 37 (v2 a0)),(1,.blk 37 (w42 0 [] 0 ([] : List aJ) ([] : List aG) false false false false)),(3,.blk 37 (w43 x1.1 x1.2.1 x1.2.2.1 (.osl 2 aB.sz z.2.2.length) x1.2.2.2.2.1 x1.2.2.2.2.2.1 x1.2.2.2.2.2.2.1 x1.2.2.2.2.2.2.2.1 x1.2.2.2.2.2.2.2.2)),(2,.blk 105 (D.flat (z.2.2.map aB.d)))]⟩) (fun z=>iA a0 a2 x1 x14 z.1 z.2.1 z.2.2 = some r) (fun z=>z.1) (fuel,0,x1.2.2.2.1) (fun i=>i) ⟨(.sames rfl rfl),(.cons (.blk rfl rfl rfl) (.cons (.blk rfl rfl rfl) (.cons (.blk rfl rfl rfl) (.cons (EntW.lst rfl) .nil)))),cK [0,1,3,2] rfl (by decide),fun _ _=>rfl⟩ ?_ ?_
  ·exact h
  ·
   rintro ⟨n0,v31,v32⟩ h
   cases n0 with
   | zero=>exact absurd h (by unfold iA; exact nofun)
   | succ n0 =>
    unfold iA at h
    obtain ⟨x49,hx49,h⟩:=aQ h
    refine aE (aA rfl (aP rfl rfl (lb rfl) (svI rfl) (svI rfl) rfl hx49) <|aD ?_)
    refine bC ?_
    refine aV (b:=_) rfl (fun hc50=>?_) (fun hc50=>?_)
    ·
     replace h:=cD h hc50
     refine aY ?_
     refine aS ?_
     refine bC ?_
     refine bZ ?_
     refine aE (aA rfl (mvI rfl rfl rfl rfl) <|aA rfl (asI rfl rfl rfl rfl) <|aD ?_)
     obtain ⟨x51,hx51,h⟩:=bF h
     refine aE (aA rfl (faR 3 rfl rfl rfl Tryz.underlying37 rfl ti33 (lb rfl) rfl rfl) <|aA rfl (aF (d:=.osl _ _ _) rfl rfl (lb rfl) Tryz.underlying33 ag33 ti33 (by decide) (svR rfl) rfl (nle rfl) rfl) <|aA rfl (mvI rfl rfl rfl rfl) <|aA rfl (kD aB.toEnc0 rfl rfl (lb rfl) Tryz.underlying33 dH (sv (d:=.osl _ _ _) rfl) rfl (svI rfl) hx51) <|aA rfl (aH rfl rfl (lb rfl) (svR rfl)) <|aD ?_)
     obtain ⟨x52,hx52,h⟩:=bF h
     obtain ⟨x53,hx53,h⟩:=aQ h
     obtain ⟨x54,hx54,h⟩:=bF h
     obtain ⟨x55,hx55,h⟩:=aQ h
     obtain ⟨x56,hx56,h⟩:=bF h
     obtain ⟨x57,hx57,h⟩:=aQ h
     obtain ⟨x58,hx58,h⟩:=bF h
     obtain ⟨x59,hx59,h⟩:=aQ h
     refine dD rfl [⟨[10],[],[(55,.ref 2 (((v31 : Int).toNat) * aB.sz + 0))],[]⟩,
      ⟨[10],[],[(56,.ref 2 (((v31 : Int).toNat) * aB.sz + 0))],[]⟩,
      ⟨[10],[],[(57,.ref 2 (((v31 : Int).toNat) * aB.sz + 0))],[]⟩,
      ⟨[57],[],[(58,.ref 2 (((v31 : Int).toNat) * aB.sz + 0))],[]⟩,
      ⟨[58],[],[(59,.ref 2 (((v31 : Int).toNat) * aB.sz + 0))],[]⟩,
      ⟨[59],[2],[(60,.int .i64 x52.From)],[]⟩,
      ⟨[8],[],[(61,.int .i64 x14)],[]⟩,
      ⟨[60,61],[],[(62,.int .i64 x53)],[]⟩,
      ⟨[10],[],[(63,.ref 2 (((v31 : Int).toNat) * aB.sz + 0))],[]⟩,
      ⟨[63],[],[(64,.ref 2 (((v31 : Int).toNat) * aB.sz + 0))],[]⟩,
      ⟨[64],[],[(65,.ref 2 (((v31 : Int).toNat) * aB.sz + 1))],[]⟩,
      ⟨[65],[2],[(66,.int .i64 x54.To)],[]⟩,
      ⟨[8],[],[(67,.int .i64 x14)],[]⟩,
      ⟨[66,67],[],[(68,.int .i64 x55)],[]⟩,
      ⟨[55],[],[(69,.ref 2 (((v31 : Int).toNat) * aB.sz + 0))],[]⟩,
      ⟨[69],[],[(70,.ref 2 (((v31 : Int).toNat) * aB.sz + 0))],[]⟩,
      ⟨[62,70],[2],[],[(2,.blk 105 (D.flat (x57.map aB.d)))]⟩,
      ⟨[56],[],[(71,.ref 2 (((v31 : Int).toNat) * aB.sz + 0))],[]⟩,
      ⟨[71],[],[(72,.ref 2 (((v31 : Int).toNat) * aB.sz + 1))],[]⟩,
      ⟨[68,72],[2],[],[(2,.blk 105 (D.flat (x59.map aB.d)))]⟩] rfl ?_ (by kernel_rfl) ?_
     ·refine .cons (lop rfl rfl fun S hA=>(aM rfl rfl (lb rfl) (svaR hA rfl rfl))) ?_
      refine .cons (lop rfl rfl fun S hA=>(aM rfl rfl (lb rfl) (svaR hA rfl rfl))) ?_
      refine .cons (lop rfl rfl fun S hA=>(aM rfl rfl (lb rfl) (svaR hA rfl rfl))) ?_
      refine .cons (lop rfl rfl fun S hA=>(aX rfl rfl (lb rfl) (svaR hA rfl rfl))) ?_
      refine .cons (lop rfl rfl fun S hA=>(iE rfl rfl (lb rfl) Tryz.underlying105 rfl ti3 (by decide) (svaR hA rfl rfl) (k':=0) rfl)) ?_
      refine .cons (lop rfl rfl fun S hA=>(mZ aB.toEnc0 (d:=.int _ _) rfl rfl (lb rfl) Tryz.underlying3 ag3 ti3 (by decide) (svaR hA rfl rfl) (agi hA rfl rfl) hx52 (nle rfl) rfl)) ?_
      refine .cons (lop rfl rfl fun S hA=>(aM rfl rfl (lb rfl) (svaI hA rfl rfl))) ?_
      refine .cons (lop rfl rfl fun S hA=>(kO rfl rfl (lb rfl) (svaI hA rfl rfl) (svaI hA rfl rfl) hx53)) ?_
      refine .cons (lop rfl rfl fun S hA=>(aM rfl rfl (lb rfl) (svaR hA rfl rfl))) ?_
      refine .cons (lop rfl rfl fun S hA=>(aX rfl rfl (lb rfl) (svaR hA rfl rfl))) ?_
      refine .cons (lop rfl rfl fun S hA=>(iE rfl rfl (lb rfl) Tryz.underlying105 rfl ti3 (by decide) (svaR hA rfl rfl) (k':=1) rfl)) ?_
      refine .cons (lop rfl rfl fun S hA=>(mZ aB.toEnc0 (d:=.int _ _) rfl rfl (lb rfl) Tryz.underlying3 ag3 ti3 (by decide) (svaR hA rfl rfl) (agi hA rfl rfl) hx54 (nle rfl) rfl)) ?_
      refine .cons (lop rfl rfl fun S hA=>(aM rfl rfl (lb rfl) (svaI hA rfl rfl))) ?_
      refine .cons (lop rfl rfl fun S hA=>(kO rfl rfl (lb rfl) (svaI hA rfl rfl) (svaI hA rfl rfl) hx55)) ?_
      refine .cons (lop rfl rfl fun S hA=>(aX rfl rfl (lb rfl) (svaR hA rfl rfl))) ?_
      refine .cons (lop rfl rfl fun S hA=>(iE rfl rfl (lb rfl) Tryz.underlying105 rfl ti3 (by decide) (svaR hA rfl rfl) (k':=0) rfl)) ?_
      refine .cons (lop rfl rfl fun S hA=>(lK aB.toEnc0 (a':=(⟨x53,x56.To,x56.Path,x56.Fin⟩ : aJ)) rfl rfl ti3 (svaR hA rfl rfl) (agi hA rfl rfl) (svaI hA rfl rfl) rfl rfl rfl hx56 (nle rfl) rfl hx57)) ?_
      refine .cons (lop rfl rfl fun S hA=>(aX rfl rfl (lb rfl) (svaR hA rfl rfl))) ?_
      refine .cons (lop rfl rfl fun S hA=>(iE rfl rfl (lb rfl) Tryz.underlying105 rfl ti3 (by decide) (svaR hA rfl rfl) (k':=1) rfl)) ?_
      refine .cons (lop rfl rfl fun S hA=>(lK aB.toEnc0 (a':=(⟨x58.From,x55,x58.Path,x58.Fin⟩ : aJ)) rfl rfl ti3 (svaR hA rfl rfl) (agi hA rfl rfl) (svaI hA rfl rfl) rfl rfl rfl hx58 (nle rfl) rfl hx59)) ?_
      exact .nil
     obtain ⟨x60,hx60,h⟩:=bF h
     obtain ⟨x61,hx61,h⟩:=aQ h
     obtain ⟨x62,hx62,h⟩:=bF h
     obtain ⟨x63,hx63,h⟩:=aQ h
     refine bO (aA rfl (mvR rfl rfl rfl rfl) <|aA rfl (mvR rfl rfl rfl rfl) <|aA rfl (aX rfl rfl (lb rfl) (svR rfl)) <|aA rfl (iE rfl rfl (lb rfl) Tryz.underlying105 rfl ti4 (by decide) (svR rfl) (k':=3) rfl) <|aA rfl (mZ aB.toEnc0 (d:=.bool _) rfl rfl (lb rfl) Tryz.underlying4 ag4 ti4 (by decide) (svR rfl) rfl hx60 (nle rfl) rfl) <|aA rfl (mvB rfl rfl rfl rfl) <|aC rfl rfl (.one rfl) rfl (by decide) (fun hb=>(mvB rfl rfl rfl rfl)) <|aC rfl rfl (.one rfl) rfl (by decide) (fun hb=>(dB rfl rfl (lb rfl) (svcB rfl hb))) <|aA rfl (bT rfl rfl (lb rfl) (svB rfl) rfl rfl hx61) <|aA rfl (aX rfl rfl (lb rfl) (svR rfl)) <|aA rfl (iE rfl rfl (lb rfl) Tryz.underlying105 rfl ti4 (by decide) (svR rfl) (k':=3) rfl) <|aA rfl (lK aB.toEnc0 (a':=(⟨x62.From,x62.To,x62.Path,x61⟩ : aJ)) rfl rfl ti4 (svR rfl) rfl (svB rfl) rfl rfl rfl hx62 (nle rfl) rfl hx63) <|cL ?_)
     refine cO ?_
     refine aS ?_
     obtain ⟨x64,hx64,h⟩:=aQ h
     refine bO (aA rfl (bM rfl rfl (lb rfl) (svI rfl) (sv (d:=.int _ 1) rfl) rfl hx64) <|aA rfl (mvI rfl rfl rfl rfl) <|cL ?_)
     refine aS ⟨(n0,x64,x63),(fun i=>i),⟨(.sames rfl rfl),(.cons (.blk rfl rfl rfl) (.cons (.blk rfl rfl rfl) (.cons (.blk rfl (by rw [← (qY hx63 (qY hx59 (qY hx57 rfl)))]; rfl) rfl) (.cons (EntW.lst rfl) .nil)))),cK [0,1,3,2] rfl (by decide),fun _ _=>rfl⟩,?_,?_⟩
     exact h
     exact Nat.lt_succ_self _
    ·
     replace h:=cE h hc50
     refine eE ?_
     refine cU ?_
     refine cU ?_
     refine eG ?_
     refine aS ?_
     obtain ⟨x65,hx65,h⟩:=bF h
     refine aE (aA rfl (faR 3 rfl rfl rfl Tryz.underlying37 rfl ti33 (lb rfl) rfl rfl) <|aA rfl (aF (d:=.osl _ _ _) rfl rfl (lb rfl) Tryz.underlying33 ag33 ti33 (by decide) (svR rfl) rfl (nle rfl) rfl) <|aA rfl (dO (r':=.osl 4 aB.sz x65.length) (H1':=[(4,.blk 105 (D.flat (x65.map aB.d)))]) 4 [2] rfl rfl (lb rfl) cl139 (.cons (sv (d:=.osl _ _ _) rfl) (.cons (sv (d:=.fn 140 []) rfl) .nil)) rfl rfl ⟨rfl,rfl,by decide,rfl,List.forall_mem_cons.2 ⟨⟨rfl,rfl,(pL aB rfl),(fB aB)⟩,List.forall_mem_nil _⟩⟩ (gA _ _ hx65) rfl rfl (List.forall_mem_cons.2 ⟨⟨rfl,(fB aB)⟩,List.forall_mem_nil _⟩) (by simp only [List.map_cons,List.map_nil,Ent.ren,eD,eQ]; rfl)) <|aA rfl (faR 3 rfl rfl rfl Tryz.underlying37 rfl ti33 (lb rfl) rfl rfl) <|aA rfl (bN (ds':=q16) rfl rfl ti33 (svR rfl) rfl (sv (d:=.osl _ _ _) rfl) rfl rfl rfl (nle rfl) rfl) <|aD ?_)
     obtain ⟨x66,hx66,h⟩:=aQ h
     obtain ⟨x67,hx67,h⟩:=bF h
     refine dD rfl [⟨[8],[],[(89,.int .i64 x14)],[]⟩,
      ⟨[3],[],[(90,.ref 0 1)],[]⟩,
      ⟨[90],[0],[(91,.str a0.Data)],[]⟩,
      ⟨[8],[],[(92,.int .i64 x14)],[]⟩,
      ⟨[3],[],[(93,.ref 0 0)],[]⟩,
      ⟨[93],[0],[(94,.int .i64 a0.Base)],[]⟩,
      ⟨[92,94],[],[(95,.int .i64 x66)],[]⟩,
      ⟨[91,95],[],[(96,.str x67)],[]⟩,
      ⟨[7],[],[(97,.ref 3 0)],[]⟩,
      ⟨[89,97],[3],[],[(3,.blk 37 (w43 x14 x1.2.1 x1.2.2.1 (.osl 4 aB.sz x65.length) x1.2.2.2.2.1 x1.2.2.2.2.2.1 x1.2.2.2.2.2.2.1 x1.2.2.2.2.2.2.2.1 x1.2.2.2.2.2.2.2.2))]⟩,
      ⟨[7],[],[(98,.ref 3 1)],[]⟩,
      ⟨[96,98],[3],[],[(3,.blk 37 (w43 x14 x67 x1.2.2.1 (.osl 4 aB.sz x65.length) x1.2.2.2.2.1 x1.2.2.2.2.2.1 x1.2.2.2.2.2.2.1 x1.2.2.2.2.2.2.2.1 x1.2.2.2.2.2.2.2.2))]⟩] rfl ?_ (by kernel_rfl) ?_
     ·refine .cons (lop rfl rfl fun S hA=>(aM rfl rfl (lb rfl) (svaI hA rfl rfl))) ?_
      refine .cons (lop rfl rfl fun S hA=>(aI rfl rfl (lb rfl) Tryz.underlying37 rfl ti9 (by decide) (svaR hA rfl rfl) (off':=1) rfl)) ?_
      refine .cons (lop rfl rfl fun S hA=>(aF (d:=.str _) rfl rfl (lb rfl) Tryz.underlying9 ag9 ti9 (by decide) (svaR hA rfl rfl) (agi hA rfl rfl) (nle rfl) rfl)) ?_
      refine .cons (lop rfl rfl fun S hA=>(aM rfl rfl (lb rfl) (svaI hA rfl rfl))) ?_
      refine .cons (lop rfl rfl fun S hA=>(aI rfl rfl (lb rfl) Tryz.underlying37 rfl ti3 (by decide) (svaR hA rfl rfl) (off':=0) rfl)) ?_
      refine .cons (lop rfl rfl fun S hA=>(aF (d:=.int _ _) rfl rfl (lb rfl) Tryz.underlying3 ag3 ti3 (by decide) (svaR hA rfl rfl) (agi hA rfl rfl) (nle rfl) rfl)) ?_
      refine .cons (lop rfl rfl fun S hA=>(bM rfl rfl (lb rfl) (svaI hA rfl rfl) (svaI hA rfl rfl) rfl hx66)) ?_
      refine .cons (lop rfl rfl fun S hA=>(jL rfl rfl (lb rfl) Tryz.underlying9 (sv (d:=.str _) (agr hA rfl rfl)) ⟨_,(svaI hA rfl rfl)⟩ rfl hx67)) ?_
      refine .cons (lop rfl rfl fun S hA=>(aI rfl rfl (lb rfl) Tryz.underlying37 rfl ti3 (by decide) (svaR hA rfl rfl) (off':=0) rfl)) ?_
      refine .cons (lop rfl rfl fun S hA=>(bN (ds':=q16) rfl rfl ti3 (svaR hA rfl rfl) (agi hA rfl rfl) (svaI hA rfl rfl) rfl rfl rfl (nle rfl) rfl)) ?_
      refine .cons (lop rfl rfl fun S hA=>(aI rfl rfl (lb rfl) Tryz.underlying37 rfl ti9 (by decide) (svaR hA rfl rfl) (off':=1) rfl)) ?_
      refine .cons (lop rfl rfl fun S hA=>(bN (ds':=q16) rfl rfl ti9 (svaR hA rfl rfl) (agi hA rfl rfl) (sv (d:=.str _) (agr hA rfl rfl)) rfl rfl rfl (nle rfl) rfl)) ?_
      exact .nil
     obtain ⟨x68,hx68,h⟩:=bF h
     refine aE (aA rfl (faR 4 rfl rfl rfl Tryz.underlying37 rfl ti35 (lb rfl) rfl rfl) <|aA rfl (lrL la35 rfl rfl rfl rfl rfl (nle rfl) rfl) <|aA rfl (mvI rfl rfl rfl rfl) <|aA rfl (bS (cs:=q27) rfl rfl (lb rfl) Tryz.underlying219 fF aBT rfl (.cons (svI rfl) .nil) rfl) <|aA rfl (aU (r:=.slice _ _) rfl rfl (lb rfl) cl134 (.cons (svL rfl) (.cons (svA q27 rfl) .nil)) rfl (pH _ _ _ hx68)) <|aA rfl (faR 4 rfl rfl rfl Tryz.underlying37 rfl ti35 (lb rfl) rfl rfl) <|aA rfl (bN (ds':=q16) rfl rfl ti35 (svR rfl) rfl (svL rfl) rfl rfl rfl (nle rfl) rfl) <|aD ?_)
     refine bC ?_
     refine aE (aA rfl (mvB rfl rfl rfl rfl) <|aD ?_)
     refine aV (b:=_) rfl (fun hc69=>?_) (fun hc69=>?_)
     ·
      replace h:=cD h hc69
      refine bO (aA rfl (faR 8 rfl rfl rfl Tryz.underlying37 rfl ti4 (lb rfl) rfl rfl) <|aA rfl (bN (ds':=q16) rfl rfl ti4 (svR rfl) rfl (sv (d:=.bool true) rfl) rfl rfl rfl (nle rfl) rfl) <|aA rfl (faR 7 rfl rfl rfl Tryz.underlying37 rfl ti4 (lb rfl) rfl rfl) <|aA rfl (bN (ds':=q16) rfl rfl ti4 (svR rfl) rfl (sv (d:=.bool false) rfl) rfl rfl rfl (nle rfl) rfl) <|cL ?_)
      refine aS ?_
      refine aE (aA rfl (lra q16 la37 rfl rfl rfl rfl rfl (nle rfl) rfl) <|aA rfl (stA q16 q16 ti37 rfl rfl rfl rfl rfl rfl rfl rfl (nle rfl) rfl) <|aD ?_)
      refine aT ?_
      obtain rfl:=Option.some.inj h
      refine ⟨.inr rfl,_,(.cons (rva la37 rfl rfl (nle rfl) rfl) .nil),(.cons (.agg (.k (.k (.k (.cons (FDT aB rfl rfl) (.all _)))))) .nil)⟩
     ·
      replace h:=cE h hc69
      refine aY ?_
      refine aS ?_
      refine aE (aA rfl (lra q16 la37 rfl rfl rfl rfl rfl (nle rfl) rfl) <|aA rfl (stA q16 q16 ti37 rfl rfl rfl rfl rfl rfl rfl rfl (nle rfl) rfl) <|aD ?_)
      refine aT ?_
      obtain rfl:=Option.some.inj h
      refine ⟨.inr rfl,_,(.cons (rva la37 rfl rfl (nle rfl) rfl) .nil),(.cons (.agg (.k (.k (.k (.cons (FDT aB rfl rfl) (.all _)))))) .nil)⟩

theorem qT (a0 : aR) (a1 : Int) (a2 : Bool) (r : aR) (h : jY a0 a1 a2 = some r) : FnH Tryz.prog 92 [.ref 1000 0,.ref 1001 0,.ref 1002 0] [(1000,.blk 46 (v1 a0)),(1001,.blk 3 [.int .i64 a1]),(1002,.blk 4 [.bool a2])] (retD []) [(1000,.blk 46 (v1 r)),(1001,.blk 3 [.int .i64 a1]),(1002,.blk 4 [.bool a2])]:=by
 refine fE (rs:=[]) Tryz.func92 rfl Tryz.ntmps92 (nle rfl) fun O hO=>?_
 show IWP _ _ _ _ ⟨[(0,.ref 1000 0),(1,.ref 1001 0),(2,.ref 1002 0)],[(1000,.blk 46 (v1 a0)),(1001,.blk 3 [.int .i64 a1]),(1002,.blk 4 [.bool a2])]⟩ _
 unfold jY at h
 obtain ⟨x1,hx1,h⟩:=bF h
 refine lF rfl [⟨[0],[],[(4,.ref 1000 0)],[]⟩,
  ⟨[0],[],[(5,.ref 1000 0)],[]⟩,
  ⟨[5],[],[(6,.ref 1000 0)],[]⟩,
  ⟨[6],[],[(7,.ref 1000 1)],[]⟩,
  ⟨[7],[1000],[(8,.agg (v2 a0.Send))],[]⟩,
  ⟨[1],[1001],[(9,.int .i64 a1)],[]⟩,
  ⟨[2],[1002],[(10,.bool a2)],[]⟩,
  ⟨[8,9,10],[],[(11,.agg (v2 x1))],[]⟩,
  ⟨[4],[],[(12,.ref 1000 0)],[]⟩,
  ⟨[12],[],[(13,.ref 1000 1)],[]⟩,
  ⟨[11,13],[1000],[],[(1000,.blk 46 (w41 a0.ID x1.Base x1.Data x1.Next x1.Pieces x1.Lost x1.Closed x1.Sent x1.Again x1.Done a0.Recv.Recv.Base a0.Recv.Recv.Ready a0.Recv.Recv.Parts a0.Recv.End a0.Out.Window a0.Out.Limit a0.Out.Used a0.Out.Read a0.In.Window a0.In.Limit a0.In.Used a0.In.Read a0.Mine a0.Hers))]⟩] rfl ?_ (by kernel_rfl) ?_
 ·refine .cons (lop rfl rfl fun S hA=>(aM rfl rfl (lb rfl) (svaR hA rfl rfl))) ?_
  refine .cons (lop rfl rfl fun S hA=>(aM rfl rfl (lb rfl) (svaR hA rfl rfl))) ?_
  refine .cons (lop rfl rfl fun S hA=>(aX rfl rfl (lb rfl) (svaR hA rfl rfl))) ?_
  refine .cons (lop rfl rfl fun S hA=>(aI rfl rfl (lb rfl) Tryz.underlying46 rfl ti37 (by decide) (svaR hA rfl rfl) (off':=1) rfl)) ?_
  refine .cons (lop rfl rfl fun S hA=>(bK (cs:=q15) rfl rfl (lb rfl) Tryz.underlying37 ag37 ti37 (by decide) (svaR hA rfl rfl) (agi hA rfl rfl) (nle rfl) rfl)) ?_
  refine .cons (lop rfl rfl fun S hA=>(aF (d:=.int _ _) rfl rfl (lb rfl) Tryz.underlying3 ag3 ti3 (by decide) (svaR hA rfl rfl) (agi hA rfl rfl) (nle rfl) rfl)) ?_
  refine .cons (lop rfl rfl fun S hA=>(aF (d:=.bool _) rfl rfl (lb rfl) Tryz.underlying4 ag4 ti4 (by decide) (svaR hA rfl rfl) (agi hA rfl rfl) (nle rfl) rfl)) ?_
  refine .cons (lop rfl rfl fun S hA=>(aU (r:=.agg q15) rfl rfl (lb rfl) cl93 (.cons (svaA q15 hA rfl rfl) (.cons (svaI hA rfl rfl) (.cons (svaB hA rfl rfl) .nil))) rfl (xP _ _ _ _ hx1))) ?_
  refine .cons (lop rfl rfl fun S hA=>(aX rfl rfl (lb rfl) (svaR hA rfl rfl))) ?_
  refine .cons (lop rfl rfl fun S hA=>(aI rfl rfl (lb rfl) Tryz.underlying46 rfl ti37 (by decide) (svaR hA rfl rfl) (off':=1) rfl)) ?_
  refine .cons (lop rfl rfl fun S hA=>(bN (ds':=q13) rfl rfl ti37 (svaR hA rfl rfl) (agi hA rfl rfl) (svaA q15 hA rfl rfl) rfl rfl rfl (nle rfl) rfl)) ?_
  exact .nil
 obtain rfl:=Option.some.inj h
 refine ⟨.inl rfl,(fun i=>i),⟨.nil,(.cons (.blk rfl rfl rfl) (.cons (.blk rfl rfl rfl) (.cons (.blk rfl rfl rfl) .nil))),cK [1000,1001,1002] rfl (by decide),fun _ _=>rfl⟩,.nil,rfl⟩

theorem lC (a0 : aR) (a1 : Int) (a2 : Bool) (r : aR) (h : fC a0 a1 a2 = some r) : FnH Tryz.prog 79 [.agg (v1 a0),.fn 92 [.ref 1000 0,.ref 1001 0]] [(1000,.blk 3 [.int .i64 a1]),(1001,.blk 4 [.bool a2])] (.agg (v1 r)) [(1000,.blk 3 [.int .i64 a1]),(1001,.blk 4 [.bool a2])]:=by
 refine fE (rs:=[.agg (v1 r)]) Tryz.func79 rfl Tryz.ntmps79 (nle rfl) fun O hO=>?_
 show IWP _ _ _ _ ⟨[(0,.agg (v1 a0)),(1,.fn 92 [.ref 1000 0,.ref 1001 0])],[(1000,.blk 3 [.int .i64 a1]),(1001,.blk 4 [.bool a2])]⟩ _
 unfold fC at h
 refine aE (aA rfl (bR (cs:=q13) 0 rfl rfl (lb rfl) rfl (svA q13 rfl) rfl rfl) <|aA rfl (bD (cs:=q14) (cs':=(w41 0 0 [] 0 ([] : List aJ) ([] : List aG) false false false false 0 [] ([] : List aN) 0 0 0 0 0 0 0 0 0 0 0)) 1 rfl rfl (lb rfl) rfl ti46 rfl rfl (.k4 (.cons (.nils _) (.cons (.nils _) (.k4 (.k (.k (.cons (.nils _) (.all _))))))))) <|aD ?_)
 refine bC ?_
 obtain ⟨x1,hx1,h⟩:=bF h
 obtain ⟨x2,hx2,h⟩:=aQ h
 refine aE (aA rfl (lra q13 la46 rfl rfl rfl rfl rfl (nle rfl) rfl) <|aA rfl (aU (r:=.int _ _) rfl rfl (lb rfl) cl39 (.cons (svA q13 rfl) .nil) rfl (eY _ _ hx1)) <|aA rfl (aP rfl rfl (lb rfl) (svI rfl) (sv (d:=.int _ 0) rfl) rfl hx2) <|aD ?_)
 refine aV (b:=_) rfl (fun hc3=>?_) (fun hc3=>?_)
 ·
  replace h:=cD h hc3
  obtain ⟨x4,hx4,h⟩:=bF h
  refine bO (aA rfl (aM rfl rfl (lb rfl) (sv (d:=.fn 92 q28) rfl)) <|aA rfl (pJ (r':=.tuple []) (H1':=[(0,.blk 46 (v1 x4)),(1000,.blk 3 [.int .i64 a1]),(1001,.blk 4 [.bool a2])]) 2 [0,1000,1001] rfl rfl (lb rfl) cl92 (sv (d:=.fn 92 q28) rfl) (.cons (svR rfl) .nil) rfl rfl ⟨rfl,rfl,by decide,rfl,List.forall_mem_cons.2 ⟨⟨rfl,rfl,rfl,rfl⟩,List.forall_mem_cons.2 ⟨⟨rfl,rfl,rfl,rfl⟩,List.forall_mem_cons.2 ⟨⟨rfl,rfl,rfl,rfl⟩,List.forall_mem_nil _⟩⟩⟩⟩ (qT _ _ _ _ hx4) rfl rfl (List.forall_mem_cons.2 ⟨⟨rfl,rfl⟩,List.forall_mem_cons.2 ⟨⟨rfl,rfl⟩,List.forall_mem_cons.2 ⟨⟨rfl,rfl⟩,List.forall_mem_nil _⟩⟩⟩) rfl) <|cL ?_)
  refine aS ?_
  refine aE (aA rfl (lra q13 la46 rfl rfl rfl rfl rfl (nle rfl) rfl) <|aA rfl (stA q13 q13 ti46 rfl rfl rfl rfl rfl rfl rfl rfl (nle rfl) rfl) <|aD ?_)
  refine aT ?_
  obtain rfl:=Option.some.inj h
  refine ⟨.inr rfl,(fun i=>i),⟨.nil,(.cons (.blk rfl rfl rfl) (.cons (.blk rfl rfl rfl) .nil)),cK [1000,1001] rfl (by decide),fun _ _=>rfl⟩,(.cons (rva la46 rfl rfl (nle rfl) rfl) .nil),rfl⟩
 ·
  replace h:=cE h hc3
  refine aY ?_
  refine aS ?_
  refine aE (aA rfl (lra q13 la46 rfl rfl rfl rfl rfl (nle rfl) rfl) <|aA rfl (stA q13 q13 ti46 rfl rfl rfl rfl rfl rfl rfl rfl (nle rfl) rfl) <|aD ?_)
  refine aT ?_
  obtain rfl:=Option.some.inj h
  refine ⟨.inr rfl,(fun i=>i),⟨.nil,(.cons (.blk rfl rfl rfl) (.cons (.blk rfl rfl rfl) .nil)),cK [1000,1001] rfl (by decide),fun _ _=>rfl⟩,(.cons (rva la46 rfl rfl (nle rfl) rfl) .nil),rfl⟩

theorem uW (a0 : aR) (a1 : Int) (a2 : Bool) (r : aR) (h : lN a0 a1 a2 = some r) : cF Tryz.prog 37 [.agg (v1 a0),.int .i64 a1,.bool a2] (.agg (v1 r)):=by
 refine bA (rs:=[.agg (v1 r)]) Tryz.func37 rfl Tryz.ntmps37 (nle rfl) rfl fun O hO=>?_
 show IWP _ _ _ _ ⟨[(0,.agg (v1 a0)),(1,.int .i64 a1),(2,.bool a2)],[]⟩ _
 unfold lN at h
 refine aE (aA rfl (bR (cs:=q13) 0 rfl rfl (lb rfl) rfl (svA q13 rfl) rfl rfl) <|aA rfl (bR (cs:=[.int _ _]) 1 rfl rfl (lb rfl) rfl (svI rfl) rfl rfl) <|aA rfl (bR (cs:=[.bool _]) 2 rfl rfl (lb rfl) rfl (svB rfl) rfl rfl) <|aA rfl (bD (cs:=q14) (cs':=(w41 0 0 [] 0 ([] : List aJ) ([] : List aG) false false false false 0 [] ([] : List aN) 0 0 0 0 0 0 0 0 0 0 0)) 3 rfl rfl (lb rfl) rfl ti46 rfl rfl (.k4 (.cons (.nils _) (.cons (.nils _) (.k4 (.k (.k (.cons (.nils _) (.all _))))))))) <|aD ?_)
 obtain ⟨x1,hx1,h⟩:=bF h
 refine aE (aA rfl (lra q13 la46 rfl rfl rfl rfl rfl (nle rfl) rfl) <|aA rfl (jW rfl rfl (lb rfl) (.cons (svR rfl) (.cons (svR rfl) .nil))) <|aA rfl (dO (r':=.agg (v1 x1)) (H1':=[(1,.blk 3 [.int .i64 a1]),(2,.blk 4 [.bool a2])]) 4 [1,2] rfl rfl (lb rfl) cl79 (.cons (svA q13 rfl) (.cons (sv (d:=.fn 92 q28) rfl) .nil)) rfl rfl ⟨rfl,rfl,by decide,rfl,List.forall_mem_cons.2 ⟨⟨rfl,rfl,rfl,rfl⟩,List.forall_mem_cons.2 ⟨⟨rfl,rfl,rfl,rfl⟩,List.forall_mem_nil _⟩⟩⟩ (lC _ _ _ _ hx1) rfl rfl (List.forall_mem_cons.2 ⟨⟨rfl,rfl⟩,List.forall_mem_cons.2 ⟨⟨rfl,rfl⟩,List.forall_mem_nil _⟩⟩) rfl) <|aA rfl (stA q13 q13 ti46 rfl rfl rfl rfl rfl rfl rfl rfl (nle rfl) rfl) <|aD ?_)
 refine aT ?_
 obtain rfl:=Option.some.inj h
 refine ⟨.inr rfl,(.cons (rva la46 rfl rfl (nle rfl) rfl) .nil)⟩

theorem nI (a0 : aJ) (a1 : Int) (r : Bool) (h : jM a0 a1 = some r) : cF Tryz.prog 141 [.agg (v7 a0),.fptr [.int .i64 a1]] (.bool r):=by
 refine bA (rs:=[.bool r]) Tryz.func141 rfl Tryz.ntmps141 (nle rfl) rfl fun O hO=>?_
 show IWP _ _ _ _ ⟨[(0,.agg (v7 a0)),(1,.fptr [.int .i64 a1])],[]⟩ _
 unfold jM at h
 refine aE (aA rfl (bR (cs:=q20) 0 rfl rfl (lb rfl) rfl (svA q20 rfl) rfl rfl) <|aA rfl (aH rfl rfl (lb rfl) (sv (d:=.bool false) rfl)) <|aD ?_)
 obtain ⟨x1,hx1,h⟩:=aQ h
 refine aE (aA rfl (faR 2 rfl rfl rfl Tryz.underlying105 rfl ti3 (lb rfl) rfl rfl) <|aA rfl (aF (d:=.int _ _) rfl rfl (lb rfl) Tryz.underlying3 ag3 ti3 (by decide) (svR rfl) rfl (nle rfl) rfl) <|aA rfl (dA rfl rfl (lb rfl) Tryz.underlying3 ag3 ti3 (by decide) (sv (d:=.fptr [.int _ _]) rfl) (nle rfl)) <|aA rfl (aP rfl rfl (lb rfl) (svI rfl) (svI rfl) rfl hx1) <|aA rfl (asB rfl rfl rfl rfl) <|aD ?_)
 refine aT ?_
 obtain rfl:=Option.some.inj h
 refine ⟨.inr rfl,(.cons (sv rfl) .nil)⟩

theorem kJ (a0 : aG) (a1 : (List aG)) (r : (List aG)) (h : fY a0 a1 = some r) : FnH Tryz.prog 178 [.osl 1000 aK.sz a1.length,.agg [.int .i64 a0.From,.int .i64 a0.To]] [(1000,.blk 219 (D.flat (a1.map aK.d)))] (.osl 0 aK.sz r.length) [(0,.blk 219 (D.flat (r.map aK.d)))]:=by
 refine fE (rs:=[.osl 0 aK.sz r.length]) Tryz.func178 rfl Tryz.ntmps178 (nle rfl) fun O hO=>?_
 show IWP _ _ _ _ ⟨[(0,.osl 1000 aK.sz a1.length),(1,.agg [.int .i64 a0.From,.int .i64 a0.To])],[(1000,.blk 219 (D.flat (a1.map aK.d)))]⟩ _
 unfold fY at h
 refine aE (aA rfl (bR (cs:=q27) 0 rfl rfl (lb rfl) rfl (svA q27 rfl) rfl rfl) <|aA rfl (aH rfl rfl (lb rfl) (sv (d:=.nils) rfl)) <|aD ?_)
 refine bC ?_
 obtain ⟨x1,hx1,h⟩:=bF h
 refine aE (aA rfl (lra q27 nK rfl rfl rfl rfl rfl (nle rfl) rfl) <|aA rfl (aU (r:=.bool _) rfl rfl (lb rfl) zX (.cons (svA q27 rfl) .nil) rfl (fX _ _ hx1)) <|aD ?_)
 refine aV (b:=_) rfl (fun hc2=>?_) (fun hc2=>?_)
 ·
  replace h:=cD h hc2
  refine aE (aA rfl (aM rfl rfl (lb rfl) (sv (d:=.osl _ _ _) rfl)) <|aA rfl (aH rfl rfl (lb rfl) (sv (d:=.osl _ _ _) rfl)) <|aD ?_)
  refine aT ?_
  refine bI ?_
  obtain rfl:=Option.some.inj h
  refine ⟨.inr rfl,(fun i=>if i = 0 then 1000 else i),⟨.nil,(.cons (EntW.lst rfl) .nil),cK [1000] rfl (by decide),(fun i hi=>by first | rfl | (show (if _ then _ else _) = _; (repeat' split) <;> omega))⟩,(.cons (sv rfl) .nil),rfl⟩
 ·
  replace h:=cE h hc2
  refine aY ?_
  refine aS ?_
  refine bC ?_
  refine aE (aA rfl (aM rfl rfl (lb rfl) (sv (d:=.osl _ _ _) rfl)) <|aA rfl (mC rfl rfl (lb rfl) Tryz.underlying35 (sv (d:=.osl _ _ _) rfl)) <|aA rfl (asI rfl rfl rfl rfl) <|aD ?_)
  obtain ⟨x3,hx3,h⟩:=aQ h
  obtain ⟨x4,hx4,h⟩:=aQ h
  obtain ⟨x5,hx5,h⟩:=bF h
  obtain ⟨x6,hx6,h⟩:=bF h
  obtain ⟨x7,hx7,h⟩:=aQ h
  obtain ⟨x8,hx8,h⟩:=aQ h
  refine dD rfl [⟨[5],[],[(11,.int .i64 (a1.length : Int))],[]⟩,
   ⟨[11],[],[(12,.bool x3)],[]⟩,
   ⟨[12],[],[(13,.bool x3)],[]⟩,
   ⟨[0,13],[],[(14,.cnd (x3 == true) (.osl 1000 aK.sz a1.length))],[]⟩,
   ⟨[5,13],[],[(15,.cnd (x3 == true) (.int .i64 (a1.length : Int)))],[]⟩,
   ⟨[13,15],[],[(16,.cnd (x3 == true) (.int .i64 x4))],[]⟩,
   ⟨[13,14,16],[],[(17,.cnd (x3 == true) (.ref 1000 (((x4 : Int).toNat) * aK.sz + 0)))],[]⟩,
   ⟨[13,17],[],[(18,.cnd (x3 == true) (.ref 1000 (((x4 : Int).toNat) * aK.sz + 1)))],[]⟩,
   ⟨[13,18],[1000],[(19,.cnd (x3 == true) (.int .i64 x6.To))],[]⟩,
   ⟨[3,13],[],[(20,.cnd (x3 == true) (.ref 0 0))],[]⟩,
   ⟨[13,20],[0],[(21,.cnd (x3 == true) (.int .i64 a0.From))],[]⟩,
   ⟨[13,19,21],[],[(22,.cnd (x3 == true) (.bool x7))],[]⟩,
   ⟨[13,22],[],[(23,.bool x8)],[]⟩] rfl ?_ (by kernel_rfl) ?_
  ·refine .cons (lop rfl rfl fun S hA=>(aM rfl rfl (lb rfl) (svaI hA rfl rfl))) ?_
   refine .cons (lop rfl rfl fun S hA=>(aP rfl rfl (lb rfl) (svaI hA rfl rfl) (sv (d:=.int _ 0) rfl) rfl hx3)) ?_
   refine .cons (lop rfl rfl fun S hA=>(aM rfl rfl (lb rfl) (svaB hA rfl rfl))) ?_
   refine .cons (lopg rfl rfl rfl rfl (by decide) (fun S hA=>grd1 hA rfl rfl) (fun S hA hb=>(aM rfl rfl (lb rfl) (sv (d:=.osl _ _ _) (agr hA rfl rfl))))) ?_
   refine .cons (lopg rfl rfl rfl rfl (by decide) (fun S hA=>grd1 hA rfl rfl) (fun S hA hb=>(aM rfl rfl (lb rfl) (svaI hA rfl rfl)))) ?_
   refine .cons (lopg rfl rfl rfl rfl (by decide) (fun S hA=>grd1 hA rfl rfl) (fun S hA hb=>(bM rfl rfl (lb rfl) (svc (d:=.int _ _) (agr hA rfl rfl) hb) (sv (d:=.int _ 1) rfl) rfl hx4))) ?_
   refine .cons (lopg rfl rfl rfl rfl (by decide) (fun S hA=>grd1 hA rfl rfl) (fun S hA hb=>(kD aK.toEnc0 rfl rfl (lb rfl) Tryz.underlying35 fF (svc (d:=.osl _ _ _) (agr hA rfl rfl) hb) rfl (svc (d:=.int _ _) (agr hA rfl rfl) hb) (gd_t hx5 hb)))) ?_
   refine .cons (lopg rfl rfl rfl rfl (by decide) (fun S hA=>grd1 hA rfl rfl) (fun S hA hb=>(iE rfl rfl (lb rfl) Tryz.underlying219 rfl ti3 (by decide) (svc (d:=.ref _ _) (agr hA rfl rfl) hb) (k':=1) rfl))) ?_
   refine .cons (lopg rfl rfl rfl rfl (by decide) (fun S hA=>grd1 hA rfl rfl) (fun S hA hb=>(mZ aK.toEnc0 (d:=.int _ _) rfl rfl (lb rfl) Tryz.underlying3 ag3 ti3 (by decide) (svc (d:=.ref _ _) (agr hA rfl rfl) hb) (agi hA rfl rfl) (gd_t hx6 hb) (nle rfl) rfl))) ?_
   refine .cons (lopg rfl rfl rfl rfl (by decide) (fun S hA=>grd1 hA rfl rfl) (fun S hA hb=>(aI rfl rfl (lb rfl) Tryz.underlying219 rfl ti3 (by decide) (svaR hA rfl rfl) (off':=0) rfl))) ?_
   refine .cons (lopg rfl rfl rfl rfl (by decide) (fun S hA=>grd1 hA rfl rfl) (fun S hA hb=>(aF (d:=.int _ _) rfl rfl (lb rfl) Tryz.underlying3 ag3 ti3 (by decide) (svc (d:=.ref _ _) (agr hA rfl rfl) hb) (agi hA rfl rfl) (nle rfl) rfl))) ?_
   refine .cons (lopg rfl rfl rfl rfl (by decide) (fun S hA=>grd1 hA rfl rfl) (fun S hA hb=>(aP rfl rfl (lb rfl) (svc (d:=.int _ _) (agr hA rfl rfl) hb) (svc (d:=.int _ _) (agr hA rfl rfl) hb) rfl hx7))) ?_
   refine .cons (lop rfl rfl fun S hA=>(bT rfl rfl (lb rfl) (svaB hA rfl rfl) (agr hA rfl rfl) rfl hx8)) ?_
   exact .nil
  refine aV (b:=_) rfl (fun hc9=>?_) (fun hc9=>?_)
  ·
   replace h:=cD h hc9
   obtain ⟨x10,hx10,h⟩:=aQ h
   obtain ⟨x11,hx11,h⟩:=aQ h
   obtain ⟨x12,hx12,h⟩:=bF h
   obtain ⟨x13,hx13,h⟩:=bF h
   obtain ⟨x14,hx14,h⟩:=aQ h
   obtain ⟨x15,hx15,h⟩:=bF h
   obtain ⟨x16,hx16,h⟩:=bF h
   obtain ⟨x17,hx17,h⟩:=aQ h
   refine dD rfl [⟨[0],[],[(24,.osl 1000 aK.sz a1.length)],[]⟩,
    ⟨[5],[],[(25,.int .i64 (a1.length : Int))],[]⟩,
    ⟨[25],[],[(26,.int .i64 x10)],[]⟩,
    ⟨[0],[],[(27,.osl 1000 aK.sz a1.length)],[]⟩,
    ⟨[5],[],[(28,.int .i64 (a1.length : Int))],[]⟩,
    ⟨[28],[],[(29,.int .i64 x11)],[]⟩,
    ⟨[27,29],[],[(30,.ref 1000 (((x11 : Int).toNat) * aK.sz + 0))],[]⟩,
    ⟨[30],[],[(31,.ref 1000 (((x11 : Int).toNat) * aK.sz + 1))],[]⟩,
    ⟨[31],[1000],[(32,.int .i64 x13.To)],[]⟩,
    ⟨[3],[],[(33,.ref 0 1)],[]⟩,
    ⟨[33],[0],[(34,.int .i64 a0.To)],[]⟩,
    ⟨[32,34],[],[(35,.int .i64 x14)],[]⟩,
    ⟨[24,26],[],[(36,.ref 1000 (((x10 : Int).toNat) * aK.sz + 0))],[]⟩,
    ⟨[36],[],[(37,.ref 1000 (((x10 : Int).toNat) * aK.sz + 1))],[]⟩,
    ⟨[35,37],[1000],[],[(1000,.blk 219 (D.flat (x17.map aK.d)))]⟩] rfl ?_ (by kernel_rfl) ?_
   ·refine .cons (lop rfl rfl fun S hA=>(aM rfl rfl (lb rfl) (sv (d:=.osl _ _ _) (agr hA rfl rfl)))) ?_
    refine .cons (lop rfl rfl fun S hA=>(aM rfl rfl (lb rfl) (svaI hA rfl rfl))) ?_
    refine .cons (lop rfl rfl fun S hA=>(bM rfl rfl (lb rfl) (svaI hA rfl rfl) (sv (d:=.int _ 1) rfl) rfl hx10)) ?_
    refine .cons (lop rfl rfl fun S hA=>(aM rfl rfl (lb rfl) (sv (d:=.osl _ _ _) (agr hA rfl rfl)))) ?_
    refine .cons (lop rfl rfl fun S hA=>(aM rfl rfl (lb rfl) (svaI hA rfl rfl))) ?_
    refine .cons (lop rfl rfl fun S hA=>(bM rfl rfl (lb rfl) (svaI hA rfl rfl) (sv (d:=.int _ 1) rfl) rfl hx11)) ?_
    refine .cons (lop rfl rfl fun S hA=>(kD aK.toEnc0 rfl rfl (lb rfl) Tryz.underlying35 fF (sv (d:=.osl _ _ _) (agr hA rfl rfl)) rfl (svaI hA rfl rfl) hx12)) ?_
    refine .cons (lop rfl rfl fun S hA=>(iE rfl rfl (lb rfl) Tryz.underlying219 rfl ti3 (by decide) (svaR hA rfl rfl) (k':=1) rfl)) ?_
    refine .cons (lop rfl rfl fun S hA=>(mZ aK.toEnc0 (d:=.int _ _) rfl rfl (lb rfl) Tryz.underlying3 ag3 ti3 (by decide) (svaR hA rfl rfl) (agi hA rfl rfl) hx13 (nle rfl) rfl)) ?_
    refine .cons (lop rfl rfl fun S hA=>(aI rfl rfl (lb rfl) Tryz.underlying219 rfl ti3 (by decide) (svaR hA rfl rfl) (off':=1) rfl)) ?_
    refine .cons (lop rfl rfl fun S hA=>(aF (d:=.int _ _) rfl rfl (lb rfl) Tryz.underlying3 ag3 ti3 (by decide) (svaR hA rfl rfl) (agi hA rfl rfl) (nle rfl) rfl)) ?_
    refine .cons (lop rfl rfl fun S hA=>(kO rfl rfl (lb rfl) (svaI hA rfl rfl) (svaI hA rfl rfl) hx14)) ?_
    refine .cons (lop rfl rfl fun S hA=>(kD aK.toEnc0 rfl rfl (lb rfl) Tryz.underlying35 fF (sv (d:=.osl _ _ _) (agr hA rfl rfl)) rfl (svaI hA rfl rfl) hx15)) ?_
    refine .cons (lop rfl rfl fun S hA=>(iE rfl rfl (lb rfl) Tryz.underlying219 rfl ti3 (by decide) (svaR hA rfl rfl) (k':=1) rfl)) ?_
    refine .cons (lop rfl rfl fun S hA=>(lK aK.toEnc0 (a':=(⟨x16.From,x14⟩ : aG)) rfl rfl ti3 (svaR hA rfl rfl) (agi hA rfl rfl) (svaI hA rfl rfl) rfl rfl rfl hx16 (nle rfl) rfl hx17)) ?_
    exact .nil
   refine aE (aA rfl (aM rfl rfl (lb rfl) (sv (d:=.osl _ _ _) rfl)) <|aA rfl (aH rfl rfl (lb rfl) (sv (d:=.osl _ _ _) rfl)) <|aD ?_)
   refine aT ?_
   refine bI ?_
   obtain rfl:=Option.some.inj h
   refine ⟨.inr rfl,(fun i=>if i = 0 then 1000 else i),⟨.nil,(.cons (EntW.lst rfl) .nil),cK [1000] rfl (by decide),(fun i hi=>by first | rfl | (show (if _ then _ else _) = _; (repeat' split) <;> omega))⟩,(.cons (sv (congrArg (D.osl _ _) (qY hx17 rfl).symm)) .nil),rfl⟩
  ·
   replace h:=cE h hc9
   refine aY ?_
   refine aS ?_
   obtain ⟨x18,hx18,h⟩:=bF h
   refine aE (aA rfl (aM rfl rfl (lb rfl) (sv (d:=.osl _ _ _) rfl)) <|aA rfl (lra q27 nK rfl rfl rfl rfl rfl (nle rfl) rfl) <|aA rfl (pK aK.toEnc0 ([(⟨a0.From,a0.To⟩ : aG)] : (List aG)) 1 rfl rfl (lb rfl) Tryz.underlying35 fF rfl (.cons (svA q27 rfl) .nil) rfl rfl (by decide)) <|aA rfl (mE aK.toEnc0 2 rfl rfl (lb rfl) Tryz.underlying35 fF rfl rfl rfl rfl rfl (zF aK.toEnc0 rfl rfl rfl) hx18) <|aA rfl (aH rfl rfl (lb rfl) (sv (d:=.osl _ _ _) rfl)) <|aD ?_)
   refine aT ?_
   obtain rfl:=Option.some.inj h
   refine ⟨.inr rfl,(fun i=>if i = 0 then 2 else i),⟨.nil,(.cons (EntW.lst rfl) .nil),cK [2] rfl (by decide),(fun i hi=>by first | rfl | (show (if _ then _ else _) = _; (repeat' split) <;> omega))⟩,(.cons (sv rfl) .nil),rfl⟩

theorem xU (a0 : (List aG)) (a1 : aG) (r : (List aG)) (h : oK a0 a1 = some r) : cF Tryz.prog 142 [.slice false (a0.map aK.d),.agg [.int .i64 a1.From,.int .i64 a1.To]] (.slice false (r.map aK.d)):=by
 refine iC (rs:=[.slice false (r.map aK.d)]) Tryz.func142 rfl Tryz.ntmps142 (nle rfl) rfl fun O hO=>?_
 show IWP _ _ _ _ ⟨[(0,.slice false (a0.map aK.d)),(1,.agg [.int .i64 a1.From,.int .i64 a1.To])],[]⟩ _
 unfold oK at h
 refine aE (aA rfl (bR (cs:=q27) 0 rfl rfl (lb rfl) rfl (svA q27 rfl) rfl rfl) <|aA rfl (aH rfl rfl (lb rfl) (sv (d:=.nils) rfl)) <|aD ?_)
 refine bC ?_
 obtain ⟨x1,hx1,h⟩:=bF h
 obtain ⟨x2,hx2,h⟩:=bF h
 obtain ⟨x3,hx3,h⟩:=aQ h
 obtain ⟨x4,hx4,h⟩:=bF h
 obtain ⟨x5,hx5,h⟩:=aQ h
 obtain ⟨x6,hx6,h⟩:=aQ h
 refine aE (aA rfl (lra q27 nK rfl rfl rfl rfl rfl (nle rfl) rfl) <|aA rfl (aU (r:=.bool _) rfl rfl (lb rfl) aBv (.cons (svA q27 rfl) .nil) rfl (jK _ _ hx1)) <|aA rfl (dB rfl rfl (lb rfl) (svB rfl)) <|aA rfl (mvB rfl rfl rfl rfl) <|aC rfl rfl (.one rfl) rfl (by decide) (fun hb=>(lra q27 nK rfl rfl rfl rfl rfl (nle rfl) rfl)) <|aC rfl rfl (.one rfl) rfl (by decide) (fun hb=>(aU (r:=.bool _) rfl rfl (lb rfl) zX (.cons (svc (d:=.agg [.int .i64 a1.From,.int .i64 a1.To]) rfl hb) .nil) rfl (fX _ _ (gd_t hx2 hb)))) <|aA rfl (cQ rfl rfl (lb rfl) (svB rfl) rfl rfl hx3) <|aA rfl (mvB rfl rfl rfl rfl) <|aC rfl rfl (.one rfl) rfl (by decide) (fun hb=>(mvL rfl rfl rfl rfl)) <|aC rfl rfl (.one rfl) rfl (by decide) (fun hb=>(aU (r:=.int _ _) rfl rfl (lb rfl) aBu (.cons (svcL rfl hb) .nil) rfl (lE _ _ (gd_t hx4 hb)))) <|aC rfl rfl (.one rfl) rfl (by decide) (fun hb=>(aP rfl rfl (lb rfl) (svcI rfl hb) (sv (d:=.int _ 0) rfl) rfl hx5)) <|aA rfl (cQ rfl rfl (lb rfl) (svB rfl) rfl rfl hx6) <|aD ?_)
 refine aV (b:=_) rfl (fun hc7=>?_) (fun hc7=>?_)
 ·
  replace h:=cD h hc7
  obtain ⟨x8,hx8,h⟩:=bF h
  refine aE (aA rfl (mvL rfl rfl rfl rfl) <|aA rfl (dO (r':=.osl 1 aK.sz x8.length) (H1':=[(1,.blk 219 (D.flat (x8.map aK.d)))]) 1 [] rfl rfl (lb rfl) cl169 (.cons (svL rfl) .nil) rfl rfl ⟨rfl,rfl,by decide,rfl,List.forall_mem_nil _⟩ (fP _ _ hx8) rfl rfl (List.forall_mem_cons.2 ⟨⟨rfl,(fB aK)⟩,List.forall_mem_nil _⟩) (by simp only [List.map_cons,List.map_nil,Ent.ren,eD,eQ]; rfl)) <|aA rfl (aH rfl rfl (lb rfl) (sv (d:=.osl _ _ _) rfl)) <|aD ?_)
  refine aT ?_
  refine bI ?_
  obtain rfl:=Option.some.inj h
  refine ⟨.inr rfl,_,(.cons (sv rfl) .nil),(.cons (FDT aK rfl rfl) .nil)⟩
 ·
  replace h:=cE h hc7
  refine aY ?_
  refine aS ?_
  refine aE (aA rfl (aH rfl rfl (lb rfl) (sv (d:=.nils) rfl)) <|aD ?_)
  refine aE (aA rfl (aH rfl rfl (lb rfl) (sv (d:=.bool false) rfl)) <|aD ?_)
  refine bC ?_
  refine aE (aA rfl (mvL rfl rfl rfl rfl) <|aA rfl (dL aK (l:=a0) rfl rfl (lb rfl) Tryz.underlying35 (svL rfl)) <|aA rfl (aM rfl rfl (lb rfl) (sv (d:=.int _ 0) rfl)) <|aD ?_)
  refine bZ ?_
  refine dW (α:=Nat × (List aG) × Bool × Int) (fun z=>⟨[(3,.ref 0 0),(5,.osl 22 aK.sz z.2.1.length),(6,.bool z.2.2.1),(23,.slice false (a0.map aK.d)),(24,.int .i64 (a0.length : Int)),(25,.int .i64 z.2.2.2)],[(0,.blk 219 [.int .i64 a1.From,.int .i64 a1.To]),(22,.blk 219 (D.flat (z.2.1.map aK.d)))]⟩) (fun z=>fK a0 a1 z.1 z.2.1 z.2.2.1 z.2.2.2 = some r) (fun z=>z.1) (fuel,([] : (List aG)),false,0) (fun i=>if i = 22 then 73 else i) ⟨(.s rfl rfl (.cons (.nilo rfl) (.sames rfl rfl))),(.cons (.blk rfl rfl rfl) (.cons (.nilb rfl) .nil)),cK [0,73] rfl (by decide),(fun i hi=>by first | rfl | (show (if _ then _ else _) = _; (repeat' split) <;> omega))⟩ ?_ ?_
  ·exact h
  ·
   rintro ⟨n0,v24,v25,v26⟩ h
   cases n0 with
   | zero=>exact absurd h (by unfold fK; exact nofun)
   | succ n0 =>
    unfold fK at h
    obtain ⟨x42,hx42,h⟩:=aQ h
    refine aE (aA rfl (aP rfl rfl (lb rfl) (svI rfl) (svI rfl) rfl hx42) <|aD ?_)
    refine bC ?_
    refine aV (b:=_) rfl (fun hc43=>?_) (fun hc43=>?_)
    ·
     replace h:=cD h hc43
     refine aY ?_
     refine aS ?_
     refine bC ?_
     refine bZ ?_
     obtain ⟨x44,hx44,h⟩:=bF h
     refine aE (aA rfl (dY aK (cs:=q27) rfl rfl (lb rfl) Tryz.underlying35 fF (svL rfl) (svI rfl) hx44 rfl rfl) <|aA rfl (dE (cs:=q27) rfl rfl (lb rfl) Tryz.underlying219 tY fF (by decide) (sv (d:=.fptr q27) rfl) (nle rfl) rfl) <|aA rfl (bD (cs:=q27) (cs':=[.int .i64 0,.int .i64 0]) 23 rfl rfl (lb rfl) rfl fF rfl rfl (.all _)) <|aA rfl (stA q27 q27 fF rfl rfl rfl rfl rfl rfl rfl rfl (nle rfl) rfl) <|aD ?_)
     refine kN (α:=(List aG) × Bool) (fun z=>⟨[(3,.ref 0 0),(5,.osl 24 aK.sz z.1.length),(6,.bool z.2),(23,.slice false (a0.map aK.d)),(24,.int .i64 (a0.length : Int)),(25,.int .i64 v26),(8,.ref 23 0)],[(0,.blk 219 [.int .i64 a1.From,.int .i64 a1.To]),(24,.blk 219 (D.flat (z.1.map aK.d))),(23,.blk 219 [.int .i64 x44.From,.int .i64 x44.To])]⟩) (fun z=>jV v26 (fK a0 a1 n0) x44 z.1 z.2 = some r) ?_ ?_
     ·
      obtain ⟨x53,hx53,h⟩:=aQ h
      obtain ⟨x54,hx54,h⟩:=aQ h
      refine aE (aA rfl (mvB rfl rfl rfl rfl) <|aA rfl (dB rfl rfl (lb rfl) (svB rfl)) <|aA rfl (mvB rfl rfl rfl rfl) <|aC rfl rfl (.one rfl) rfl (by decide) (fun hb=>(faR 0 rfl rfl rfl Tryz.underlying219 rfl ti3 (lb rfl) rfl rfl)) <|aC rfl rfl (.one rfl) rfl (by decide) (fun hb=>(aF (d:=.int _ _) rfl rfl (lb rfl) Tryz.underlying3 ag3 ti3 (by decide) (svcR rfl hb) rfl (nle rfl) rfl)) <|aC rfl rfl (.one rfl) rfl (by decide) (fun hb=>(faR 0 rfl rfl rfl Tryz.underlying219 rfl ti3 (lb rfl) rfl rfl)) <|aC rfl rfl (.one rfl) rfl (by decide) (fun hb=>(aF (d:=.int _ _) rfl rfl (lb rfl) Tryz.underlying3 ag3 ti3 (by decide) (svcR rfl hb) rfl (nle rfl) rfl)) <|aC rfl rfl (.one rfl) rfl (by decide) (fun hb=>(aP rfl rfl (lb rfl) (svcI rfl hb) (svcI rfl hb) rfl hx53)) <|aA rfl (bT rfl rfl (lb rfl) (svB rfl) rfl rfl hx54) <|aD ?_)
      refine aV (b:=_) rfl (fun hc55=>?_) (fun hc55=>?_)
      ·
       replace h:=cD h hc55
       obtain ⟨x56,hx56,h⟩:=bF h
       refine aE (aA rfl (aM rfl rfl (lb rfl) (sv (d:=.osl _ _ _) rfl)) <|aA rfl (lra q27 nK rfl rfl rfl rfl rfl (nle rfl) rfl) <|aA rfl (dO (r':=.osl 24 aK.sz x56.length) (H1':=[(24,.blk 219 (D.flat (x56.map aK.d)))]) 24 [22] rfl rfl (lb rfl) cl178 (.cons (sv (d:=.osl _ _ _) rfl) (.cons (svA q27 rfl) .nil)) rfl rfl ⟨rfl,rfl,by decide,rfl,List.forall_mem_cons.2 ⟨⟨rfl,rfl,(pL aK rfl),(fB aK)⟩,List.forall_mem_nil _⟩⟩ (kJ _ _ _ hx56) rfl rfl (List.forall_mem_cons.2 ⟨⟨rfl,(fB aK)⟩,List.forall_mem_nil _⟩) (by simp only [List.map_cons,List.map_nil,Ent.ren,eD,eQ]; rfl)) <|aA rfl (aH rfl rfl (lb rfl) (sv (d:=.osl _ _ _) rfl)) <|aD ?_)
       refine bO (aA rfl (aH rfl rfl (lb rfl) (sv (d:=.bool true) rfl)) <|cL ?_)
       refine aS ⟨(x56,true),(fun i=>i),⟨(.sames rfl rfl),(.cons (.blk rfl rfl rfl) (.cons (EntW.lst rfl) (.cons (.blk rfl rfl rfl) .nil))),cK [0,24,23] rfl (by decide),fun _ _=>rfl⟩,?_⟩
       exact h
      ·
       replace h:=cE h hc55
       refine aY ?_
       refine aS ⟨(v24,v25),(fun i=>if i = 24 then 22 else i),⟨(.sames rfl rfl),(.cons (.blk rfl rfl rfl) (.cons (EntW.lst rfl) (.cons (.blk rfl rfl rfl) .nil))),cK [0,22,23] rfl (by decide),(fun i hi=>by first | rfl | (show (if _ then _ else _) = _; (repeat' split) <;> omega))⟩,?_⟩
       exact h
     ·
      rintro ⟨v49,v50⟩ h
      unfold jV at h
      obtain ⟨x51,hx51,h⟩:=bF h
      refine bO (aA rfl (aM rfl rfl (lb rfl) (sv (d:=.osl _ _ _) rfl)) <|aA rfl (lra q27 nK rfl rfl rfl rfl rfl (nle rfl) rfl) <|aA rfl (dO (r':=.osl 25 aK.sz x51.length) (H1':=[(25,.blk 219 (D.flat (x51.map aK.d)))]) 25 [24] rfl rfl (lb rfl) cl178 (.cons (sv (d:=.osl _ _ _) rfl) (.cons (svA q27 rfl) .nil)) rfl rfl ⟨rfl,rfl,by decide,rfl,List.forall_mem_cons.2 ⟨⟨rfl,rfl,(pL aK rfl),(fB aK)⟩,List.forall_mem_nil _⟩⟩ (kJ _ _ _ hx51) rfl rfl (List.forall_mem_cons.2 ⟨⟨rfl,(fB aK)⟩,List.forall_mem_nil _⟩) (by simp only [List.map_cons,List.map_nil,Ent.ren,eD,eQ]; rfl)) <|aA rfl (aH rfl rfl (lb rfl) (sv (d:=.osl _ _ _) rfl)) <|cL ?_)
      refine cO ?_
      refine aS ?_
      obtain ⟨x52,hx52,h⟩:=aQ h
      refine bO (aA rfl (bM rfl rfl (lb rfl) (svI rfl) (sv (d:=.int _ 1) rfl) rfl hx52) <|aA rfl (mvI rfl rfl rfl rfl) <|cL ?_)
      refine aS ⟨(n0,x51,v50,x52),(fun i=>if i = 22 then 25 else i),⟨(.sames rfl rfl),(.cons (.blk rfl rfl rfl) (.cons (EntW.lst rfl) .nil)),cK [0,25] rfl (by decide),(fun i hi=>by first | rfl | (show (if _ then _ else _) = _; (repeat' split) <;> omega))⟩,?_,?_⟩
      exact h
      exact Nat.lt_succ_self _
    ·
     replace h:=cE h hc43
     refine eE ?_
     refine cU ?_
     refine cU ?_
     refine eG ?_
     refine aS ?_
     refine bC ?_
     refine aE (aA rfl (mvB rfl rfl rfl rfl) <|aA rfl (dB rfl rfl (lb rfl) (svB rfl)) <|aD ?_)
     refine aV (b:=_) rfl (fun hc57=>?_) (fun hc57=>?_)
     ·
      replace h:=cD h hc57
      obtain ⟨x58,hx58,h⟩:=bF h
      refine bO (aA rfl (aM rfl rfl (lb rfl) (sv (d:=.osl _ _ _) rfl)) <|aA rfl (lra q27 nK rfl rfl rfl rfl rfl (nle rfl) rfl) <|aA rfl (dO (r':=.osl 23 aK.sz x58.length) (H1':=[(23,.blk 219 (D.flat (x58.map aK.d)))]) 23 [22] rfl rfl (lb rfl) cl178 (.cons (sv (d:=.osl _ _ _) rfl) (.cons (svA q27 rfl) .nil)) rfl rfl ⟨rfl,rfl,by decide,rfl,List.forall_mem_cons.2 ⟨⟨rfl,rfl,(pL aK rfl),(fB aK)⟩,List.forall_mem_nil _⟩⟩ (kJ _ _ _ hx58) rfl rfl (List.forall_mem_cons.2 ⟨⟨rfl,(fB aK)⟩,List.forall_mem_nil _⟩) (by simp only [List.map_cons,List.map_nil,Ent.ren,eD,eQ]; rfl)) <|aA rfl (aH rfl rfl (lb rfl) (sv (d:=.osl _ _ _) rfl)) <|cL ?_)
      refine aS ?_
      refine aE (aA rfl (aM rfl rfl (lb rfl) (sv (d:=.osl _ _ _) rfl)) <|aA rfl (aH rfl rfl (lb rfl) (sv (d:=.osl _ _ _) rfl)) <|aD ?_)
      refine aT ?_
      obtain rfl:=Option.some.inj h
      refine ⟨.inr rfl,_,(.cons (sv rfl) .nil),(.cons (FDT aK rfl rfl) .nil)⟩
     ·
      replace h:=cE h hc57
      refine aY ?_
      refine aS ?_
      refine aE (aA rfl (aM rfl rfl (lb rfl) (sv (d:=.osl _ _ _) rfl)) <|aA rfl (aH rfl rfl (lb rfl) (sv (d:=.osl _ _ _) rfl)) <|aD ?_)
      refine aT ?_
      obtain rfl:=Option.some.inj h
      refine ⟨.inr rfl,_,(.cons (sv rfl) .nil),(.cons (FDT aK rfl rfl) .nil)⟩

theorem gR (a0 : (List aJ)) (a1 : Int) (r : Int) (h : dT a0 a1 = some r) : cF Tryz.prog 176 [.slice false (a0.map aB.d),.fn 141 [.fptr [.int .i64 a1]]] (.int .i64 r):=by
 refine bA (rs:=[.int .i64 r]) Tryz.func176 rfl Tryz.ntmps176 (nle rfl) rfl fun O hO=>?_
 show IWP _ _ _ _ ⟨[(0,.slice false (a0.map aB.d)),(1,.fn 141 [.fptr [.int .i64 a1]])],[]⟩ _
 unfold dT at h
 refine aE (aA rfl (aH rfl rfl (lb rfl) (sv (d:=.int _ 0) rfl)) <|aD ?_)
 refine bC ?_
 refine aE (aA rfl (mvL rfl rfl rfl rfl) <|aA rfl (dL aB (l:=a0) rfl rfl (lb rfl) Tryz.underlying33 (svL rfl)) <|aA rfl (aM rfl rfl (lb rfl) (sv (d:=.int _ 0) rfl)) <|aD ?_)
 refine bZ ?_
 refine dW (α:=Nat × Int) (fun z=>⟨[(0,.slice false (a0.map aB.d)),(1,.fn 141 [.fptr [.int .i64 a1]]),(7,.int .i64 (a0.length : Int)),(8,.int .i64 z.2)],[]⟩) (fun z=>cG a0 a1 z.1 z.2 = some r) (fun z=>z.1) (fuel,0) (fun i=>i) ⟨(.sames rfl rfl),.nil,cK [] rfl (by decide),fun _ _=>rfl⟩ ?_ ?_
 ·exact h
 ·
  rintro ⟨n0,v7⟩ h
  cases n0 with
  | zero=>exact absurd h (by unfold cG; exact nofun)
  | succ n0 =>
   unfold cG at h
   obtain ⟨x14,hx14,h⟩:=aQ h
   refine aE (aA rfl (aP rfl rfl (lb rfl) (svI rfl) (svI rfl) rfl hx14) <|aD ?_)
   refine bC ?_
   refine aV (b:=_) rfl (fun hc15=>?_) (fun hc15=>?_)
   ·
    replace h:=cD h hc15
    refine aY ?_
    refine aS ?_
    refine bC ?_
    refine bZ ?_
    refine aE (aA rfl (mvI rfl rfl rfl rfl) <|aA rfl (asI rfl rfl rfl rfl) <|aD ?_)
    obtain ⟨x16,hx16,h⟩:=bF h
    obtain ⟨x17,hx17,h⟩:=bF h
    refine aE (aA rfl (aM rfl rfl (lb rfl) (sv (d:=.fn 141 [.fptr [.int _ _]]) rfl)) <|aA rfl (mvL rfl rfl rfl rfl) <|aA rfl (mvI rfl rfl rfl rfl) <|aA rfl (dY aB (cs:=q20) rfl rfl (lb rfl) Tryz.underlying33 dH (svL rfl) (svI rfl) hx16 rfl rfl) <|aA rfl (dE (cs:=q20) rfl rfl (lb rfl) Tryz.underlying105 nN dH (by decide) (sv (d:=.fptr q20) rfl) (nle rfl) rfl) <|aA rfl (nB (r:=.bool _) rfl rfl (lb rfl) cl141 (sv (d:=.fn 141 [.fptr [.int _ _]]) rfl) (.cons (svA q20 rfl) .nil) rfl (nI _ _ _ hx17)) <|aD ?_)
    refine aV (b:=_) rfl (fun hc18=>?_) (fun hc18=>?_)
    ·
     replace h:=cD h hc18
     refine aE (aA rfl (mvI rfl rfl rfl rfl) <|aA rfl (asI rfl rfl rfl rfl) <|aD ?_)
     refine aT ?_
     refine cS ?_
     refine bI ?_
     refine bI ?_
     refine cS ?_
     refine bI ?_
     obtain rfl:=Option.some.inj h
     refine ⟨.inr rfl,(.cons (sv rfl) .nil)⟩
    ·
     replace h:=cE h hc18
     refine aY ?_
     refine cO ?_
     refine aS ?_
     obtain ⟨x19,hx19,h⟩:=aQ h
     refine bO (aA rfl (bM rfl rfl (lb rfl) (svI rfl) (sv (d:=.int _ 1) rfl) rfl hx19) <|aA rfl (mvI rfl rfl rfl rfl) <|cL ?_)
     refine aS ⟨(n0,x19),(fun i=>i),⟨(.sames rfl rfl),.nil,cK [] rfl (by decide),fun _ _=>rfl⟩,?_,?_⟩
     exact h
     exact Nat.lt_succ_self _
   ·
    replace h:=cE h hc15
    refine eE ?_
    refine cU ?_
    refine cU ?_
    refine eG ?_
    refine aS ?_
    refine aE (aA rfl (aH rfl rfl (lb rfl) (sv (d:=.int _ (-1)) rfl)) <|aD ?_)
    refine aT ?_
    obtain rfl:=Option.some.inj h
    refine ⟨.inr rfl,(.cons (sv rfl) .nil)⟩

theorem fZ (a0 : (List aJ)) (a1 : Int) (r : (List aJ)) (h : cV a0 a1 = some r) : FnH Tryz.prog 139 [.osl 1000 aB.sz a0.length,.fn 141 [.ref 1001 0]] [(1000,.blk 105 (D.flat (a0.map aB.d))),(1001,.blk 3 [.int .i64 a1])] (.osl 0 aB.sz r.length) [(1001,.blk 3 [.int .i64 a1]),(0,.blk 105 (D.flat (r.map aB.d)))]:=by
 refine fE (rs:=[.osl 0 aB.sz r.length]) Tryz.func139 rfl Tryz.ntmps139 (nle rfl) fun O hO=>?_
 show IWP _ _ _ _ ⟨[(0,.osl 1000 aB.sz a0.length),(1,.fn 141 [.ref 1001 0])],[(1000,.blk 105 (D.flat (a0.map aB.d))),(1001,.blk 3 [.int .i64 a1])]⟩ _
 unfold cV at h
 refine aE (aA rfl (aH rfl rfl (lb rfl) (sv (d:=.nils) rfl)) <|aD ?_)
 obtain ⟨x1,hx1,h⟩:=bF h
 refine aE (aA rfl (aM rfl rfl (lb rfl) (sv (d:=.osl _ _ _) rfl)) <|aA rfl (aM rfl rfl (lb rfl) (sv (d:=.fn 141 [.ref _ _]) rfl)) <|aA rfl (oL (r:=.int .i64 x1) rfl rfl (lb rfl) cl176 (.cons (sv (d:=.osl _ _ _) rfl) (.cons (sv (d:=.fn 141 [.ref _ _]) rfl) .nil)) (.cons (FDT aB rfl rfl) (.cons (.fn (.cons (.ref rfl rfl (oS _) rfl) .nil)) .nil)) rfl rfl (gR _ _ _ hx1)) <|aA rfl (asI rfl rfl rfl rfl) <|aD ?_)
 refine bC ?_
 obtain ⟨x2,hx2,h⟩:=aQ h
 refine aE (aA rfl (mvI rfl rfl rfl rfl) <|aA rfl (aP rfl rfl (lb rfl) (svI rfl) (sv (d:=.int _ (-1)) rfl) rfl hx2) <|aD ?_)
 refine aV (b:=_) rfl (fun hc3=>?_) (fun hc3=>?_)
 ·
  replace h:=cD h hc3
  refine aE (aA rfl (aM rfl rfl (lb rfl) (sv (d:=.osl _ _ _) rfl)) <|aA rfl (aH rfl rfl (lb rfl) (sv (d:=.osl _ _ _) rfl)) <|aD ?_)
  refine aT ?_
  refine bI ?_
  obtain rfl:=Option.some.inj h
  refine ⟨.inr rfl,(fun i=>if i = 0 then 1000 else i),⟨.nil,(.cons (.blk rfl rfl rfl) (.cons (EntW.lst rfl) .nil)),cK [1001,1000] rfl (by decide),(fun i hi=>by first | rfl | (show (if _ then _ else _) = _; (repeat' split) <;> omega))⟩,(.cons (sv rfl) .nil),rfl⟩
 ·
  replace h:=cE h hc3
  refine aY ?_
  refine aS ?_
  refine bC ?_
  obtain ⟨x4,hx4,h⟩:=aQ h
  refine aE (aA rfl (mvI rfl rfl rfl rfl) <|aA rfl (bM rfl rfl (lb rfl) (svI rfl) (sv (d:=.int _ 1) rfl) rfl hx4) <|aA rfl (asI rfl rfl rfl rfl) <|aD ?_)
  refine bZ ?_
  refine dW (α:=Nat × (List aJ) × Int × Int) (fun z=>⟨[(0,.osl 1000 aB.sz z.2.1.length),(1,.fn 141 [.ref 1001 0]),(5,.int .i64 z.2.2.1),(6,.int .i64 z.2.2.2)],[(1000,.blk 105 (D.flat (z.2.1.map aB.d))),(1001,.blk 3 [.int .i64 a1])]⟩) (fun z=>bW a1 z.1 z.2.1 z.2.2.1 z.2.2.2 = some r) (fun z=>z.1) (fuel,a0,x1,x4) (fun i=>i) ⟨(.sames rfl rfl),(.cons (EntW.lst rfl) (.cons (.blk rfl rfl rfl) .nil)),cK [1000,1001] rfl (by decide),fun _ _=>rfl⟩ ?_ ?_
  ·exact h
  ·
   rintro ⟨n0,v17,v18,v19⟩ h
   cases n0 with
   | zero=>exact absurd h (by unfold bW; exact nofun)
   | succ n0 =>
    unfold bW at h
    refine bC ?_
    obtain ⟨x32,hx32,h⟩:=aQ h
    refine aE (aA rfl (mvI rfl rfl rfl rfl) <|aA rfl (aM rfl rfl (lb rfl) (sv (d:=.osl _ _ _) rfl)) <|aA rfl (mC rfl rfl (lb rfl) Tryz.underlying33 (sv (d:=.osl _ _ _) rfl)) <|aA rfl (aP rfl rfl (lb rfl) (svI rfl) (svI rfl) rfl hx32) <|aD ?_)
    refine aV (b:=_) rfl (fun hc33=>?_) (fun hc33=>?_)
    ·
     replace h:=cD h hc33
     refine aY ?_
     refine aS ?_
     refine bC ?_
     refine bZ ?_
     obtain ⟨x34,hx34,h⟩:=bF h
     obtain ⟨x35,hx35,h⟩:=bF h
     refine aE (aA rfl (aM rfl rfl (lb rfl) (sv (d:=.osl _ _ _) rfl)) <|aA rfl (mvI rfl rfl rfl rfl) <|aA rfl (kD aB.toEnc0 rfl rfl (lb rfl) Tryz.underlying33 dH (sv (d:=.osl _ _ _) rfl) rfl (svI rfl) hx34) <|aA rfl (nA aB.toEnc0 (cs:=q20) rfl rfl (lb rfl) Tryz.underlying105 nN dH (by decide) (svR rfl) rfl hx35 (nle rfl) rfl) <|aA rfl (bD (cs:=q20) (cs':=(w46 0 0 0 false)) 0 rfl rfl (lb rfl) rfl dH rfl rfl (.all _)) <|aA rfl (stA q20 q20 dH rfl rfl rfl rfl rfl rfl rfl rfl (nle rfl) rfl) <|aD ?_)
     obtain ⟨x36,hx36,h⟩:=bF h
     refine aE (aA rfl (aM rfl rfl (lb rfl) (sv (d:=.fn 141 [.ref _ _]) rfl)) <|aA rfl (lra q20 qD rfl rfl rfl rfl rfl (nle rfl) rfl) <|aA rfl (uJ (r:=.bool x36) rfl rfl (lb rfl) cl141 (sv (d:=.fn 141 [.ref _ _]) rfl) (.cons (svA q20 rfl) .nil) (.k (.cons (.ref rfl rfl (oS _) rfl) .nil)) rfl rfl (nI _ _ _ hx36)) <|aA rfl (dB rfl rfl (lb rfl) (svB rfl)) <|aD ?_)
     refine aV (b:=_) rfl (fun hc37=>?_) (fun hc37=>?_)
     ·
      replace h:=cD h hc37
      obtain ⟨x38,hx38,h⟩:=bF h
      obtain ⟨x39,hx39,h⟩:=bF h
      obtain ⟨x40,hx40,h⟩:=aQ h
      refine aE (aA rfl (aM rfl rfl (lb rfl) (sv (d:=.osl _ _ _) rfl)) <|aA rfl (mvI rfl rfl rfl rfl) <|aA rfl (lra q20 qD rfl rfl rfl rfl rfl (nle rfl) rfl) <|aA rfl (kD aB.toEnc0 rfl rfl (lb rfl) Tryz.underlying33 dH (sv (d:=.osl _ _ _) rfl) rfl (svI rfl) hx38) <|aA rfl (lK aB.toEnc0 (a':=x35) rfl rfl dH (svR rfl) rfl (svA q20 rfl) rfl rfl rfl hx39 (nle rfl) rfl hx40) <|aD ?_)
      obtain ⟨x41,hx41,h⟩:=aQ h
      refine bO (aA rfl (mvI rfl rfl rfl rfl) <|aA rfl (bM rfl rfl (lb rfl) (svI rfl) (sv (d:=.int _ 1) rfl) rfl hx41) <|aA rfl (asI rfl rfl rfl rfl) <|cL ?_)
      refine cO ?_
      refine aS ?_
      obtain ⟨x42,hx42,h⟩:=aQ h
      refine bO (aA rfl (mvI rfl rfl rfl rfl) <|aA rfl (bM rfl rfl (lb rfl) (svI rfl) (sv (d:=.int _ 1) rfl) rfl hx42) <|aA rfl (asI rfl rfl rfl rfl) <|cL ?_)
      refine aS ⟨(n0,x40,x41,x42),(fun i=>i),⟨(.cons (.same (congrArg (D.osl _ _) (qY hx40 rfl).symm) rfl) (.sames rfl rfl)),(.cons (EntW.lst rfl) (.cons (.blk rfl rfl rfl) .nil)),cK [1000,1001] rfl (by decide),fun _ _=>rfl⟩,?_,?_⟩
      exact h
      exact Nat.lt_succ_self _
     ·
      replace h:=cE h hc37
      refine aY ?_
      refine cO ?_
      refine aS ?_
      obtain ⟨x43,hx43,h⟩:=aQ h
      refine bO (aA rfl (mvI rfl rfl rfl rfl) <|aA rfl (bM rfl rfl (lb rfl) (svI rfl) (sv (d:=.int _ 1) rfl) rfl hx43) <|aA rfl (asI rfl rfl rfl rfl) <|cL ?_)
      refine aS ⟨(n0,v17,v18,x43),(fun i=>i),⟨(.sames rfl rfl),(.cons (EntW.lst rfl) (.cons (.blk rfl rfl rfl) .nil)),cK [1000,1001] rfl (by decide),fun _ _=>rfl⟩,?_,?_⟩
      exact h
      exact Nat.lt_succ_self _
    ·
     replace h:=cE h hc33
     refine eE ?_
     refine cU ?_
     refine cU ?_
     refine eG ?_
     refine aS ?_
     obtain ⟨x44,hx44,h⟩:=bF h
     refine aE (aA rfl (aM rfl rfl (lb rfl) (sv (d:=.osl _ _ _) rfl)) <|aA rfl (mvI rfl rfl rfl rfl) <|tI aB.toEnc0 rfl rfl rfl rfl (by decide) rfl rfl Tryz.underlying33 dH rfl rfl rfl rfl rfl (fun S1 h9=>sv ((h9 37 (by decide)).trans rfl)) hx44 <|aD ?_)
     obtain ⟨x45,hx45,h⟩:=bF h
     refine aE (aA rfl (aM rfl rfl (lb rfl) (sv (d:=.osl _ _ _) rfl)) <|aA rfl (mvI rfl rfl rfl rfl) <|aA rfl (uF aB.toEnc0 rfl rfl (lb rfl) Tryz.underlying33 dH (sv (d:=.osl _ _ _) rfl) rfl (Nat.le_trans (aCG hx44) (Nat.le_of_eq rfl)) (svI rfl) hx45) <|aA rfl (aH rfl rfl (lb rfl) (sv (d:=.osl _ _ _) rfl)) <|aD ?_)
     refine aT ?_
     obtain rfl:=Option.some.inj h
     refine ⟨.inr rfl,(fun i=>if i = 0 then 1000 else i),⟨.nil,(.cons (.blk rfl rfl rfl) (.cons (EntW.lst rfl) .nil)),cK [1001,1000] rfl (by decide),(fun i hi=>by first | rfl | (show (if _ then _ else _) = _; (repeat' split) <;> omega))⟩,(.cons (sv rfl) .nil),rfl⟩

theorem xO (a0 : aW) (a1 : Int) (r : aW) (h : nZ a0 a1 = some r) : cF Tryz.prog 94 [.agg (v2 a0),.int .i64 a1] (.agg (v2 r)):=by
 refine iC (rs:=[.agg (v2 r)]) Tryz.func94 rfl Tryz.ntmps94 (nle rfl) rfl fun O hO=>?_
 show IWP _ _ _ _ ⟨[(0,.agg (v2 a0)),(1,.int .i64 a1)],[]⟩ _
 unfold nZ at h
 refine aE (aA rfl (bR (cs:=q15) 0 rfl rfl (lb rfl) rfl (svA q15 rfl) rfl rfl) <|aA rfl (bR (cs:=[.int _ _]) 1 rfl rfl (lb rfl) rfl (svI rfl) rfl rfl) <|aA rfl (bD (cs:=q17) (cs':=(w42 0 [] 0 ([] : List aJ) ([] : List aG) false false false false)) 2 rfl rfl (lb rfl) rfl ti37 rfl rfl (.k (.k (.k (.cons (.nils _) (.cons (.nils _) (.all _))))))) <|aD ?_)
 obtain ⟨x1,hx1,h⟩:=bF h
 refine aE (aA rfl (lra q15 la37 rfl rfl rfl rfl rfl (nle rfl) rfl) <|aA rfl (dO (r':=.agg (w43 x1.1 x1.2.1 x1.2.2.1 (.osl 3 aB.sz x1.2.2.2.1.length) x1.2.2.2.2.1 x1.2.2.2.2.2.1 x1.2.2.2.2.2.2.1 x1.2.2.2.2.2.2.2.1 x1.2.2.2.2.2.2.2.2)) (H1':=[(3,.blk 105 (D.flat (x1.2.2.2.1.map aB.d)))]) 3 [] rfl rfl (lb rfl) aA7 (.cons (svA q15 rfl) .nil) rfl rfl ⟨rfl,rfl,by decide,rfl,List.forall_mem_nil _⟩ (gM _ _ hx1) rfl rfl (List.forall_mem_cons.2 ⟨⟨rfl,(fB aB)⟩,List.forall_mem_nil _⟩) (by simp only [List.map_cons,List.map_nil,Ent.ren,eD,eQ]; rfl)) <|aA rfl (bD (cs:=q17) (cs':=(w42 0 [] 0 ([] : List aJ) ([] : List aG) false false false false)) 4 rfl rfl (lb rfl) rfl ti37 rfl rfl (.k (.k (.k (.cons (.nils _) (.cons (.nils _) (.all _))))))) <|aA rfl (stA q16 q16 ti37 rfl rfl rfl rfl rfl rfl rfl rfl (nle rfl) rfl) <|aD ?_)
 refine bC ?_
 obtain ⟨x2,hx2,h⟩:=bF h
 obtain ⟨x3,hx3,h⟩:=aQ h
 refine aE (aA rfl (lra q15 la37 rfl rfl rfl rfl rfl (nle rfl) rfl) <|aA rfl (aU (r:=.int _ _) rfl rfl (lb rfl) yG (.cons (svA q15 rfl) .nil) rfl (iU _ _ hx2)) <|aA rfl (aP rfl rfl (lb rfl) (svI rfl) (sv (d:=.int _ 0) rfl) rfl hx3) <|aD ?_)
 refine aV (b:=_) rfl (fun hc4=>?_) (fun hc4=>?_)
 ·
  replace h:=cD h hc4
  refine aE (aA rfl (lra q16 la37 rfl rfl rfl rfl rfl (nle rfl) rfl) <|aA rfl (stA q16 q16 ti37 rfl rfl rfl rfl rfl rfl rfl rfl (nle rfl) rfl) <|aD ?_)
  refine aT ?_
  refine bI ?_
  obtain rfl:=Option.some.inj h
  refine ⟨.inr rfl,_,(.cons (rva la37 rfl rfl (nle rfl) rfl) .nil),(.cons (.agg (.k (.k (.k (.cons (FDT aB rfl rfl) (.all _)))))) .nil)⟩
 ·
  replace h:=cE h hc4
  refine aY ?_
  refine aS ?_
  refine aE (aA rfl (jW rfl rfl (lb rfl) (.cons (svR rfl) .nil)) <|aA rfl (aH rfl rfl (lb rfl) (sv (d:=.fn 141 [.ref _ _]) rfl)) <|aD ?_)
  refine bC ?_
  refine aE (aA rfl (faR 3 rfl rfl rfl Tryz.underlying37 rfl ti33 (lb rfl) rfl rfl) <|aA rfl (lrL la33 rfl rfl rfl rfl rfl (nle rfl) rfl) <|aA rfl (dL aB (l:=a0.Pieces) rfl rfl (lb rfl) Tryz.underlying33 (svL rfl)) <|aA rfl (aM rfl rfl (lb rfl) (sv (d:=.int _ 0) rfl)) <|aD ?_)
  refine bZ ?_
  refine dW (α:=Nat × Int × (List aG) × Bool) (fun z=>⟨[(4,.ref 2 0),(5,.ref 4 0),(6,.fn 141 [.ref 1 0]),(17,.slice false (a0.Pieces.map aB.d)),(18,.int .i64 (a0.Pieces.length : Int)),(19,.int .i64 z.2.1)],[(2,.blk 37 (w42 0 [] 0 ([] : List aJ) ([] : List aG) false false false false)),(4,.blk 37 (w43 x1.1 x1.2.1 x1.2.2.1 (.osl 3 aB.sz x1.2.2.2.1.length) z.2.2.1 x1.2.2.2.2.2.1 x1.2.2.2.2.2.2.1 z.2.2.2 x1.2.2.2.2.2.2.2.2)),(1,.blk 3 [.int .i64 a1]),(3,.blk 105 (D.flat (x1.2.2.2.1.map aB.d)))]⟩) (fun z=>gF a0 a1 x1 z.1 z.2.1 z.2.2.1 z.2.2.2 = some r) (fun z=>z.1) (fuel,0,x1.2.2.2.2.1,x1.2.2.2.2.2.2.2.1) (fun i=>i) ⟨(.sames rfl rfl),(.cons (.blk rfl rfl rfl) (.cons (.blk rfl rfl rfl) (.cons (.blk rfl rfl rfl) (.cons (EntW.lst rfl) .nil)))),cK [2,4,1,3] rfl (by decide),fun _ _=>rfl⟩ ?_ ?_
  ·exact h
  ·
   rintro ⟨n0,v15,v16,v17⟩ h
   cases n0 with
   | zero=>exact absurd h (by unfold gF; exact nofun)
   | succ n0 =>
    unfold gF at h
    obtain ⟨x28,hx28,h⟩:=aQ h
    refine aE (aA rfl (aP rfl rfl (lb rfl) (svI rfl) (svI rfl) rfl hx28) <|aD ?_)
    refine bC ?_
    refine aV (b:=_) rfl (fun hc29=>?_) (fun hc29=>?_)
    ·
     replace h:=cD h hc29
     refine aY ?_
     refine aS ?_
     refine bC ?_
     refine bZ ?_
     obtain ⟨x30,hx30,h⟩:=bF h
     refine aE (aA rfl (dY aB (cs:=q20) rfl rfl (lb rfl) Tryz.underlying33 dH (svL rfl) (svI rfl) hx30 rfl rfl) <|aA rfl (dE (cs:=q20) rfl rfl (lb rfl) Tryz.underlying105 nN dH (by decide) (sv (d:=.fptr q20) rfl) (nle rfl) rfl) <|aA rfl (bD (cs:=q20) (cs':=(w46 0 0 0 false)) 5 rfl rfl (lb rfl) rfl dH rfl rfl (.all _)) <|aA rfl (stA q20 q20 dH rfl rfl rfl rfl rfl rfl rfl rfl (nle rfl) rfl) <|aD ?_)
     obtain ⟨x31,hx31,h⟩:=bF h
     refine aE (aA rfl (aM rfl rfl (lb rfl) (sv (d:=.fn 141 [.ref _ _]) rfl)) <|aA rfl (lra q20 qD rfl rfl rfl rfl rfl (nle rfl) rfl) <|aA rfl (uJ (r:=.bool x31) rfl rfl (lb rfl) cl141 (sv (d:=.fn 141 [.ref _ _]) rfl) (.cons (svA q20 rfl) .nil) (.k (.cons (.ref rfl rfl (oS _) rfl) .nil)) rfl rfl (nI _ _ _ hx31)) <|aD ?_)
     refine aV (b:=_) rfl (fun hc32=>?_) (fun hc32=>?_)
     ·
      replace h:=cD h hc32
      obtain ⟨x33,hx33,h⟩:=bF h
      obtain ⟨x34,hx34,h⟩:=bF h
      refine dD rfl [⟨[5],[],[(26,.ref 4 4)],[]⟩,
       ⟨[26],[4],[(27,.slice false (v16.map aK.d))],[]⟩,
       ⟨[8],[5],[(28,.agg (v7 x30))],[]⟩,
       ⟨[28],[],[(29,.agg [.int .i64 x33.From,.int .i64 x33.To])],[]⟩,
       ⟨[27,29],[],[(30,.slice false (x34.map aK.d))],[]⟩,
       ⟨[5],[],[(31,.ref 4 4)],[]⟩,
       ⟨[30,31],[4],[],[(4,.blk 37 (w43 x1.1 x1.2.1 x1.2.2.1 (.osl 3 aB.sz x1.2.2.2.1.length) x34 x1.2.2.2.2.2.1 x1.2.2.2.2.2.2.1 v17 x1.2.2.2.2.2.2.2.2))]⟩] rfl ?_ (by kernel_rfl) ?_
      ·refine .cons (lop rfl rfl fun S hA=>(aI rfl rfl (lb rfl) Tryz.underlying37 rfl ti35 (by decide) (svaR hA rfl rfl) (off':=4) rfl)) ?_
       refine .cons (lop rfl rfl fun S hA=>(aF (d:=.slice _ _) rfl rfl (lb rfl) Tryz.underlying35 ag35 ti35 (by decide) (svaR hA rfl rfl) (agi hA rfl rfl) (nle rfl) rfl)) ?_
       refine .cons (lop rfl rfl fun S hA=>(bK (cs:=q20) rfl rfl (lb rfl) Tryz.underlying105 nN dH (by decide) (svaR hA rfl rfl) (agi hA rfl rfl) (nle rfl) rfl)) ?_
       refine .cons (lop rfl rfl fun S hA=>(aU (r:=.agg q27) rfl rfl (lb rfl) aBw (.cons (svaA q20 hA rfl rfl) .nil) rfl (iZ _ _ hx33))) ?_
       refine .cons (lop rfl rfl fun S hA=>(aU (r:=.slice _ _) rfl rfl (lb rfl) cl142 (.cons (svaL hA rfl rfl) (.cons (svaA q27 hA rfl rfl) .nil)) rfl (xU _ _ _ hx34))) ?_
       refine .cons (lop rfl rfl fun S hA=>(aI rfl rfl (lb rfl) Tryz.underlying37 rfl ti35 (by decide) (svaR hA rfl rfl) (off':=4) rfl)) ?_
       refine .cons (lop rfl rfl fun S hA=>(bN (ds':=q16) rfl rfl ti35 (svaR hA rfl rfl) (agi hA rfl rfl) (svaL hA rfl rfl) rfl rfl rfl (nle rfl) rfl)) ?_
       exact .nil
      obtain ⟨x35,hx35,h⟩:=aQ h
      refine bO (aA rfl (faR 7 rfl rfl rfl Tryz.underlying37 rfl ti4 (lb rfl) rfl rfl) <|aA rfl (aF (d:=.bool _) rfl rfl (lb rfl) Tryz.underlying4 ag4 ti4 (by decide) (svR rfl) rfl (nle rfl) rfl) <|aA rfl (mvB rfl rfl rfl rfl) <|aC rfl rfl (.one rfl) rfl (by decide) (fun hb=>(faR 3 rfl rfl rfl Tryz.underlying105 rfl ti4 (lb rfl) rfl rfl)) <|aC rfl rfl (.one rfl) rfl (by decide) (fun hb=>(aF (d:=.bool _) rfl rfl (lb rfl) Tryz.underlying4 ag4 ti4 (by decide) (svcR rfl hb) rfl (nle rfl) rfl)) <|aA rfl (cQ rfl rfl (lb rfl) (svB rfl) rfl rfl hx35) <|aA rfl (faR 7 rfl rfl rfl Tryz.underlying37 rfl ti4 (lb rfl) rfl rfl) <|aA rfl (bN (ds':=q16) rfl rfl ti4 (svR rfl) rfl (svB rfl) rfl rfl rfl (nle rfl) rfl) <|cL ?_)
      refine cO ?_
      refine aS ?_
      obtain ⟨x36,hx36,h⟩:=aQ h
      refine bO (aA rfl (bM rfl rfl (lb rfl) (svI rfl) (sv (d:=.int _ 1) rfl) rfl hx36) <|aA rfl (mvI rfl rfl rfl rfl) <|cL ?_)
      refine aS ⟨(n0,x36,x34,x35),(fun i=>i),⟨(.sames rfl rfl),(.cons (.blk rfl rfl rfl) (.cons (.blk rfl rfl rfl) (.cons (.blk rfl rfl rfl) (.cons (EntW.lst rfl) .nil)))),cK [2,4,1,3] rfl (by decide),fun _ _=>rfl⟩,?_,?_⟩
      exact h
      exact Nat.lt_succ_self _
     ·
      replace h:=cE h hc32
      refine aY ?_
      refine cO ?_
      refine aS ?_
      obtain ⟨x37,hx37,h⟩:=aQ h
      refine bO (aA rfl (bM rfl rfl (lb rfl) (svI rfl) (sv (d:=.int _ 1) rfl) rfl hx37) <|aA rfl (mvI rfl rfl rfl rfl) <|cL ?_)
      refine aS ⟨(n0,x37,v16,v17),(fun i=>i),⟨(.sames rfl rfl),(.cons (.blk rfl rfl rfl) (.cons (.blk rfl rfl rfl) (.cons (.blk rfl rfl rfl) (.cons (EntW.lst rfl) .nil)))),cK [2,4,1,3] rfl (by decide),fun _ _=>rfl⟩,?_,?_⟩
      exact h
      exact Nat.lt_succ_self _
    ·
     replace h:=cE h hc29
     refine eE ?_
     refine cU ?_
     refine cU ?_
     refine eG ?_
     refine aS ?_
     obtain ⟨x38,hx38,h⟩:=bF h
     refine aE (aA rfl (faR 3 rfl rfl rfl Tryz.underlying37 rfl ti33 (lb rfl) rfl rfl) <|aA rfl (aF (d:=.osl _ _ _) rfl rfl (lb rfl) Tryz.underlying33 ag33 ti33 (by decide) (svR rfl) rfl (nle rfl) rfl) <|aA rfl (aM rfl rfl (lb rfl) (sv (d:=.fn 141 [.ref _ _]) rfl)) <|aA rfl (dO (r':=.osl 5 aB.sz x38.length) (H1':=[(1,.blk 3 [.int .i64 a1]),(5,.blk 105 (D.flat (x38.map aB.d)))]) 5 [3,1] rfl rfl (lb rfl) cl139 (.cons (sv (d:=.osl _ _ _) rfl) (.cons (sv (d:=.fn 141 [.ref _ _]) rfl) .nil)) rfl rfl ⟨rfl,rfl,by decide,rfl,List.forall_mem_cons.2 ⟨⟨rfl,rfl,(pL aB rfl),(fB aB)⟩,List.forall_mem_cons.2 ⟨⟨rfl,rfl,rfl,rfl⟩,List.forall_mem_nil _⟩⟩⟩ (fZ _ _ _ hx38) rfl rfl (List.forall_mem_cons.2 ⟨⟨rfl,rfl⟩,List.forall_mem_cons.2 ⟨⟨rfl,(fB aB)⟩,List.forall_mem_nil _⟩⟩) (by simp only [List.map_cons,List.map_nil,Ent.ren,eD,eQ]; rfl)) <|aA rfl (faR 3 rfl rfl rfl Tryz.underlying37 rfl ti33 (lb rfl) rfl rfl) <|aA rfl (bN (ds':=q16) rfl rfl ti33 (svR rfl) rfl (sv (d:=.osl _ _ _) rfl) rfl rfl rfl (nle rfl) rfl) <|aD ?_)
     refine aE (aA rfl (lra q16 la37 rfl rfl rfl rfl rfl (nle rfl) rfl) <|aA rfl (stA q16 q16 ti37 rfl rfl rfl rfl rfl rfl rfl rfl (nle rfl) rfl) <|aD ?_)
     refine aT ?_
     obtain rfl:=Option.some.inj h
     refine ⟨.inr rfl,_,(.cons (rva la37 rfl rfl (nle rfl) rfl) .nil),(.cons (.agg (.k (.k (.k (.cons (FDT aB rfl rfl) (.all _)))))) .nil)⟩

theorem xI (a0 : aR) (a1 : Int) (r : aR) (h : nW a0 a1 = some r) : cF Tryz.prog 38 [.agg (v1 a0),.int .i64 a1] (.agg (v1 r)):=by
 refine bA (rs:=[.agg (v1 r)]) Tryz.func38 rfl Tryz.ntmps38 (nle rfl) rfl fun O hO=>?_
 show IWP _ _ _ _ ⟨[(0,.agg (v1 a0)),(1,.int .i64 a1)],[]⟩ _
 unfold nW at h
 refine aE (aA rfl (bR (cs:=q13) 0 rfl rfl (lb rfl) rfl (svA q13 rfl) rfl rfl) <|aA rfl (bD (cs:=q14) (cs':=(w41 0 0 [] 0 ([] : List aJ) ([] : List aG) false false false false 0 [] ([] : List aN) 0 0 0 0 0 0 0 0 0 0 0)) 1 rfl rfl (lb rfl) rfl ti46 rfl rfl (.k4 (.cons (.nils _) (.cons (.nils _) (.k4 (.k (.k (.cons (.nils _) (.all _))))))))) <|aD ?_)
 refine bC ?_
 obtain ⟨x1,hx1,h⟩:=bF h
 obtain ⟨x2,hx2,h⟩:=aQ h
 refine aE (aA rfl (lra q13 la46 rfl rfl rfl rfl rfl (nle rfl) rfl) <|aA rfl (aU (r:=.int _ _) rfl rfl (lb rfl) cl20 (.cons (svA q13 rfl) .nil) rfl (jU _ _ hx1)) <|aA rfl (aP rfl rfl (lb rfl) (svI rfl) (sv (d:=.int _ 0) rfl) rfl hx2) <|aD ?_)
 refine aV (b:=_) rfl (fun hc3=>?_) (fun hc3=>?_)
 ·
  replace h:=cD h hc3
  obtain ⟨x4,hx4,h⟩:=bF h
  refine bO (aA rfl (faR 1 rfl rfl rfl Tryz.underlying46 rfl ti37 (lb rfl) rfl rfl) <|aA rfl (lra q15 la37 rfl rfl rfl rfl rfl (nle rfl) rfl) <|aA rfl (mvI rfl rfl rfl rfl) <|aA rfl (aU (r:=.agg q15) rfl rfl (lb rfl) cl94 (.cons (svA q15 rfl) (.cons (svI rfl) .nil)) rfl (xO _ _ _ hx4)) <|aA rfl (faR 1 rfl rfl rfl Tryz.underlying46 rfl ti37 (lb rfl) rfl rfl) <|aA rfl (stA q15 q13 ti37 rfl rfl rfl rfl rfl rfl rfl rfl (nle rfl) rfl) <|cL ?_)
  refine aS ?_
  refine aE (aA rfl (lra q13 la46 rfl rfl rfl rfl rfl (nle rfl) rfl) <|aA rfl (stA q13 q13 ti46 rfl rfl rfl rfl rfl rfl rfl rfl (nle rfl) rfl) <|aD ?_)
  refine aT ?_
  obtain rfl:=Option.some.inj h
  refine ⟨.inr rfl,(.cons (rva la46 rfl rfl (nle rfl) rfl) .nil)⟩
 ·
  replace h:=cE h hc3
  refine aY ?_
  refine aS ?_
  refine aE (aA rfl (lra q13 la46 rfl rfl rfl rfl rfl (nle rfl) rfl) <|aA rfl (stA q13 q13 ti46 rfl rfl rfl rfl rfl rfl rfl rfl (nle rfl) rfl) <|aD ?_)
  refine aT ?_
  obtain rfl:=Option.some.inj h
  refine ⟨.inr rfl,(.cons (rva la46 rfl rfl (nle rfl) rfl) .nil)⟩

theorem cY (a0 : cC) (a1 : Int) (a2 : Int) (a3 : (List UInt8)) (a4 : Int) (a5 : (List aJ)) (a6 : (List aG)) (a7 : Bool) (a8 : Bool) (a9 : Bool) (a10 : Bool) (a11 : Int) (a12 : (List UInt8)) (a13 : (List aN)) (a14 : Int) (a15 : Int) (a16 : Int) (a17 : Int) (a18 : Int) (a19 : Int) (a20 : Int) (a21 : Int) (a22 : Int) (a23 : Int) (a24 : Int) (a25 : Int) (a26 : Int) (a27 : (List UInt8)) (a28 : Int) (a29 : (List aJ)) (a30 : (List aG)) (a31 : Bool) (a32 : Bool) (a33 : Bool) (a34 : Bool) (a35 : Int) (a36 : (List UInt8)) (a37 : (List aN)) (a38 : Int) (a39 : Int) (a40 : Int) (a41 : Int) (a42 : Int) (a43 : Int) (a44 : Int) (a45 : Int) (a46 : Int) (a47 : Int) (a48 : Int) (a49 : (List UInt8)) (a50 : (List UInt8)) (a51 : Int) (a52 : Bool) (a53 : (List bL)) (r : (Bool × Int × Int × (List UInt8) × Int × (List aJ) × (List aG) × Bool × Bool × Bool × Bool × Int × (List UInt8) × (List aN) × Int × Int × Int × Int × Int × Int × Int × Int × Int × Int × Int × Int × Int × (List UInt8) × Int × (List aJ) × (List aG) × Bool × Bool × Bool × Bool × Int × (List UInt8) × (List aN) × Int × Int × Int × Int × Int × Int × Int × Int × Int × Int × Int × (List bL) × (List UInt8) × (List UInt8) × Int × Bool)) (h : bQ a0 a1 a2 a3 a4 a5 a6 a7 a8 a9 a10 a11 a12 a13 a14 a15 a16 a17 a18 a19 a20 a21 a22 a23 a24 a25 a26 a27 a28 a29 a30 a31 a32 a33 a34 a35 a36 a37 a38 a39 a40 a41 a42 a43 a44 a45 a46 a47 a48 a49 a50 a51 a52 a53 = some r) : FnH Tryz.prog 10 [.ref 1000 0, .agg (v8 a0)] [(1000, .blk 49 (w40 a1 a2 a3 a4 a5 a6 a7 a8 a9 a10 a11 a12 a13 a14 a15 a16 a17 a18 a19 a20 a21 a22 a23 a24 a25 a26 a27 a28 a29 a30 a31 a32 a33 a34 a35 a36 a37 a38 a39 a40 a41 a42 a43 a44 a45 a46 a47 a48 (.osl 1001 aO.sz a53.length) a49 a50 a51 a52)), (1001, .blk 51 (D.flat (a53.map aO.d)))] (.bool r.1) [(1000, .blk 49 (w40 r.2.1 r.2.2.1 r.2.2.2.1 r.2.2.2.2.1 r.2.2.2.2.2.1 r.2.2.2.2.2.2.1 r.2.2.2.2.2.2.2.1 r.2.2.2.2.2.2.2.2.1 r.2.2.2.2.2.2.2.2.2.1 r.2.2.2.2.2.2.2.2.2.2.1 r.2.2.2.2.2.2.2.2.2.2.2.1 r.2.2.2.2.2.2.2.2.2.2.2.2.1 r.2.2.2.2.2.2.2.2.2.2.2.2.2.1 r.2.2.2.2.2.2.2.2.2.2.2.2.2.2.1 r.2.2.2.2.2.2.2.2.2.2.2.2.2.2.2.1 r.2.2.2.2.2.2.2.2.2.2.2.2.2.2.2.2.1 r.2.2.2.2.2.2.2.2.2.2.2.2.2.2.2.2.2.1 r.2.2.2.2.2.2.2.2.2.2.2.2.2.2.2.2.2.2.1 r.2.2.2.2.2.2.2.2.2.2.2.2.2.2.2.2.2.2.2.1 r.2.2.2.2.2.2.2.2.2.2.2.2.2.2.2.2.2.2.2.2.1 r.2.2.2.2.2.2.2.2.2.2.2.2.2.2.2.2.2.2.2.2.2.1 r.2.2.2.2.2.2.2.2.2.2.2.2.2.2.2.2.2.2.2.2.2.2.1 r.2.2.2.2.2.2.2.2.2.2.2.2.2.2.2.2.2.2.2.2.2.2.2.1 r.2.2.2.2.2.2.2.2.2.2.2.2.2.2.2.2.2.2.2.2.2.2.2.2.1 r.2.2.2.2.2.2.2.2.2.2.2.2.2.2.2.2.2.2.2.2.2.2.2.2.2.1 r.2.2.2.2.2.2.2.2.2.2.2.2.2.2.2.2.2.2.2.2.2.2.2.2.2.2.1 r.2.2.2.2.2.2.2.2.2.2.2.2.2.2.2.2.2.2.2.2.2.2.2.2.2.2.2.1 r.2.2.2.2.2.2.2.2.2.2.2.2.2.2.2.2.2.2.2.2.2.2.2.2.2.2.2.2.1 r.2.2.2.2.2.2.2.2.2.2.2.2.2.2.2.2.2.2.2.2.2.2.2.2.2.2.2.2.2.1 r.2.2.2.2.2.2.2.2.2.2.2.2.2.2.2.2.2.2.2.2.2.2.2.2.2.2.2.2.2.2.1 r.2.2.2.2.2.2.2.2.2.2.2.2.2.2.2.2.2.2.2.2.2.2.2.2.2.2.2.2.2.2.2.1 r.2.2.2.2.2.2.2.2.2.2.2.2.2.2.2.2.2.2.2.2.2.2.2.2.2.2.2.2.2.2.2.2.1 r.2.2.2.2.2.2.2.2.2.2.2.2.2.2.2.2.2.2.2.2.2.2.2.2.2.2.2.2.2.2.2.2.2.1 r.2.2.2.2.2.2.2.2.2.2.2.2.2.2.2.2.2.2.2.2.2.2.2.2.2.2.2.2.2.2.2.2.2.2.1 r.2.2.2.2.2.2.2.2.2.2.2.2.2.2.2.2.2.2.2.2.2.2.2.2.2.2.2.2.2.2.2.2.2.2.2.1 r.2.2.2.2.2.2.2.2.2.2.2.2.2.2.2.2.2.2.2.2.2.2.2.2.2.2.2.2.2.2.2.2.2.2.2.2.1 r.2.2.2.2.2.2.2.2.2.2.2.2.2.2.2.2.2.2.2.2.2.2.2.2.2.2.2.2.2.2.2.2.2.2.2.2.2.1 r.2.2.2.2.2.2.2.2.2.2.2.2.2.2.2.2.2.2.2.2.2.2.2.2.2.2.2.2.2.2.2.2.2.2.2.2.2.2.1 r.2.2.2.2.2.2.2.2.2.2.2.2.2.2.2.2.2.2.2.2.2.2.2.2.2.2.2.2.2.2.2.2.2.2.2.2.2.2.2.1 r.2.2.2.2.2.2.2.2.2.2.2.2.2.2.2.2.2.2.2.2.2.2.2.2.2.2.2.2.2.2.2.2.2.2.2.2.2.2.2.2.1 r.2.2.2.2.2.2.2.2.2.2.2.2.2.2.2.2.2.2.2.2.2.2.2.2.2.2.2.2.2.2.2.2.2.2.2.2.2.2.2.2.2.1 r.2.2.2.2.2.2.2.2.2.2.2.2.2.2.2.2.2.2.2.2.2.2.2.2.2.2.2.2.2.2.2.2.2.2.2.2.2.2.2.2.2.2.1 r.2.2.2.2.2.2.2.2.2.2.2.2.2.2.2.2.2.2.2.2.2.2.2.2.2.2.2.2.2.2.2.2.2.2.2.2.2.2.2.2.2.2.2.1 r.2.2.2.2.2.2.2.2.2.2.2.2.2.2.2.2.2.2.2.2.2.2.2.2.2.2.2.2.2.2.2.2.2.2.2.2.2.2.2.2.2.2.2.2.1 r.2.2.2.2.2.2.2.2.2.2.2.2.2.2.2.2.2.2.2.2.2.2.2.2.2.2.2.2.2.2.2.2.2.2.2.2.2.2.2.2.2.2.2.2.2.1 r.2.2.2.2.2.2.2.2.2.2.2.2.2.2.2.2.2.2.2.2.2.2.2.2.2.2.2.2.2.2.2.2.2.2.2.2.2.2.2.2.2.2.2.2.2.2.1 r.2.2.2.2.2.2.2.2.2.2.2.2.2.2.2.2.2.2.2.2.2.2.2.2.2.2.2.2.2.2.2.2.2.2.2.2.2.2.2.2.2.2.2.2.2.2.2.1 r.2.2.2.2.2.2.2.2.2.2.2.2.2.2.2.2.2.2.2.2.2.2.2.2.2.2.2.2.2.2.2.2.2.2.2.2.2.2.2.2.2.2.2.2.2.2.2.2.1 (.osl 0 aO.sz r.2.2.2.2.2.2.2.2.2.2.2.2.2.2.2.2.2.2.2.2.2.2.2.2.2.2.2.2.2.2.2.2.2.2.2.2.2.2.2.2.2.2.2.2.2.2.2.2.2.1.length) r.2.2.2.2.2.2.2.2.2.2.2.2.2.2.2.2.2.2.2.2.2.2.2.2.2.2.2.2.2.2.2.2.2.2.2.2.2.2.2.2.2.2.2.2.2.2.2.2.2.2.1 r.2.2.2.2.2.2.2.2.2.2.2.2.2.2.2.2.2.2.2.2.2.2.2.2.2.2.2.2.2.2.2.2.2.2.2.2.2.2.2.2.2.2.2.2.2.2.2.2.2.2.2.1 r.2.2.2.2.2.2.2.2.2.2.2.2.2.2.2.2.2.2.2.2.2.2.2.2.2.2.2.2.2.2.2.2.2.2.2.2.2.2.2.2.2.2.2.2.2.2.2.2.2.2.2.2.1 r.2.2.2.2.2.2.2.2.2.2.2.2.2.2.2.2.2.2.2.2.2.2.2.2.2.2.2.2.2.2.2.2.2.2.2.2.2.2.2.2.2.2.2.2.2.2.2.2.2.2.2.2.2)), (0, .blk 51 (D.flat (r.2.2.2.2.2.2.2.2.2.2.2.2.2.2.2.2.2.2.2.2.2.2.2.2.2.2.2.2.2.2.2.2.2.2.2.2.2.2.2.2.2.2.2.2.2.2.2.2.2.1.map aO.d)))] := by
 refine fE (rs:=[.bool r.1]) Tryz.func10 rfl Tryz.ntmps10 (nle rfl) fun O hO=>?_
 show IWP _ _ _ _ ⟨[(0,.ref 1000 0),(1,.agg (v8 a0))],[(1000,.blk 49 (w40 a1 a2 a3 a4 a5 a6 a7 a8 a9 a10 a11 a12 a13 a14 a15 a16 a17 a18 a19 a20 a21 a22 a23 a24 a25 a26 a27 a28 a29 a30 a31 a32 a33 a34 a35 a36 a37 a38 a39 a40 a41 a42 a43 a44 a45 a46 a47 a48 (.osl 1001 aO.sz a53.length) a49 a50 a51 a52)),(1001,.blk 51 (D.flat (a53.map aO.d)))]⟩ _
 unfold bQ at h
 refine aE (aA rfl (bR (cs:=q21) 0 rfl rfl (lb rfl) rfl (svA q21 rfl) rfl rfl) <|aA rfl (aH rfl rfl (lb rfl) (sv (d:=.bool false) rfl)) <|aD ?_)
 refine bC ?_
 obtain ⟨x1,hx1,h⟩:=bF h
 refine aE (aA rfl (faR 0 rfl rfl rfl Tryz.underlying30 rfl ti5 (lb rfl) rfl rfl) <|aA rfl (aF (d:=.int _ _) rfl rfl (lb rfl) Tryz.underlying5 ag5 ti5 (by decide) (svR rfl) rfl (nle rfl) rfl) <|aA rfl (rV rfl rfl (lb rfl) (svI rfl) (sv (d:=.int _ 8) rfl) hx1) <|aD ?_)
 refine bZ ?_
 obtain ⟨x2,hx2,h⟩:=aQ h
 refine aE (aA rfl (aP rfl rfl (lb rfl) (svI rfl) (sv (d:=.int _ 0) rfl) rfl hx2) <|aA rfl (asB rfl rfl rfl rfl) <|aD ?_)
 refine aV (b:=_) rfl (fun hc3=>?_) (fun hc3=>?_)
 ·
  replace h:=cD h hc3
  obtain ⟨x4,hx4,h⟩:=bF h
  refine dD rfl [⟨[0],[],[(30,.ref 1000 0)],[]⟩,
   ⟨[30],[],[(31,.ref 1000 0)],[]⟩,
   ⟨[31],[],[(32,.ref 1000 0)],[]⟩,
   ⟨[32],[1000],[(33,.agg (w41 a1 a2 a3 a4 a5 a6 a7 a8 a9 a10 a11 a12 a13 a14 a15 a16 a17 a18 a19 a20 a21 a22 a23 a24))],[]⟩,
   ⟨[3],[],[(34,.ref 0 3)],[]⟩,
   ⟨[34],[0],[(35,.str a0.Text)],[]⟩,
   ⟨[33,35],[],[(36,.tuple [.agg (v1 x4.1),.int .i64 x4.2.1,.int .i64 x4.2.2])],[]⟩,
   ⟨[36],[],[(29,.tuple [.agg (v1 x4.1),.int .i64 x4.2.1,.int .i64 x4.2.2])],[]⟩,
   ⟨[29],[],[(37,.agg (v1 x4.1))],[]⟩,
   ⟨[29],[],[(38,.int .i64 x4.2.1)],[]⟩,
   ⟨[29],[],[(39,.int .i64 x4.2.2)],[]⟩,
   ⟨[],[1],[(5,.ref 1 0)],[(1,.blk 46 (w41 0 0 [] 0 ([] : List aJ) ([] : List aG) false false false false 0 [] ([] : List aN) 0 0 0 0 0 0 0 0 0 0 0))]⟩,
   ⟨[5,37],[1],[],[(1,.blk 46 (v1 x4.1))]⟩,
   ⟨[38],[],[(6,.int .i64 x4.2.1)],[]⟩,
   ⟨[39],[],[(7,.int .i64 x4.2.2)],[]⟩] rfl ?_ (by kernel_rfl) ?_
  ·refine .cons (lop rfl rfl fun S hA=>(aM rfl rfl (lb rfl) (svaR hA rfl rfl))) ?_
   refine .cons (lop rfl rfl fun S hA=>(aX rfl rfl (lb rfl) (svaR hA rfl rfl))) ?_
   refine .cons (lop rfl rfl fun S hA=>(aI rfl rfl (lb rfl) Tryz.underlying49 rfl ti46 (by decide) (svaR hA rfl rfl) (off':=0) rfl)) ?_
   refine .cons (lop rfl rfl fun S hA=>(bK (cs:=q13) rfl rfl (lb rfl) Tryz.underlying46 ag46 ti46 (by decide) (svaR hA rfl rfl) (agi hA rfl rfl) (nle rfl) rfl)) ?_
   refine .cons (lop rfl rfl fun S hA=>(aI rfl rfl (lb rfl) Tryz.underlying30 rfl ti9 (by decide) (svaR hA rfl rfl) (off':=3) rfl)) ?_
   refine .cons (lop rfl rfl fun S hA=>(aF (d:=.str _) rfl rfl (lb rfl) Tryz.underlying9 ag9 ti9 (by decide) (svaR hA rfl rfl) (agi hA rfl rfl) (nle rfl) rfl)) ?_
   refine .cons (lop rfl rfl fun S hA=>(aU (r:=.tuple q34) rfl rfl (lb rfl) cl31 (.cons (svaA q13 hA rfl rfl) (.cons (sv (d:=.str _) (agr hA rfl rfl)) .nil)) rfl (rE _ _ _ hx4))) ?_
   refine .cons (lop rfl rfl fun S hA=>(aM rfl rfl (lb rfl) (sv (d:=.tuple q34) (agr hA rfl rfl)))) ?_
   refine .cons (lop rfl rfl fun S hA=>(aZ (d:=.agg q13) rfl rfl (lb rfl) (sv (d:=.tuple q34) (agr hA rfl rfl)) rfl)) ?_
   refine .cons (lop rfl rfl fun S hA=>(aZ (d:=.int _ _) rfl rfl (lb rfl) (sv (d:=.tuple q34) (agr hA rfl rfl)) rfl)) ?_
   refine .cons (lop rfl rfl fun S hA=>(aZ (d:=.int _ _) rfl rfl (lb rfl) (sv (d:=.tuple q34) (agr hA rfl rfl)) rfl)) ?_
   refine .cons (lop rfl rfl fun S hA=>(bD (cs:=q14) (cs':=(w41 0 0 [] 0 ([] : List aJ) ([] : List aG) false false false false 0 [] ([] : List aN) 0 0 0 0 0 0 0 0 0 0 0)) 1 rfl rfl (lb rfl) (agi hA rfl rfl) ti46 rfl rfl (.k4 (.cons (.nils _) (.cons (.nils _) (.k4 (.k (.k (.cons (.nils _) (.all _)))))))))) ?_
   refine .cons (lop rfl rfl fun S hA=>(bN (ds':=q13) rfl rfl ti46 (svaR hA rfl rfl) (agi hA rfl rfl) (svaA q13 hA rfl rfl) rfl rfl rfl (nle rfl) rfl)) ?_
   refine .cons (lop rfl rfl fun S hA=>(aH rfl rfl (lb rfl) (svaI hA rfl rfl))) ?_
   refine .cons (lop rfl rfl fun S hA=>(aH rfl rfl (lb rfl) (svaI hA rfl rfl))) ?_
   exact .nil
  refine bC ?_
  obtain ⟨x5,hx5,h⟩:=aQ h
  obtain ⟨x6,hx6,h⟩:=aQ h
  obtain ⟨x7,hx7,h⟩:=aQ h
  obtain ⟨x8,hx8,h⟩:=aQ h
  obtain ⟨x9,hx9,h⟩:=aQ h
  obtain ⟨x10,hx10,h⟩:=aQ h
  obtain ⟨x11,hx11,h⟩:=aQ h
  obtain ⟨x12,hx12,h⟩:=aQ h
  obtain ⟨x13,hx13,h⟩:=aQ h
  refine aE (aA rfl (mvI rfl rfl rfl rfl) <|aA rfl (aP rfl rfl (lb rfl) (svI rfl) (sv (d:=.int _ 0) rfl) rfl hx5) <|aA rfl (mvB rfl rfl rfl rfl) <|aC rfl rfl (.one rfl) rfl (by decide) (fun hb=>(mvI rfl rfl rfl rfl)) <|aC rfl rfl (.one rfl) rfl (by decide) (fun hb=>(aP rfl rfl (lb rfl) (svcI rfl hb) (sv (d:=.int _ 0) rfl) rfl hx6)) <|aC rfl rfl (.one rfl) rfl (by decide) (fun hb=>(aM rfl rfl (lb rfl) (svcB rfl hb))) <|aC rfl rfl (.two rfl) rfl (by decide) (fun hb=>(mvI rfl rfl rfl rfl)) <|aC rfl rfl (.two rfl) rfl (by decide) (fun hb=>(faR 3 rfl rfl rfl Tryz.underlying30 rfl ti9 (lb rfl) rfl rfl)) <|aC rfl rfl (.two rfl) rfl (by decide) (fun hb=>(aF (d:=.str _) rfl rfl (lb rfl) Tryz.underlying9 ag9 ti9 (by decide) (svcR rfl hb) rfl (nle rfl) rfl)) <|aC rfl rfl (.two rfl) rfl (by decide) (fun hb=>(cT rfl rfl (lb rfl) Tryz.underlying9 (svc (d:=.str _) rfl hb) rfl)) <|aC rfl rfl (.two rfl) rfl (by decide) (fun hb=>(aP rfl rfl (lb rfl) (svcI rfl hb) (svcI rfl hb) rfl hx7)) <|aC rfl rfl (.one rfl) rfl (by decide) (fun hb=>(vC rfl rfl (lb rfl) hb (svcB rfl hb) rfl rfl hx8)) <|aA rfl (bT rfl rfl (lb rfl) (svB rfl) rfl rfl hx9) <|aA rfl (mvB rfl rfl rfl rfl) <|aC rfl rfl (.one rfl) rfl (by decide) (fun hb=>(mvI rfl rfl rfl rfl)) <|aC rfl rfl (.one rfl) rfl (by decide) (fun hb=>(aP rfl rfl (lb rfl) (svcI rfl hb) (sv (d:=.int _ 0) rfl) rfl hx10)) <|aC rfl rfl (.one rfl) rfl (by decide) (fun hb=>(aM rfl rfl (lb rfl) (svcB rfl hb))) <|aC rfl rfl (.two rfl) rfl (by decide) (fun hb=>(mvI rfl rfl rfl rfl)) <|aC rfl rfl (.two rfl) rfl (by decide) (fun hb=>(aP rfl rfl (lb rfl) (svcI rfl hb) (sv (d:=.int _ 0) rfl) rfl hx11)) <|aC rfl rfl (.one rfl) rfl (by decide) (fun hb=>(jH rfl rfl (lb rfl) hb (svcB rfl hb) rfl rfl hx12)) <|aA rfl (cQ rfl rfl (lb rfl) (svB rfl) rfl rfl hx13) <|aD ?_)
  refine aV (b:=_) rfl (fun hc14=>?_) (fun hc14=>?_)
  ·
   replace h:=cD h hc14
   refine aE (aA rfl (aH rfl rfl (lb rfl) (sv (d:=.bool false) rfl)) <|aD ?_)
   refine aT ?_
   refine bI ?_
   refine cS ?_
   refine bI ?_
   obtain rfl:=Option.some.inj h
   refine ⟨.inr rfl,(fun i=>if i = 0 then 1001 else i),⟨.nil,(.cons (.blk rfl rfl rfl) (.cons (EntW.lst rfl) .nil)),cK [1000,1001] rfl (by decide),(fun i hi=>by first | rfl | (show (if _ then _ else _) = _; (repeat' split) <;> omega))⟩,(.cons (sv rfl) .nil),rfl⟩
  ·
   replace h:=cE h hc14
   refine aY ?_
   refine aS ?_
   refine aE (aA rfl (mvR rfl rfl rfl rfl) <|aA rfl (lra q13 la46 rfl rfl rfl rfl rfl (nle rfl) rfl) <|aA rfl (aX rfl rfl (lb rfl) (svR rfl)) <|aA rfl (faR 0 rfl rfl rfl Tryz.underlying49 rfl ti46 (lb rfl) rfl rfl) <|aA rfl (stA q13 q10 ti46 rfl rfl rfl rfl rfl rfl rfl rfl (nle rfl) rfl) <|aD ?_)
   obtain ⟨x15,hx15,h⟩:=bF h
   obtain ⟨x16,hx16,h⟩:=bF h
   refine lF rfl [⟨[0],[],[(65,.ref 1000 0)],[]⟩,
    ⟨[65],[],[(66,.ref 1000 0)],[]⟩,
    ⟨[66],[],[(67,.ref 1000 49)],[]⟩,
    ⟨[67],[1000],[(68,.str a49)],[]⟩,
    ⟨[3],[],[(69,.ref 0 3)],[]⟩,
    ⟨[69],[0],[(70,.str a0.Text)],[]⟩,
    ⟨[6],[],[(71,.int .i64 x4.2.1)],[]⟩,
    ⟨[70,71],[],[(72,.str x15)],[]⟩,
    ⟨[68,72],[],[(73,.str x16)],[]⟩,
    ⟨[65],[],[(74,.ref 1000 0)],[]⟩,
    ⟨[74],[],[(75,.ref 1000 49)],[]⟩,
    ⟨[73,75],[1000],[],[(1000,.blk 49 (w40 x4.1.ID x4.1.Send.Base x4.1.Send.Data x4.1.Send.Next x4.1.Send.Pieces x4.1.Send.Lost x4.1.Send.Closed x4.1.Send.Sent x4.1.Send.Again x4.1.Send.Done x4.1.Recv.Recv.Base x4.1.Recv.Recv.Ready x4.1.Recv.Recv.Parts x4.1.Recv.End x4.1.Out.Window x4.1.Out.Limit x4.1.Out.Used x4.1.Out.Read x4.1.In.Window x4.1.In.Limit x4.1.In.Used x4.1.In.Read x4.1.Mine x4.1.Hers a25 a26 a27 a28 a29 a30 a31 a32 a33 a34 a35 a36 a37 a38 a39 a40 a41 a42 a43 a44 a45 a46 a47 a48 (.osl 1001 aO.sz a53.length) x16 a50 a51 a52))]⟩] rfl ?_ (by kernel_rfl) ?_
   ·refine .cons (lop rfl rfl fun S hA=>(aM rfl rfl (lb rfl) (svaR hA rfl rfl))) ?_
    refine .cons (lop rfl rfl fun S hA=>(aX rfl rfl (lb rfl) (svaR hA rfl rfl))) ?_
    refine .cons (lop rfl rfl fun S hA=>(aI rfl rfl (lb rfl) Tryz.underlying49 rfl ti9 (by decide) (svaR hA rfl rfl) (off':=49) rfl)) ?_
    refine .cons (lop rfl rfl fun S hA=>(aF (d:=.str _) rfl rfl (lb rfl) Tryz.underlying9 ag9 ti9 (by decide) (svaR hA rfl rfl) (agi hA rfl rfl) (nle rfl) rfl)) ?_
    refine .cons (lop rfl rfl fun S hA=>(aI rfl rfl (lb rfl) Tryz.underlying30 rfl ti9 (by decide) (svaR hA rfl rfl) (off':=3) rfl)) ?_
    refine .cons (lop rfl rfl fun S hA=>(aF (d:=.str _) rfl rfl (lb rfl) Tryz.underlying9 ag9 ti9 (by decide) (svaR hA rfl rfl) (agi hA rfl rfl) (nle rfl) rfl)) ?_
    refine .cons (lop rfl rfl fun S hA=>(aM rfl rfl (lb rfl) (svaI hA rfl rfl))) ?_
    refine .cons (lop rfl rfl fun S hA=>(jL rfl rfl (lb rfl) Tryz.underlying9 (sv (d:=.str _) (agr hA rfl rfl)) rfl ⟨_,(svaI hA rfl rfl)⟩ hx15)) ?_
    refine .cons (lop rfl rfl fun S hA=>(nM rfl rfl (lb rfl) (sv (d:=.str _) (agr hA rfl rfl)) (sv (d:=.str _) (agr hA rfl rfl)) hx16)) ?_
    refine .cons (lop rfl rfl fun S hA=>(aX rfl rfl (lb rfl) (svaR hA rfl rfl))) ?_
    refine .cons (lop rfl rfl fun S hA=>(aI rfl rfl (lb rfl) Tryz.underlying49 rfl ti9 (by decide) (svaR hA rfl rfl) (off':=49) rfl)) ?_
    refine .cons (lop rfl rfl fun S hA=>(bN (ds':=q10) rfl rfl ti9 (svaR hA rfl rfl) (agi hA rfl rfl) (sv (d:=.str _) (agr hA rfl rfl)) rfl rfl rfl (nle rfl) rfl)) ?_
    exact .nil
   refine cO ?_
   refine aS ?_
   refine aE (aA rfl (aH rfl rfl (lb rfl) (sv (d:=.bool true) rfl)) <|aD ?_)
   refine aT ?_
   obtain rfl:=Option.some.inj h
   refine ⟨.inr rfl,(fun i=>if i = 0 then 1001 else i),⟨.nil,(.cons (.blk rfl rfl rfl) (.cons (EntW.lst rfl) .nil)),cK [1000,1001] rfl (by decide),(fun i hi=>by first | rfl | (show (if _ then _ else _) = _; (repeat' split) <;> omega))⟩,(.cons (sv rfl) .nil),rfl⟩
 ·
  replace h:=cE h hc3
  obtain ⟨x17,hx17,h⟩:=aQ h
  refine aE (aA rfl (aP rfl rfl (lb rfl) (svI rfl) (sv (d:=.int _ 1) rfl) rfl hx17) <|aA rfl (asB rfl rfl rfl rfl) <|aD ?_)
  refine aV (b:=_) rfl (fun hc18=>?_) (fun hc18=>?_)
  ·
   replace h:=cD h hc18
   obtain ⟨x19,hx19,h⟩:=bF h
   refine bO (aA rfl (mvR rfl rfl rfl rfl) <|aA rfl (mvR rfl rfl rfl rfl) <|aA rfl (aX rfl rfl (lb rfl) (svR rfl)) <|aA rfl (faR 0 rfl rfl rfl Tryz.underlying49 rfl ti46 (lb rfl) rfl rfl) <|aA rfl (lra q13 la46 rfl rfl rfl rfl rfl (nle rfl) rfl) <|aA rfl (aU (r:=.tuple q38) rfl rfl (lb rfl) cl36 (.cons (svA q13 rfl) .nil) rfl (wD _ _ hx19)) <|aA rfl (aM rfl rfl (lb rfl) (sv (d:=.tuple q38) rfl)) <|aA rfl (aZ (d:=.agg q13) rfl rfl (lb rfl) (sv (d:=.tuple q38) rfl) rfl) <|aA rfl (aZ (d:=.int _ _) rfl rfl (lb rfl) (sv (d:=.tuple q38) rfl) rfl) <|aA rfl (aX rfl rfl (lb rfl) (svR rfl)) <|aA rfl (faR 0 rfl rfl rfl Tryz.underlying49 rfl ti46 (lb rfl) rfl rfl) <|aA rfl (stA q13 q10 ti46 rfl rfl rfl rfl rfl rfl rfl rfl (nle rfl) rfl) <|cL ?_)
   refine cO ?_
   refine aS ?_
   refine aE (aA rfl (aH rfl rfl (lb rfl) (sv (d:=.bool true) rfl)) <|aD ?_)
   refine aT ?_
   obtain rfl:=Option.some.inj h
   refine ⟨.inr rfl,(fun i=>if i = 0 then 1001 else i),⟨.nil,(.cons (.blk rfl rfl rfl) (.cons (EntW.lst rfl) .nil)),cK [1000,1001] rfl (by decide),(fun i hi=>by first | rfl | (show (if _ then _ else _) = _; (repeat' split) <;> omega))⟩,(.cons (sv rfl) .nil),rfl⟩
  ·
   replace h:=cE h hc18
   obtain ⟨x20,hx20,h⟩:=aQ h
   refine aE (aA rfl (aP rfl rfl (lb rfl) (svI rfl) (sv (d:=.int _ 2) rfl) rfl hx20) <|aA rfl (asB rfl rfl rfl rfl) <|aD ?_)
   refine aV (b:=_) rfl (fun hc21=>?_) (fun hc21=>?_)
   ·
    replace h:=cD h hc21
    obtain ⟨x22,hx22,h⟩:=bF h
    obtain ⟨x23,hx23,h⟩:=aQ h
    obtain ⟨x24,hx24,h⟩:=aQ h
    obtain ⟨x25,hx25,h⟩:=bF h
    refine dD rfl [⟨[0],[],[(92,.ref 1000 0)],[]⟩,
     ⟨[92],[],[(93,.ref 1000 0)],[]⟩,
     ⟨[93],[],[(94,.ref 1000 0)],[]⟩,
     ⟨[94],[1000],[(95,.agg (w41 a1 a2 a3 a4 a5 a6 a7 a8 a9 a10 a11 a12 a13 a14 a15 a16 a17 a18 a19 a20 a21 a22 a23 a24))],[]⟩,
     ⟨[3],[],[(96,.ref 0 2)],[]⟩,
     ⟨[96],[0],[(97,.int .u8 a0.Path)],[]⟩,
     ⟨[97],[],[(98,.int .u8 x22)],[]⟩,
     ⟨[98],[],[(99,.int .i64 x23)],[]⟩,
     ⟨[3],[],[(100,.ref 0 1)],[]⟩,
     ⟨[100],[0],[(101,.int .u8 a0.N)],[]⟩,
     ⟨[101],[],[(102,.int .i64 x24)],[]⟩,
     ⟨[95,99,102],[],[(103,.tuple [.agg (v1 x25.1),.agg (v7 x25.2.1),.str x25.2.2.1,.bool x25.2.2.2])],[]⟩,
     ⟨[103],[],[(91,.tuple [.agg (v1 x25.1),.agg (v7 x25.2.1),.str x25.2.2.1,.bool x25.2.2.2])],[]⟩,
     ⟨[91],[],[(104,.agg (v1 x25.1))],[]⟩,
     ⟨[91],[],[(105,.agg (v7 x25.2.1))],[]⟩,
     ⟨[91],[],[(106,.str x25.2.2.1)],[]⟩,
     ⟨[91],[],[(107,.bool x25.2.2.2)],[]⟩,
     ⟨[],[1],[(8,.ref 1 0)],[(1,.blk 46 (w41 0 0 [] 0 ([] : List aJ) ([] : List aG) false false false false 0 [] ([] : List aN) 0 0 0 0 0 0 0 0 0 0 0))]⟩,
     ⟨[],[2],[(9,.ref 2 0)],[(2,.blk 105 (w46 0 0 0 false))]⟩,
     ⟨[8,104],[1],[],[(1,.blk 46 (v1 x25.1))]⟩,
     ⟨[9,105],[2],[],[(2,.blk 105 (v7 x25.2.1))]⟩,
     ⟨[106],[],[(10,.str x25.2.2.1)],[]⟩,
     ⟨[107],[],[(11,.bool x25.2.2.2)],[]⟩] rfl ?_ (by kernel_rfl) ?_
    ·refine .cons (lop rfl rfl fun S hA=>(aM rfl rfl (lb rfl) (svaR hA rfl rfl))) ?_
     refine .cons (lop rfl rfl fun S hA=>(aX rfl rfl (lb rfl) (svaR hA rfl rfl))) ?_
     refine .cons (lop rfl rfl fun S hA=>(aI rfl rfl (lb rfl) Tryz.underlying49 rfl ti46 (by decide) (svaR hA rfl rfl) (off':=0) rfl)) ?_
     refine .cons (lop rfl rfl fun S hA=>(bK (cs:=q13) rfl rfl (lb rfl) Tryz.underlying46 ag46 ti46 (by decide) (svaR hA rfl rfl) (agi hA rfl rfl) (nle rfl) rfl)) ?_
     refine .cons (lop rfl rfl fun S hA=>(aI rfl rfl (lb rfl) Tryz.underlying30 rfl ti5 (by decide) (svaR hA rfl rfl) (off':=2) rfl)) ?_
     refine .cons (lop rfl rfl fun S hA=>(aF (d:=.int _ _) rfl rfl (lb rfl) Tryz.underlying5 ag5 ti5 (by decide) (svaR hA rfl rfl) (agi hA rfl rfl) (nle rfl) rfl)) ?_
     refine .cons (lop rfl rfl fun S hA=>(rV rfl rfl (lb rfl) (svaI hA rfl rfl) (sv (d:=.int _ 4) rfl) hx22)) ?_
     refine .cons (lop rfl rfl fun S hA=>(iW rfl rfl (lb rfl) ⟨_,Tryz.underlying5⟩ Tryz.underlying3 (svaI hA rfl rfl) hx23)) ?_
     refine .cons (lop rfl rfl fun S hA=>(aI rfl rfl (lb rfl) Tryz.underlying30 rfl ti5 (by decide) (svaR hA rfl rfl) (off':=1) rfl)) ?_
     refine .cons (lop rfl rfl fun S hA=>(aF (d:=.int _ _) rfl rfl (lb rfl) Tryz.underlying5 ag5 ti5 (by decide) (svaR hA rfl rfl) (agi hA rfl rfl) (nle rfl) rfl)) ?_
     refine .cons (lop rfl rfl fun S hA=>(iW rfl rfl (lb rfl) ⟨_,Tryz.underlying5⟩ Tryz.underlying3 (svaI hA rfl rfl) hx24)) ?_
     refine .cons (lop rfl rfl fun S hA=>(aU (r:=.tuple q31) rfl rfl (lb rfl) cl34 (.cons (svaA q13 hA rfl rfl) (.cons (svaI hA rfl rfl) (.cons (svaI hA rfl rfl) (.cons (sv (d:=.int _ 1099511627776) rfl) .nil)))) rfl (sR _ _ _ _ _ hx25))) ?_
     refine .cons (lop rfl rfl fun S hA=>(aM rfl rfl (lb rfl) (sv (d:=.tuple q31) (agr hA rfl rfl)))) ?_
     refine .cons (lop rfl rfl fun S hA=>(aZ (d:=.agg q13) rfl rfl (lb rfl) (sv (d:=.tuple q31) (agr hA rfl rfl)) rfl)) ?_
     refine .cons (lop rfl rfl fun S hA=>(aZ (d:=.agg q20) rfl rfl (lb rfl) (sv (d:=.tuple q31) (agr hA rfl rfl)) rfl)) ?_
     refine .cons (lop rfl rfl fun S hA=>(aZ (d:=.str _) rfl rfl (lb rfl) (sv (d:=.tuple q31) (agr hA rfl rfl)) rfl)) ?_
     refine .cons (lop rfl rfl fun S hA=>(aZ (d:=.bool _) rfl rfl (lb rfl) (sv (d:=.tuple q31) (agr hA rfl rfl)) rfl)) ?_
     refine .cons (lop rfl rfl fun S hA=>(bD (cs:=q14) (cs':=(w41 0 0 [] 0 ([] : List aJ) ([] : List aG) false false false false 0 [] ([] : List aN) 0 0 0 0 0 0 0 0 0 0 0)) 1 rfl rfl (lb rfl) (agi hA rfl rfl) ti46 rfl rfl (.k4 (.cons (.nils _) (.cons (.nils _) (.k4 (.k (.k (.cons (.nils _) (.all _)))))))))) ?_
     refine .cons (lop rfl rfl fun S hA=>(bD (cs:=q20) (cs':=(w46 0 0 0 false)) 2 rfl rfl (lb rfl) (agi hA rfl rfl) dH rfl rfl (.all _))) ?_
     refine .cons (lop rfl rfl fun S hA=>(bN (ds':=q13) rfl rfl ti46 (svaR hA rfl rfl) (agi hA rfl rfl) (svaA q13 hA rfl rfl) rfl rfl rfl (nle rfl) rfl)) ?_
     refine .cons (lop rfl rfl fun S hA=>(bN (ds':=q20) rfl rfl dH (svaR hA rfl rfl) (agi hA rfl rfl) (svaA q20 hA rfl rfl) rfl rfl rfl (nle rfl) rfl)) ?_
     refine .cons (lop rfl rfl fun S hA=>(aH rfl rfl (lb rfl) (sv (d:=.str _) (agr hA rfl rfl)))) ?_
     refine .cons (lop rfl rfl fun S hA=>(aH rfl rfl (lb rfl) (svaB hA rfl rfl))) ?_
     exact .nil
    refine aE (aA rfl (mvR rfl rfl rfl rfl) <|aA rfl (lra q13 la46 rfl rfl rfl rfl rfl (nle rfl) rfl) <|aA rfl (aX rfl rfl (lb rfl) (svR rfl)) <|aA rfl (faR 0 rfl rfl rfl Tryz.underlying49 rfl ti46 (lb rfl) rfl rfl) <|aA rfl (stA q13 q10 ti46 rfl rfl rfl rfl rfl rfl rfl rfl (nle rfl) rfl) <|aD ?_)
    refine aE (aA rfl (mvB rfl rfl rfl rfl) <|aD ?_)
    refine aV (b:=_) rfl (fun hc26=>?_) (fun hc26=>?_)
    ·
     replace h:=cD h hc26
     obtain ⟨x27,hx27,h⟩:=bF h
     refine lF rfl [⟨[0],[],[(113,.ref 1000 0)],[]⟩,
      ⟨[0],[],[(114,.ref 1000 0)],[]⟩,
      ⟨[114],[],[(115,.ref 1000 0)],[]⟩,
      ⟨[115],[],[(116,.ref 1000 48)],[]⟩,
      ⟨[116],[1000],[(117,.osl 1001 aO.sz a53.length)],[]⟩,
      ⟨[9],[],[(118,.ref 2 0)],[]⟩,
      ⟨[118],[2],[(119,.int .i64 x25.2.1.From)],[]⟩,
      ⟨[10],[],[(120,.str x25.2.2.1)],[]⟩,
      ⟨[9],[],[(121,.ref 2 3)],[]⟩,
      ⟨[121],[2],[(122,.bool x25.2.1.Fin)],[]⟩,
      ⟨[119,120,122],[],[(123,.agg [.int .i64 x25.2.1.From,.str x25.2.2.1,.bool x25.2.1.Fin])],[]⟩,
      ⟨[123],[3],[(124,.osl 3 aO.sz (([(⟨x25.2.1.From,x25.2.2.1,x25.2.1.Fin⟩ : bL)] : (List bL)).length))],[(3,.blk 51 (D.flat ((([(⟨x25.2.1.From,x25.2.2.1,x25.2.1.Fin⟩ : bL)] : (List bL))).map aO.d)))]⟩,
      ⟨[117,124],[3,4,1001],[(125,.osl 4 aO.sz x27.length)],[(4,.blk 51 (D.flat (x27.map aO.d))),(1001,.none)]⟩,
      ⟨[113],[],[(126,.ref 1000 0)],[]⟩,
      ⟨[126],[],[(127,.ref 1000 48)],[]⟩,
      ⟨[125,127],[1000],[],[(1000,.blk 49 (w40 x25.1.ID x25.1.Send.Base x25.1.Send.Data x25.1.Send.Next x25.1.Send.Pieces x25.1.Send.Lost x25.1.Send.Closed x25.1.Send.Sent x25.1.Send.Again x25.1.Send.Done x25.1.Recv.Recv.Base x25.1.Recv.Recv.Ready x25.1.Recv.Recv.Parts x25.1.Recv.End x25.1.Out.Window x25.1.Out.Limit x25.1.Out.Used x25.1.Out.Read x25.1.In.Window x25.1.In.Limit x25.1.In.Used x25.1.In.Read x25.1.Mine x25.1.Hers a25 a26 a27 a28 a29 a30 a31 a32 a33 a34 a35 a36 a37 a38 a39 a40 a41 a42 a43 a44 a45 a46 a47 a48 (.osl 4 aO.sz x27.length) a49 a50 a51 a52))]⟩] rfl ?_ (by kernel_rfl) ?_
     ·refine .cons (lop rfl rfl fun S hA=>(aM rfl rfl (lb rfl) (svaR hA rfl rfl))) ?_
      refine .cons (lop rfl rfl fun S hA=>(aM rfl rfl (lb rfl) (svaR hA rfl rfl))) ?_
      refine .cons (lop rfl rfl fun S hA=>(aX rfl rfl (lb rfl) (svaR hA rfl rfl))) ?_
      refine .cons (lop rfl rfl fun S hA=>(aI rfl rfl (lb rfl) Tryz.underlying49 rfl ti47 (by decide) (svaR hA rfl rfl) (off':=48) rfl)) ?_
      refine .cons (lop rfl rfl fun S hA=>(aF (d:=.osl _ _ _) rfl rfl (lb rfl) Tryz.underlying47 ag47 ti47 (by decide) (svaR hA rfl rfl) (agi hA rfl rfl) (nle rfl) rfl)) ?_
      refine .cons (lop rfl rfl fun S hA=>(aI rfl rfl (lb rfl) Tryz.underlying105 rfl ti3 (by decide) (svaR hA rfl rfl) (off':=0) rfl)) ?_
      refine .cons (lop rfl rfl fun S hA=>(aF (d:=.int _ _) rfl rfl (lb rfl) Tryz.underlying3 ag3 ti3 (by decide) (svaR hA rfl rfl) (agi hA rfl rfl) (nle rfl) rfl)) ?_
      refine .cons (lop rfl rfl fun S hA=>(aM rfl rfl (lb rfl) (sv (d:=.str _) (agr hA rfl rfl)))) ?_
      refine .cons (lop rfl rfl fun S hA=>(aI rfl rfl (lb rfl) Tryz.underlying105 rfl ti4 (by decide) (svaR hA rfl rfl) (off':=3) rfl)) ?_
      refine .cons (lop rfl rfl fun S hA=>(aF (d:=.bool _) rfl rfl (lb rfl) Tryz.underlying4 ag4 ti4 (by decide) (svaR hA rfl rfl) (agi hA rfl rfl) (nle rfl) rfl)) ?_
      refine .cons (lop rfl rfl fun S hA=>(bS (cs:=q25) rfl rfl (lb rfl) Tryz.underlying51 ti51 pl51 rfl (.cons (svaI hA rfl rfl) (.cons (sv (d:=.str _) (agr hA rfl rfl)) (.cons (svaB hA rfl rfl) .nil))) rfl)) ?_
      refine .cons (lop rfl rfl fun S hA=>(pK aO.toEnc0 ([(⟨x25.2.1.From,x25.2.2.1,x25.2.1.Fin⟩ : bL)] : (List bL)) 3 rfl rfl (lb rfl) Tryz.underlying47 ti51 (agi hA rfl rfl) (.cons (svaA q25 hA rfl rfl) .nil) rfl rfl (by decide))) ?_
      refine .cons (lop rfl rfl fun S hA=>(mE aO.toEnc0 4 rfl rfl (lb rfl) Tryz.underlying47 ti51 rfl (agr hA rfl rfl) rfl (agi hA rfl rfl) (agi hA rfl rfl) (zF aO.toEnc0 (agr hA rfl rfl) rfl (agi hA rfl rfl)) hx27)) ?_
      refine .cons (lop rfl rfl fun S hA=>(aX rfl rfl (lb rfl) (svaR hA rfl rfl))) ?_
      refine .cons (lop rfl rfl fun S hA=>(aI rfl rfl (lb rfl) Tryz.underlying49 rfl ti47 (by decide) (svaR hA rfl rfl) (off':=48) rfl)) ?_
      refine .cons (lop rfl rfl fun S hA=>(bN (ds':=q10) rfl rfl ti47 (svaR hA rfl rfl) (agi hA rfl rfl) (sv (d:=.osl _ _ _) (agr hA rfl rfl)) rfl rfl rfl (nle rfl) rfl)) ?_
      exact .nil
     refine cO ?_
     refine aS ?_
     refine aE (aA rfl (aH rfl rfl (lb rfl) (sv (d:=.bool true) rfl)) <|aD ?_)
     refine aT ?_
     obtain rfl:=Option.some.inj h
     refine ⟨.inr rfl,(fun i=>if i = 0 then 4 else i),⟨.nil,(.cons (.blk rfl rfl rfl) (.cons (EntW.lst rfl) .nil)),cK [1000,4] rfl (by decide),(fun i hi=>by first | rfl | (show (if _ then _ else _) = _; (repeat' split) <;> omega))⟩,(.cons (sv rfl) .nil),rfl⟩
    ·
     replace h:=cE h hc26
     refine aY ?_
     refine cO ?_
     refine aS ?_
     refine aE (aA rfl (aH rfl rfl (lb rfl) (sv (d:=.bool true) rfl)) <|aD ?_)
     refine aT ?_
     obtain rfl:=Option.some.inj h
     refine ⟨.inr rfl,(fun i=>if i = 0 then 1001 else i),⟨.nil,(.cons (.blk rfl rfl rfl) (.cons (EntW.lst rfl) .nil)),cK [1000,1001] rfl (by decide),(fun i hi=>by first | rfl | (show (if _ then _ else _) = _; (repeat' split) <;> omega))⟩,(.cons (sv rfl) .nil),rfl⟩
   ·
    replace h:=cE h hc21
    obtain ⟨x28,hx28,h⟩:=aQ h
    refine aE (aA rfl (aP rfl rfl (lb rfl) (svI rfl) (sv (d:=.int _ 3) rfl) rfl hx28) <|aA rfl (asB rfl rfl rfl rfl) <|aD ?_)
    refine aV (b:=_) rfl (fun hc29=>?_) (fun hc29=>?_)
    ·
     replace h:=cD h hc29
     obtain ⟨x30,hx30,h⟩:=aQ h
     refine aE (aA rfl (mvR rfl rfl rfl rfl) <|aA rfl (aX rfl rfl (lb rfl) (svR rfl)) <|aA rfl (faR 48 rfl rfl rfl Tryz.underlying49 rfl ti47 (lb rfl) rfl rfl) <|aA rfl (aF (d:=.osl _ _ _) rfl rfl (lb rfl) Tryz.underlying47 ag47 ti47 (by decide) (svR rfl) rfl (nle rfl) rfl) <|aA rfl (mC rfl rfl (lb rfl) Tryz.underlying47 (sv (d:=.osl _ _ _) rfl)) <|aA rfl (aP rfl rfl (lb rfl) (svI rfl) (sv (d:=.int _ 0) rfl) rfl hx30) <|aD ?_)
     refine aV (b:=_) rfl (fun hc31=>?_) (fun hc31=>?_)
     ·
      replace h:=cD h hc31
      obtain ⟨x32,hx32,h⟩:=aQ h
      obtain ⟨x33,hx33,h⟩:=bF h
      obtain ⟨x34,hx34,h⟩:=bF h
      obtain ⟨x35,hx35,h⟩:=bF h
      refine dD rfl [⟨[0],[],[(136,.ref 1000 0)],[]⟩,
       ⟨[136],[],[(137,.ref 1000 0)],[]⟩,
       ⟨[137],[],[(138,.ref 1000 48)],[]⟩,
       ⟨[138],[1000],[(139,.osl 1001 aO.sz a53.length)],[]⟩,
       ⟨[3],[],[(140,.ref 0 1)],[]⟩,
       ⟨[140],[0],[(141,.int .u8 a0.N)],[]⟩,
       ⟨[141],[],[(142,.int .i64 x32)],[]⟩,
       ⟨[0],[],[(143,.ref 1000 0)],[]⟩,
       ⟨[143],[],[(144,.ref 1000 0)],[]⟩,
       ⟨[144],[],[(145,.ref 1000 48)],[]⟩,
       ⟨[145],[1000],[(146,.osl 1001 aO.sz a53.length)],[]⟩,
       ⟨[146],[],[(147,.int .i64 (a53.length : Int))],[]⟩,
       ⟨[142,147],[],[(148,.int .i64 x33)],[]⟩,
       ⟨[139,148],[],[(149,.ref 1001 (((x33 : Int).toNat) * aO.sz + 0))],[]⟩,
       ⟨[149],[1001],[(150,.agg (v9 x35))],[]⟩,
       ⟨[],[1],[(12,.ref 1 0)],[(1,.blk 51 [.int .i64 0,.str [],.bool false])]⟩,
       ⟨[12,150],[1],[],[(1,.blk 51 (v9 x35))]⟩] rfl ?_ (by kernel_rfl) ?_
      ·refine .cons (lop rfl rfl fun S hA=>(aM rfl rfl (lb rfl) (svaR hA rfl rfl))) ?_
       refine .cons (lop rfl rfl fun S hA=>(aX rfl rfl (lb rfl) (svaR hA rfl rfl))) ?_
       refine .cons (lop rfl rfl fun S hA=>(aI rfl rfl (lb rfl) Tryz.underlying49 rfl ti47 (by decide) (svaR hA rfl rfl) (off':=48) rfl)) ?_
       refine .cons (lop rfl rfl fun S hA=>(aF (d:=.osl _ _ _) rfl rfl (lb rfl) Tryz.underlying47 ag47 ti47 (by decide) (svaR hA rfl rfl) (agi hA rfl rfl) (nle rfl) rfl)) ?_
       refine .cons (lop rfl rfl fun S hA=>(aI rfl rfl (lb rfl) Tryz.underlying30 rfl ti5 (by decide) (svaR hA rfl rfl) (off':=1) rfl)) ?_
       refine .cons (lop rfl rfl fun S hA=>(aF (d:=.int _ _) rfl rfl (lb rfl) Tryz.underlying5 ag5 ti5 (by decide) (svaR hA rfl rfl) (agi hA rfl rfl) (nle rfl) rfl)) ?_
       refine .cons (lop rfl rfl fun S hA=>(iW rfl rfl (lb rfl) ⟨_,Tryz.underlying5⟩ Tryz.underlying3 (svaI hA rfl rfl) hx32)) ?_
       refine .cons (lop rfl rfl fun S hA=>(aM rfl rfl (lb rfl) (svaR hA rfl rfl))) ?_
       refine .cons (lop rfl rfl fun S hA=>(aX rfl rfl (lb rfl) (svaR hA rfl rfl))) ?_
       refine .cons (lop rfl rfl fun S hA=>(aI rfl rfl (lb rfl) Tryz.underlying49 rfl ti47 (by decide) (svaR hA rfl rfl) (off':=48) rfl)) ?_
       refine .cons (lop rfl rfl fun S hA=>(aF (d:=.osl _ _ _) rfl rfl (lb rfl) Tryz.underlying47 ag47 ti47 (by decide) (svaR hA rfl rfl) (agi hA rfl rfl) (nle rfl) rfl)) ?_
       refine .cons (lop rfl rfl fun S hA=>(mC rfl rfl (lb rfl) Tryz.underlying47 (sv (d:=.osl _ _ _) (agr hA rfl rfl)))) ?_
       refine .cons (lop rfl rfl fun S hA=>(rV rfl rfl (lb rfl) (svaI hA rfl rfl) (svaI hA rfl rfl) hx33)) ?_
       refine .cons (lop rfl rfl fun S hA=>(kD aO.toEnc0 rfl rfl (lb rfl) Tryz.underlying47 ti51 (sv (d:=.osl _ _ _) (agr hA rfl rfl)) rfl (svaI hA rfl rfl) hx34)) ?_
       refine .cons (lop rfl rfl fun S hA=>(nA aO.toEnc0 (cs:=q25) rfl rfl (lb rfl) Tryz.underlying51 ag51 ti51 (by decide) (svaR hA rfl rfl) (agi hA rfl rfl) hx35 (nle rfl) rfl)) ?_
       refine .cons (lop rfl rfl fun S hA=>(bD (cs:=q25) (cs':=[.int .i64 0,.str [],.bool false]) 1 rfl rfl (lb rfl) (agi hA rfl rfl) ti51 rfl rfl (.all _))) ?_
       refine .cons (lop rfl rfl fun S hA=>(bN (ds':=q25) rfl rfl ti51 (svaR hA rfl rfl) (agi hA rfl rfl) (svaA q25 hA rfl rfl) rfl rfl rfl (nle rfl) rfl)) ?_
       exact .nil
      obtain ⟨x36,hx36,h⟩:=bF h
      refine dD rfl [⟨[0],[],[(152,.ref 1000 0)],[]⟩,
       ⟨[152],[],[(153,.ref 1000 0)],[]⟩,
       ⟨[153],[],[(154,.ref 1000 24)],[]⟩,
       ⟨[154],[1000],[(155,.agg (w41 a25 a26 a27 a28 a29 a30 a31 a32 a33 a34 a35 a36 a37 a38 a39 a40 a41 a42 a43 a44 a45 a46 a47 a48))],[]⟩,
       ⟨[12],[],[(156,.ref 1 0)],[]⟩,
       ⟨[156],[1],[(157,.int .i64 x35.at_)],[]⟩,
       ⟨[12],[],[(158,.ref 1 1)],[]⟩,
       ⟨[158],[1],[(159,.str x35.s)],[]⟩,
       ⟨[12],[],[(160,.ref 1 2)],[]⟩,
       ⟨[160],[1],[(161,.bool x35.fin)],[]⟩,
       ⟨[155,157,159,161],[],[(162,.tuple [.agg (v1 x36.1),.int .i64 x36.2.1,.int .u32 x36.2.2])],[]⟩,
       ⟨[162],[],[(151,.tuple [.agg (v1 x36.1),.int .i64 x36.2.1,.int .u32 x36.2.2])],[]⟩,
       ⟨[151],[],[(163,.agg (v1 x36.1))],[]⟩,
       ⟨[151],[],[(164,.int .i64 x36.2.1)],[]⟩,
       ⟨[151],[],[(165,.int .u32 x36.2.2)],[]⟩,
       ⟨[],[2],[(13,.ref 2 0)],[(2,.blk 46 (w41 0 0 [] 0 ([] : List aJ) ([] : List aG) false false false false 0 [] ([] : List aN) 0 0 0 0 0 0 0 0 0 0 0))]⟩,
       ⟨[13,163],[2],[],[(2,.blk 46 (v1 x36.1))]⟩,
       ⟨[164],[],[(14,.int .i64 x36.2.1)],[]⟩,
       ⟨[165],[],[(15,.int .u32 x36.2.2)],[]⟩] rfl ?_ (by kernel_rfl) ?_
      ·refine .cons (lop rfl rfl fun S hA=>(aM rfl rfl (lb rfl) (svaR hA rfl rfl))) ?_
       refine .cons (lop rfl rfl fun S hA=>(aX rfl rfl (lb rfl) (svaR hA rfl rfl))) ?_
       refine .cons (lop rfl rfl fun S hA=>(aI rfl rfl (lb rfl) Tryz.underlying49 rfl ti46 (by decide) (svaR hA rfl rfl) (off':=24) rfl)) ?_
       refine .cons (lop rfl rfl fun S hA=>(bK (cs:=q13) rfl rfl (lb rfl) Tryz.underlying46 ag46 ti46 (by decide) (svaR hA rfl rfl) (agi hA rfl rfl) (nle rfl) rfl)) ?_
       refine .cons (lop rfl rfl fun S hA=>(aI rfl rfl (lb rfl) Tryz.underlying51 rfl ti3 (by decide) (svaR hA rfl rfl) (off':=0) rfl)) ?_
       refine .cons (lop rfl rfl fun S hA=>(aF (d:=.int _ _) rfl rfl (lb rfl) Tryz.underlying3 ag3 ti3 (by decide) (svaR hA rfl rfl) (agi hA rfl rfl) (nle rfl) rfl)) ?_
       refine .cons (lop rfl rfl fun S hA=>(aI rfl rfl (lb rfl) Tryz.underlying51 rfl ti9 (by decide) (svaR hA rfl rfl) (off':=1) rfl)) ?_
       refine .cons (lop rfl rfl fun S hA=>(aF (d:=.str _) rfl rfl (lb rfl) Tryz.underlying9 ag9 ti9 (by decide) (svaR hA rfl rfl) (agi hA rfl rfl) (nle rfl) rfl)) ?_
       refine .cons (lop rfl rfl fun S hA=>(aI rfl rfl (lb rfl) Tryz.underlying51 rfl ti4 (by decide) (svaR hA rfl rfl) (off':=2) rfl)) ?_
       refine .cons (lop rfl rfl fun S hA=>(aF (d:=.bool _) rfl rfl (lb rfl) Tryz.underlying4 ag4 ti4 (by decide) (svaR hA rfl rfl) (agi hA rfl rfl) (nle rfl) rfl)) ?_
       refine .cons (lop rfl rfl fun S hA=>(aU (r:=.tuple q34) rfl rfl (lb rfl) cl12 (.cons (svaA q13 hA rfl rfl) (.cons (svaI hA rfl rfl) (.cons (sv (d:=.str _) (agr hA rfl rfl)) (.cons (svaB hA rfl rfl) .nil)))) rfl (lD _ _ _ _ _ hx36))) ?_
       refine .cons (lop rfl rfl fun S hA=>(aM rfl rfl (lb rfl) (sv (d:=.tuple q34) (agr hA rfl rfl)))) ?_
       refine .cons (lop rfl rfl fun S hA=>(aZ (d:=.agg q13) rfl rfl (lb rfl) (sv (d:=.tuple q34) (agr hA rfl rfl)) rfl)) ?_
       refine .cons (lop rfl rfl fun S hA=>(aZ (d:=.int _ _) rfl rfl (lb rfl) (sv (d:=.tuple q34) (agr hA rfl rfl)) rfl)) ?_
       refine .cons (lop rfl rfl fun S hA=>(aZ (d:=.int _ _) rfl rfl (lb rfl) (sv (d:=.tuple q34) (agr hA rfl rfl)) rfl)) ?_
       refine .cons (lop rfl rfl fun S hA=>(bD (cs:=q14) (cs':=(w41 0 0 [] 0 ([] : List aJ) ([] : List aG) false false false false 0 [] ([] : List aN) 0 0 0 0 0 0 0 0 0 0 0)) 2 rfl rfl (lb rfl) (agi hA rfl rfl) ti46 rfl rfl (.k4 (.cons (.nils _) (.cons (.nils _) (.k4 (.k (.k (.cons (.nils _) (.all _)))))))))) ?_
       refine .cons (lop rfl rfl fun S hA=>(bN (ds':=q13) rfl rfl ti46 (svaR hA rfl rfl) (agi hA rfl rfl) (svaA q13 hA rfl rfl) rfl rfl rfl (nle rfl) rfl)) ?_
       refine .cons (lop rfl rfl fun S hA=>(aH rfl rfl (lb rfl) (svaI hA rfl rfl))) ?_
       refine .cons (lop rfl rfl fun S hA=>(aH rfl rfl (lb rfl) (svaI hA rfl rfl))) ?_
       exact .nil
      refine aE (aA rfl (mvR rfl rfl rfl rfl) <|aA rfl (lra q13 la46 rfl rfl rfl rfl rfl (nle rfl) rfl) <|aA rfl (aX rfl rfl (lb rfl) (svR rfl)) <|aA rfl (faR 24 rfl rfl rfl Tryz.underlying49 rfl ti46 (lb rfl) rfl rfl) <|aA rfl (stA q13 q10 ti46 rfl rfl rfl rfl rfl rfl rfl rfl (nle rfl) rfl) <|aD ?_)
      obtain ⟨x37,hx37,h⟩:=aQ h
      refine aE (aA rfl (mvI rfl rfl rfl rfl) <|aA rfl (aP rfl rfl (lb rfl) (svI rfl) (sv (d:=.int _ 0) rfl) rfl hx37) <|aA rfl (asB rfl rfl rfl rfl) <|aD ?_)
      refine aT ?_
      refine cS ?_
      refine bI ?_
      obtain rfl:=Option.some.inj h
      refine ⟨.inr rfl,(fun i=>if i = 0 then 1001 else i),⟨.nil,(.cons (.blk rfl rfl rfl) (.cons (EntW.lst rfl) .nil)),cK [1000,1001] rfl (by decide),(fun i hi=>by first | rfl | (show (if _ then _ else _) = _; (repeat' split) <;> omega))⟩,(.cons (sv rfl) .nil),rfl⟩
     ·
      replace h:=cE h hc31
      refine aY ?_
      refine cO ?_
      refine aS ?_
      refine aE (aA rfl (aH rfl rfl (lb rfl) (sv (d:=.bool true) rfl)) <|aD ?_)
      refine aT ?_
      obtain rfl:=Option.some.inj h
      refine ⟨.inr rfl,(fun i=>if i = 0 then 1001 else i),⟨.nil,(.cons (.blk rfl rfl rfl) (.cons (EntW.lst rfl) .nil)),cK [1000,1001] rfl (by decide),(fun i hi=>by first | rfl | (show (if _ then _ else _) = _; (repeat' split) <;> omega))⟩,(.cons (sv rfl) .nil),rfl⟩
    ·
     replace h:=cE h hc29
     obtain ⟨x38,hx38,h⟩:=aQ h
     refine aE (aA rfl (aP rfl rfl (lb rfl) (svI rfl) (sv (d:=.int _ 4) rfl) rfl hx38) <|aA rfl (asB rfl rfl rfl rfl) <|aD ?_)
     refine aV (b:=_) rfl (fun hc39=>?_) (fun hc39=>?_)
     ·
      replace h:=cD h hc39
      obtain ⟨x40,hx40,h⟩:=aQ h
      obtain ⟨x41,hx41,h⟩:=bF h
      refine dD rfl [⟨[0],[],[(175,.ref 1000 0)],[]⟩,
       ⟨[175],[],[(176,.ref 1000 0)],[]⟩,
       ⟨[176],[],[(177,.ref 1000 24)],[]⟩,
       ⟨[177],[1000],[(178,.agg (w41 a25 a26 a27 a28 a29 a30 a31 a32 a33 a34 a35 a36 a37 a38 a39 a40 a41 a42 a43 a44 a45 a46 a47 a48))],[]⟩,
       ⟨[3],[],[(179,.ref 0 1)],[]⟩,
       ⟨[179],[0],[(180,.int .u8 a0.N)],[]⟩,
       ⟨[180],[],[(181,.int .i64 x40)],[]⟩,
       ⟨[178,181],[],[(182,.tuple [.agg (v1 x41.1),.str x41.2.1,.bool x41.2.2.1,.int .i64 x41.2.2.2])],[]⟩,
       ⟨[182],[],[(174,.tuple [.agg (v1 x41.1),.str x41.2.1,.bool x41.2.2.1,.int .i64 x41.2.2.2])],[]⟩,
       ⟨[174],[],[(183,.agg (v1 x41.1))],[]⟩,
       ⟨[174],[],[(184,.str x41.2.1)],[]⟩,
       ⟨[174],[],[(185,.bool x41.2.2.1)],[]⟩,
       ⟨[174],[],[(186,.int .i64 x41.2.2.2)],[]⟩,
       ⟨[],[1],[(16,.ref 1 0)],[(1,.blk 46 (w41 0 0 [] 0 ([] : List aJ) ([] : List aG) false false false false 0 [] ([] : List aN) 0 0 0 0 0 0 0 0 0 0 0))]⟩,
       ⟨[16,183],[1],[],[(1,.blk 46 (v1 x41.1))]⟩,
       ⟨[184],[],[(17,.str x41.2.1)],[]⟩,
       ⟨[185],[],[(18,.bool x41.2.2.1)],[]⟩,
       ⟨[186],[],[(19,.int .i64 x41.2.2.2)],[]⟩] rfl ?_ (by kernel_rfl) ?_
      ·refine .cons (lop rfl rfl fun S hA=>(aM rfl rfl (lb rfl) (svaR hA rfl rfl))) ?_
       refine .cons (lop rfl rfl fun S hA=>(aX rfl rfl (lb rfl) (svaR hA rfl rfl))) ?_
       refine .cons (lop rfl rfl fun S hA=>(aI rfl rfl (lb rfl) Tryz.underlying49 rfl ti46 (by decide) (svaR hA rfl rfl) (off':=24) rfl)) ?_
       refine .cons (lop rfl rfl fun S hA=>(bK (cs:=q13) rfl rfl (lb rfl) Tryz.underlying46 ag46 ti46 (by decide) (svaR hA rfl rfl) (agi hA rfl rfl) (nle rfl) rfl)) ?_
       refine .cons (lop rfl rfl fun S hA=>(aI rfl rfl (lb rfl) Tryz.underlying30 rfl ti5 (by decide) (svaR hA rfl rfl) (off':=1) rfl)) ?_
       refine .cons (lop rfl rfl fun S hA=>(aF (d:=.int _ _) rfl rfl (lb rfl) Tryz.underlying5 ag5 ti5 (by decide) (svaR hA rfl rfl) (agi hA rfl rfl) (nle rfl) rfl)) ?_
       refine .cons (lop rfl rfl fun S hA=>(iW rfl rfl (lb rfl) ⟨_,Tryz.underlying5⟩ Tryz.underlying3 (svaI hA rfl rfl) hx40)) ?_
       refine .cons (lop rfl rfl fun S hA=>(aU (r:=.tuple q32) rfl rfl (lb rfl) cl32 (.cons (svaA q13 hA rfl rfl) (.cons (svaI hA rfl rfl) .nil)) rfl (pE _ _ _ hx41))) ?_
       refine .cons (lop rfl rfl fun S hA=>(aM rfl rfl (lb rfl) (sv (d:=.tuple q32) (agr hA rfl rfl)))) ?_
       refine .cons (lop rfl rfl fun S hA=>(aZ (d:=.agg q13) rfl rfl (lb rfl) (sv (d:=.tuple q32) (agr hA rfl rfl)) rfl)) ?_
       refine .cons (lop rfl rfl fun S hA=>(aZ (d:=.str _) rfl rfl (lb rfl) (sv (d:=.tuple q32) (agr hA rfl rfl)) rfl)) ?_
       refine .cons (lop rfl rfl fun S hA=>(aZ (d:=.bool _) rfl rfl (lb rfl) (sv (d:=.tuple q32) (agr hA rfl rfl)) rfl)) ?_
       refine .cons (lop rfl rfl fun S hA=>(aZ (d:=.int _ _) rfl rfl (lb rfl) (sv (d:=.tuple q32) (agr hA rfl rfl)) rfl)) ?_
       refine .cons (lop rfl rfl fun S hA=>(bD (cs:=q14) (cs':=(w41 0 0 [] 0 ([] : List aJ) ([] : List aG) false false false false 0 [] ([] : List aN) 0 0 0 0 0 0 0 0 0 0 0)) 1 rfl rfl (lb rfl) (agi hA rfl rfl) ti46 rfl rfl (.k4 (.cons (.nils _) (.cons (.nils _) (.k4 (.k (.k (.cons (.nils _) (.all _)))))))))) ?_
       refine .cons (lop rfl rfl fun S hA=>(bN (ds':=q13) rfl rfl ti46 (svaR hA rfl rfl) (agi hA rfl rfl) (svaA q13 hA rfl rfl) rfl rfl rfl (nle rfl) rfl)) ?_
       refine .cons (lop rfl rfl fun S hA=>(aH rfl rfl (lb rfl) (sv (d:=.str _) (agr hA rfl rfl)))) ?_
       refine .cons (lop rfl rfl fun S hA=>(aH rfl rfl (lb rfl) (svaB hA rfl rfl))) ?_
       refine .cons (lop rfl rfl fun S hA=>(aH rfl rfl (lb rfl) (svaI hA rfl rfl))) ?_
       exact .nil
      obtain ⟨x42,hx42,h⟩:=bF h
      refine aE (aA rfl (mvR rfl rfl rfl rfl) <|aA rfl (aX rfl rfl (lb rfl) (svR rfl)) <|aA rfl (faR 50 rfl rfl rfl Tryz.underlying49 rfl ti9 (lb rfl) rfl rfl) <|aA rfl (aF (d:=.str _) rfl rfl (lb rfl) Tryz.underlying9 ag9 ti9 (by decide) (svR rfl) rfl (nle rfl) rfl) <|aA rfl (aM rfl rfl (lb rfl) (sv (d:=.str _) rfl)) <|aA rfl (nM rfl rfl (lb rfl) (sv (d:=.str _) rfl) (sv (d:=.str _) rfl) hx42) <|aA rfl (aX rfl rfl (lb rfl) (svR rfl)) <|aA rfl (faR 50 rfl rfl rfl Tryz.underlying49 rfl ti9 (lb rfl) rfl rfl) <|aA rfl (bN (ds':=q10) rfl rfl ti9 (svR rfl) rfl (sv (d:=.str _) rfl) rfl rfl rfl (nle rfl) rfl) <|aD ?_)
      obtain ⟨x43,hx43,h⟩:=aQ h
      refine aE (aA rfl (mvR rfl rfl rfl rfl) <|aA rfl (mvR rfl rfl rfl rfl) <|aA rfl (aX rfl rfl (lb rfl) (svR rfl)) <|aA rfl (faR 52 rfl rfl rfl Tryz.underlying49 rfl ti4 (lb rfl) rfl rfl) <|aA rfl (aF (d:=.bool _) rfl rfl (lb rfl) Tryz.underlying4 ag4 ti4 (by decide) (svR rfl) rfl (nle rfl) rfl) <|aA rfl (mvB rfl rfl rfl rfl) <|aC rfl rfl (.one rfl) rfl (by decide) (fun hb=>(mvB rfl rfl rfl rfl)) <|aA rfl (cQ rfl rfl (lb rfl) (svB rfl) rfl rfl hx43) <|aA rfl (aX rfl rfl (lb rfl) (svR rfl)) <|aA rfl (faR 52 rfl rfl rfl Tryz.underlying49 rfl ti4 (lb rfl) rfl rfl) <|aA rfl (bN (ds':=q10) rfl rfl ti4 (svR rfl) rfl (svB rfl) rfl rfl rfl (nle rfl) rfl) <|aD ?_)
      obtain ⟨x44,hx44,h⟩:=bF h
      refine aE (aA rfl (lra q13 la46 rfl rfl rfl rfl rfl (nle rfl) rfl) <|aA rfl (aU (r:=.tuple q38) rfl rfl (lb rfl) cl33 (.cons (svA q13 rfl) .nil) rfl (oF _ _ hx44)) <|aA rfl (aM rfl rfl (lb rfl) (sv (d:=.tuple q38) rfl)) <|aA rfl (aZ (d:=.agg q13) rfl rfl (lb rfl) (sv (d:=.tuple q38) rfl) rfl) <|aA rfl (aZ (d:=.int _ _) rfl rfl (lb rfl) (sv (d:=.tuple q38) rfl) rfl) <|aA rfl (bD (cs:=q14) (cs':=(w41 0 0 [] 0 ([] : List aJ) ([] : List aG) false false false false 0 [] ([] : List aN) 0 0 0 0 0 0 0 0 0 0 0)) 2 rfl rfl (lb rfl) rfl ti46 rfl rfl (.k4 (.cons (.nils _) (.cons (.nils _) (.k4 (.k (.k (.cons (.nils _) (.all _))))))))) <|aA rfl (stA q13 q13 ti46 rfl rfl rfl rfl rfl rfl rfl rfl (nle rfl) rfl) <|aA rfl (asI rfl rfl rfl rfl) <|aD ?_)
      refine aE (aA rfl (mvR rfl rfl rfl rfl) <|aA rfl (lra q13 la46 rfl rfl rfl rfl rfl (nle rfl) rfl) <|aA rfl (aX rfl rfl (lb rfl) (svR rfl)) <|aA rfl (faR 24 rfl rfl rfl Tryz.underlying49 rfl ti46 (lb rfl) rfl rfl) <|aA rfl (stA q13 q10 ti46 rfl rfl rfl rfl rfl rfl rfl rfl (nle rfl) rfl) <|aD ?_)
      obtain ⟨x45,hx45,h⟩:=aQ h
      refine aE (aA rfl (mvR rfl rfl rfl rfl) <|aA rfl (aX rfl rfl (lb rfl) (svR rfl)) <|aA rfl (faR 51 rfl rfl rfl Tryz.underlying49 rfl ti3 (lb rfl) rfl rfl) <|aA rfl (aF (d:=.int _ _) rfl rfl (lb rfl) Tryz.underlying3 ag3 ti3 (by decide) (svR rfl) rfl (nle rfl) rfl) <|aA rfl (mvI rfl rfl rfl rfl) <|aA rfl (bM rfl rfl (lb rfl) (svI rfl) (svI rfl) rfl hx45) <|aA rfl (aX rfl rfl (lb rfl) (svR rfl)) <|aA rfl (faR 51 rfl rfl rfl Tryz.underlying49 rfl ti3 (lb rfl) rfl rfl) <|aA rfl (bN (ds':=q10) rfl rfl ti3 (svR rfl) rfl (svI rfl) rfl rfl rfl (nle rfl) rfl) <|aD ?_)
      obtain ⟨x46,hx46,h⟩:=aQ h
      refine aE (aA rfl (mvI rfl rfl rfl rfl) <|aA rfl (aP rfl rfl (lb rfl) (svI rfl) (sv (d:=.int _ 0) rfl) rfl hx46) <|aA rfl (asB rfl rfl rfl rfl) <|aD ?_)
      refine aT ?_
      refine cS ?_
      refine bI ?_
      obtain rfl:=Option.some.inj h
      refine ⟨.inr rfl,(fun i=>if i = 0 then 1001 else i),⟨.nil,(.cons (.blk rfl rfl rfl) (.cons (EntW.lst rfl) .nil)),cK [1000,1001] rfl (by decide),(fun i hi=>by first | rfl | (show (if _ then _ else _) = _; (repeat' split) <;> omega))⟩,(.cons (sv rfl) .nil),rfl⟩
     ·
      replace h:=cE h hc39
      obtain ⟨x47,hx47,h⟩:=aQ h
      refine aE (aA rfl (aP rfl rfl (lb rfl) (svI rfl) (sv (d:=.int _ 5) rfl) rfl hx47) <|aA rfl (asB rfl rfl rfl rfl) <|aD ?_)
      refine aV (b:=_) rfl (fun hc48=>?_) (fun hc48=>?_)
      ·
       replace h:=cD h hc48
       obtain ⟨x49,hx49,h⟩:=aQ h
       refine aE (aA rfl (mvR rfl rfl rfl rfl) <|aA rfl (aX rfl rfl (lb rfl) (svR rfl)) <|aA rfl (faR 51 rfl rfl rfl Tryz.underlying49 rfl ti3 (lb rfl) rfl rfl) <|aA rfl (aF (d:=.int _ _) rfl rfl (lb rfl) Tryz.underlying3 ag3 ti3 (by decide) (svR rfl) rfl (nle rfl) rfl) <|aA rfl (aP rfl rfl (lb rfl) (svI rfl) (sv (d:=.int _ 0) rfl) rfl hx49) <|aD ?_)
       refine aV (b:=_) rfl (fun hc50=>?_) (fun hc50=>?_)
       ·
        replace h:=cD h hc50
        obtain ⟨x51,hx51,h⟩:=bF h
        refine dD rfl [⟨[0],[],[(232,.ref 1000 0)],[]⟩,
         ⟨[232],[],[(233,.ref 1000 0)],[]⟩,
         ⟨[233],[],[(234,.ref 1000 0)],[]⟩,
         ⟨[234],[1000],[(235,.agg (w41 a1 a2 a3 a4 a5 a6 a7 a8 a9 a10 a11 a12 a13 a14 a15 a16 a17 a18 a19 a20 a21 a22 a23 a24))],[]⟩,
         ⟨[0],[],[(236,.ref 1000 0)],[]⟩,
         ⟨[236],[],[(237,.ref 1000 0)],[]⟩,
         ⟨[237],[],[(238,.ref 1000 51)],[]⟩,
         ⟨[238],[1000],[(239,.int .i64 a51)],[]⟩,
         ⟨[235,239],[],[(240,.tuple [.agg (v1 x51.1),.int .u32 x51.2])],[]⟩,
         ⟨[240],[],[(231,.tuple [.agg (v1 x51.1),.int .u32 x51.2])],[]⟩,
         ⟨[231],[],[(241,.agg (v1 x51.1))],[]⟩,
         ⟨[231],[],[(242,.int .u32 x51.2)],[]⟩,
         ⟨[],[1],[(22,.ref 1 0)],[(1,.blk 46 (w41 0 0 [] 0 ([] : List aJ) ([] : List aG) false false false false 0 [] ([] : List aN) 0 0 0 0 0 0 0 0 0 0 0))]⟩,
         ⟨[22,241],[1],[],[(1,.blk 46 (v1 x51.1))]⟩,
         ⟨[242],[],[(23,.int .u32 x51.2)],[]⟩] rfl ?_ (by kernel_rfl) ?_
        ·refine .cons (lop rfl rfl fun S hA=>(aM rfl rfl (lb rfl) (svaR hA rfl rfl))) ?_
         refine .cons (lop rfl rfl fun S hA=>(aX rfl rfl (lb rfl) (svaR hA rfl rfl))) ?_
         refine .cons (lop rfl rfl fun S hA=>(aI rfl rfl (lb rfl) Tryz.underlying49 rfl ti46 (by decide) (svaR hA rfl rfl) (off':=0) rfl)) ?_
         refine .cons (lop rfl rfl fun S hA=>(bK (cs:=q13) rfl rfl (lb rfl) Tryz.underlying46 ag46 ti46 (by decide) (svaR hA rfl rfl) (agi hA rfl rfl) (nle rfl) rfl)) ?_
         refine .cons (lop rfl rfl fun S hA=>(aM rfl rfl (lb rfl) (svaR hA rfl rfl))) ?_
         refine .cons (lop rfl rfl fun S hA=>(aX rfl rfl (lb rfl) (svaR hA rfl rfl))) ?_
         refine .cons (lop rfl rfl fun S hA=>(aI rfl rfl (lb rfl) Tryz.underlying49 rfl ti3 (by decide) (svaR hA rfl rfl) (off':=51) rfl)) ?_
         refine .cons (lop rfl rfl fun S hA=>(aF (d:=.int _ _) rfl rfl (lb rfl) Tryz.underlying3 ag3 ti3 (by decide) (svaR hA rfl rfl) (agi hA rfl rfl) (nle rfl) rfl)) ?_
         refine .cons (lop rfl rfl fun S hA=>(aU (r:=.tuple q38) rfl rfl (lb rfl) cl35 (.cons (svaA q13 hA rfl rfl) (.cons (svaI hA rfl rfl) .nil)) rfl (oE _ _ _ hx51))) ?_
         refine .cons (lop rfl rfl fun S hA=>(aM rfl rfl (lb rfl) (sv (d:=.tuple q38) (agr hA rfl rfl)))) ?_
         refine .cons (lop rfl rfl fun S hA=>(aZ (d:=.agg q13) rfl rfl (lb rfl) (sv (d:=.tuple q38) (agr hA rfl rfl)) rfl)) ?_
         refine .cons (lop rfl rfl fun S hA=>(aZ (d:=.int _ _) rfl rfl (lb rfl) (sv (d:=.tuple q38) (agr hA rfl rfl)) rfl)) ?_
         refine .cons (lop rfl rfl fun S hA=>(bD (cs:=q14) (cs':=(w41 0 0 [] 0 ([] : List aJ) ([] : List aG) false false false false 0 [] ([] : List aN) 0 0 0 0 0 0 0 0 0 0 0)) 1 rfl rfl (lb rfl) (agi hA rfl rfl) ti46 rfl rfl (.k4 (.cons (.nils _) (.cons (.nils _) (.k4 (.k (.k (.cons (.nils _) (.all _)))))))))) ?_
         refine .cons (lop rfl rfl fun S hA=>(bN (ds':=q13) rfl rfl ti46 (svaR hA rfl rfl) (agi hA rfl rfl) (svaA q13 hA rfl rfl) rfl rfl rfl (nle rfl) rfl)) ?_
         refine .cons (lop rfl rfl fun S hA=>(aH rfl rfl (lb rfl) (svaI hA rfl rfl))) ?_
         exact .nil
        refine aE (aA rfl (mvR rfl rfl rfl rfl) <|aA rfl (mvR rfl rfl rfl rfl) <|aA rfl (lra q13 la46 rfl rfl rfl rfl rfl (nle rfl) rfl) <|aA rfl (aX rfl rfl (lb rfl) (svR rfl)) <|aA rfl (faR 0 rfl rfl rfl Tryz.underlying49 rfl ti46 (lb rfl) rfl rfl) <|aA rfl (stA q13 q10 ti46 rfl rfl rfl rfl rfl rfl rfl rfl (nle rfl) rfl) <|aA rfl (aX rfl rfl (lb rfl) (svR rfl)) <|aA rfl (faR 51 rfl rfl rfl Tryz.underlying49 rfl ti3 (lb rfl) rfl rfl) <|aA rfl (bN (ds':=q10) rfl rfl ti3 (svR rfl) rfl (sv (d:=.int _ 0) rfl) rfl rfl rfl (nle rfl) rfl) <|aD ?_)
        obtain ⟨x52,hx52,h⟩:=aQ h
        refine aE (aA rfl (mvI rfl rfl rfl rfl) <|aA rfl (aP rfl rfl (lb rfl) (svI rfl) (sv (d:=.int _ 0) rfl) rfl hx52) <|aA rfl (asB rfl rfl rfl rfl) <|aD ?_)
        refine aT ?_
        refine cS ?_
        refine bI ?_
        obtain rfl:=Option.some.inj h
        refine ⟨.inr rfl,(fun i=>if i = 0 then 1001 else i),⟨.nil,(.cons (.blk rfl rfl rfl) (.cons (EntW.lst rfl) .nil)),cK [1000,1001] rfl (by decide),(fun i hi=>by first | rfl | (show (if _ then _ else _) = _; (repeat' split) <;> omega))⟩,(.cons (sv rfl) .nil),rfl⟩
       ·
        replace h:=cE h hc50
        refine aY ?_
        refine cO ?_
        refine aS ?_
        refine aE (aA rfl (aH rfl rfl (lb rfl) (sv (d:=.bool true) rfl)) <|aD ?_)
        refine aT ?_
        obtain rfl:=Option.some.inj h
        refine ⟨.inr rfl,(fun i=>if i = 0 then 1001 else i),⟨.nil,(.cons (.blk rfl rfl rfl) (.cons (EntW.lst rfl) .nil)),cK [1000,1001] rfl (by decide),(fun i hi=>by first | rfl | (show (if _ then _ else _) = _; (repeat' split) <;> omega))⟩,(.cons (sv rfl) .nil),rfl⟩
      ·
       replace h:=cE h hc48
       obtain ⟨x53,hx53,h⟩:=aQ h
       refine aE (aA rfl (aP rfl rfl (lb rfl) (svI rfl) (sv (d:=.int _ 6) rfl) rfl hx53) <|aA rfl (asB rfl rfl rfl rfl) <|aD ?_)
       refine aV (b:=_) rfl (fun hc54=>?_) (fun hc54=>?_)
       ·
        replace h:=cD h hc54
        obtain ⟨x55,hx55,h⟩:=aQ h
        obtain ⟨x56,hx56,h⟩:=bF h
        refine lF rfl [⟨[0],[],[(254,.ref 1000 0)],[]⟩,
         ⟨[0],[],[(255,.ref 1000 0)],[]⟩,
         ⟨[255],[],[(256,.ref 1000 0)],[]⟩,
         ⟨[256],[],[(257,.ref 1000 0)],[]⟩,
         ⟨[257],[1000],[(258,.agg (w41 a1 a2 a3 a4 a5 a6 a7 a8 a9 a10 a11 a12 a13 a14 a15 a16 a17 a18 a19 a20 a21 a22 a23 a24))],[]⟩,
         ⟨[0],[],[(259,.ref 1000 0)],[]⟩,
         ⟨[259],[],[(260,.ref 1000 0)],[]⟩,
         ⟨[260],[],[(261,.ref 1000 24)],[]⟩,
         ⟨[261],[],[(262,.ref 1000 34)],[]⟩,
         ⟨[262],[],[(263,.ref 1000 34)],[]⟩,
         ⟨[263],[],[(264,.ref 1000 34)],[]⟩,
         ⟨[264],[1000],[(265,.int .i64 a35)],[]⟩,
         ⟨[0],[],[(266,.ref 1000 0)],[]⟩,
         ⟨[266],[],[(267,.ref 1000 0)],[]⟩,
         ⟨[267],[],[(268,.ref 1000 24)],[]⟩,
         ⟨[268],[],[(269,.ref 1000 34)],[]⟩,
         ⟨[269],[],[(270,.ref 1000 37)],[]⟩,
         ⟨[270],[1000],[(271,.int .i64 a38)],[]⟩,
         ⟨[0],[],[(272,.ref 1000 0)],[]⟩,
         ⟨[272],[],[(273,.ref 1000 0)],[]⟩,
         ⟨[273],[],[(274,.ref 1000 24)],[]⟩,
         ⟨[274],[],[(275,.ref 1000 34)],[]⟩,
         ⟨[275],[],[(276,.ref 1000 34)],[]⟩,
         ⟨[276],[],[(277,.ref 1000 34)],[]⟩,
         ⟨[277],[1000],[(278,.int .i64 a35)],[]⟩,
         ⟨[271,278],[],[(279,.bool x55)],[]⟩,
         ⟨[258,265,279],[],[(280,.agg (v1 x56))],[]⟩,
         ⟨[254],[],[(281,.ref 1000 0)],[]⟩,
         ⟨[281],[],[(282,.ref 1000 0)],[]⟩,
         ⟨[280,282],[1000],[],[(1000,.blk 49 (w40 x56.ID x56.Send.Base x56.Send.Data x56.Send.Next x56.Send.Pieces x56.Send.Lost x56.Send.Closed x56.Send.Sent x56.Send.Again x56.Send.Done x56.Recv.Recv.Base x56.Recv.Recv.Ready x56.Recv.Recv.Parts x56.Recv.End x56.Out.Window x56.Out.Limit x56.Out.Used x56.Out.Read x56.In.Window x56.In.Limit x56.In.Used x56.In.Read x56.Mine x56.Hers a25 a26 a27 a28 a29 a30 a31 a32 a33 a34 a35 a36 a37 a38 a39 a40 a41 a42 a43 a44 a45 a46 a47 a48 (.osl 1001 aO.sz a53.length) a49 a50 a51 a52))]⟩] rfl ?_ (by kernel_rfl) ?_
        ·refine .cons (lop rfl rfl fun S hA=>(aM rfl rfl (lb rfl) (svaR hA rfl rfl))) ?_
         refine .cons (lop rfl rfl fun S hA=>(aM rfl rfl (lb rfl) (svaR hA rfl rfl))) ?_
         refine .cons (lop rfl rfl fun S hA=>(aX rfl rfl (lb rfl) (svaR hA rfl rfl))) ?_
         refine .cons (lop rfl rfl fun S hA=>(aI rfl rfl (lb rfl) Tryz.underlying49 rfl ti46 (by decide) (svaR hA rfl rfl) (off':=0) rfl)) ?_
         refine .cons (lop rfl rfl fun S hA=>(bK (cs:=q13) rfl rfl (lb rfl) Tryz.underlying46 ag46 ti46 (by decide) (svaR hA rfl rfl) (agi hA rfl rfl) (nle rfl) rfl)) ?_
         refine .cons (lop rfl rfl fun S hA=>(aM rfl rfl (lb rfl) (svaR hA rfl rfl))) ?_
         refine .cons (lop rfl rfl fun S hA=>(aX rfl rfl (lb rfl) (svaR hA rfl rfl))) ?_
         refine .cons (lop rfl rfl fun S hA=>(aI rfl rfl (lb rfl) Tryz.underlying49 rfl ti46 (by decide) (svaR hA rfl rfl) (off':=24) rfl)) ?_
         refine .cons (lop rfl rfl fun S hA=>(aI rfl rfl (lb rfl) Tryz.underlying46 rfl ti42 (by decide) (svaR hA rfl rfl) (off':=34) rfl)) ?_
         refine .cons (lop rfl rfl fun S hA=>(aI rfl rfl (lb rfl) Tryz.underlying42 rfl ti40 (by decide) (svaR hA rfl rfl) (off':=34) rfl)) ?_
         refine .cons (lop rfl rfl fun S hA=>(aI rfl rfl (lb rfl) Tryz.underlying40 rfl ti3 (by decide) (svaR hA rfl rfl) (off':=34) rfl)) ?_
         refine .cons (lop rfl rfl fun S hA=>(aF (d:=.int _ _) rfl rfl (lb rfl) Tryz.underlying3 ag3 ti3 (by decide) (svaR hA rfl rfl) (agi hA rfl rfl) (nle rfl) rfl)) ?_
         refine .cons (lop rfl rfl fun S hA=>(aM rfl rfl (lb rfl) (svaR hA rfl rfl))) ?_
         refine .cons (lop rfl rfl fun S hA=>(aX rfl rfl (lb rfl) (svaR hA rfl rfl))) ?_
         refine .cons (lop rfl rfl fun S hA=>(aI rfl rfl (lb rfl) Tryz.underlying49 rfl ti46 (by decide) (svaR hA rfl rfl) (off':=24) rfl)) ?_
         refine .cons (lop rfl rfl fun S hA=>(aI rfl rfl (lb rfl) Tryz.underlying46 rfl ti42 (by decide) (svaR hA rfl rfl) (off':=34) rfl)) ?_
         refine .cons (lop rfl rfl fun S hA=>(aI rfl rfl (lb rfl) Tryz.underlying42 rfl ti3 (by decide) (svaR hA rfl rfl) (off':=37) rfl)) ?_
         refine .cons (lop rfl rfl fun S hA=>(aF (d:=.int _ _) rfl rfl (lb rfl) Tryz.underlying3 ag3 ti3 (by decide) (svaR hA rfl rfl) (agi hA rfl rfl) (nle rfl) rfl)) ?_
         refine .cons (lop rfl rfl fun S hA=>(aM rfl rfl (lb rfl) (svaR hA rfl rfl))) ?_
         refine .cons (lop rfl rfl fun S hA=>(aX rfl rfl (lb rfl) (svaR hA rfl rfl))) ?_
         refine .cons (lop rfl rfl fun S hA=>(aI rfl rfl (lb rfl) Tryz.underlying49 rfl ti46 (by decide) (svaR hA rfl rfl) (off':=24) rfl)) ?_
         refine .cons (lop rfl rfl fun S hA=>(aI rfl rfl (lb rfl) Tryz.underlying46 rfl ti42 (by decide) (svaR hA rfl rfl) (off':=34) rfl)) ?_
         refine .cons (lop rfl rfl fun S hA=>(aI rfl rfl (lb rfl) Tryz.underlying42 rfl ti40 (by decide) (svaR hA rfl rfl) (off':=34) rfl)) ?_
         refine .cons (lop rfl rfl fun S hA=>(aI rfl rfl (lb rfl) Tryz.underlying40 rfl ti3 (by decide) (svaR hA rfl rfl) (off':=34) rfl)) ?_
         refine .cons (lop rfl rfl fun S hA=>(aF (d:=.int _ _) rfl rfl (lb rfl) Tryz.underlying3 ag3 ti3 (by decide) (svaR hA rfl rfl) (agi hA rfl rfl) (nle rfl) rfl)) ?_
         refine .cons (lop rfl rfl fun S hA=>(aP rfl rfl (lb rfl) (svaI hA rfl rfl) (svaI hA rfl rfl) rfl hx55)) ?_
         refine .cons (lop rfl rfl fun S hA=>(aU (r:=.agg q13) rfl rfl (lb rfl) cl37 (.cons (svaA q13 hA rfl rfl) (.cons (svaI hA rfl rfl) (.cons (svaB hA rfl rfl) .nil))) rfl (uW _ _ _ _ hx56))) ?_
         refine .cons (lop rfl rfl fun S hA=>(aX rfl rfl (lb rfl) (svaR hA rfl rfl))) ?_
         refine .cons (lop rfl rfl fun S hA=>(aI rfl rfl (lb rfl) Tryz.underlying49 rfl ti46 (by decide) (svaR hA rfl rfl) (off':=0) rfl)) ?_
         refine .cons (lop rfl rfl fun S hA=>(bN (ds':=q10) rfl rfl ti46 (svaR hA rfl rfl) (agi hA rfl rfl) (svaA q13 hA rfl rfl) rfl rfl rfl (nle rfl) rfl)) ?_
         exact .nil
        refine cO ?_
        refine aS ?_
        refine aE (aA rfl (aH rfl rfl (lb rfl) (sv (d:=.bool true) rfl)) <|aD ?_)
        refine aT ?_
        obtain rfl:=Option.some.inj h
        refine ⟨.inr rfl,(fun i=>if i = 0 then 1001 else i),⟨.nil,(.cons (.blk rfl rfl rfl) (.cons (EntW.lst rfl) .nil)),cK [1000,1001] rfl (by decide),(fun i hi=>by first | rfl | (show (if _ then _ else _) = _; (repeat' split) <;> omega))⟩,(.cons (sv rfl) .nil),rfl⟩
       ·
        replace h:=cE h hc54
        obtain ⟨x57,hx57,h⟩:=aQ h
        refine aE (aA rfl (aP rfl rfl (lb rfl) (svI rfl) (sv (d:=.int _ 7) rfl) rfl hx57) <|aA rfl (asB rfl rfl rfl rfl) <|aD ?_)
        refine aV (b:=_) rfl (fun hc58=>?_) (fun hc58=>?_)
        ·
         replace h:=cD h hc58
         obtain ⟨x59,hx59,h⟩:=bF h
         obtain ⟨x60,hx60,h⟩:=aQ h
         obtain ⟨x61,hx61,h⟩:=bF h
         refine lF rfl [⟨[0],[],[(285,.ref 1000 0)],[]⟩,
          ⟨[0],[],[(286,.ref 1000 0)],[]⟩,
          ⟨[286],[],[(287,.ref 1000 0)],[]⟩,
          ⟨[287],[],[(288,.ref 1000 0)],[]⟩,
          ⟨[288],[1000],[(289,.agg (w41 a1 a2 a3 a4 a5 a6 a7 a8 a9 a10 a11 a12 a13 a14 a15 a16 a17 a18 a19 a20 a21 a22 a23 a24))],[]⟩,
          ⟨[3],[],[(290,.ref 0 2)],[]⟩,
          ⟨[290],[0],[(291,.int .u8 a0.Path)],[]⟩,
          ⟨[291],[],[(292,.int .u8 x59)],[]⟩,
          ⟨[292],[],[(293,.int .i64 x60)],[]⟩,
          ⟨[289,293],[],[(294,.agg (v1 x61))],[]⟩,
          ⟨[285],[],[(295,.ref 1000 0)],[]⟩,
          ⟨[295],[],[(296,.ref 1000 0)],[]⟩,
          ⟨[294,296],[1000],[],[(1000,.blk 49 (w40 x61.ID x61.Send.Base x61.Send.Data x61.Send.Next x61.Send.Pieces x61.Send.Lost x61.Send.Closed x61.Send.Sent x61.Send.Again x61.Send.Done x61.Recv.Recv.Base x61.Recv.Recv.Ready x61.Recv.Recv.Parts x61.Recv.End x61.Out.Window x61.Out.Limit x61.Out.Used x61.Out.Read x61.In.Window x61.In.Limit x61.In.Used x61.In.Read x61.Mine x61.Hers a25 a26 a27 a28 a29 a30 a31 a32 a33 a34 a35 a36 a37 a38 a39 a40 a41 a42 a43 a44 a45 a46 a47 a48 (.osl 1001 aO.sz a53.length) a49 a50 a51 a52))]⟩] rfl ?_ (by kernel_rfl) ?_
         ·refine .cons (lop rfl rfl fun S hA=>(aM rfl rfl (lb rfl) (svaR hA rfl rfl))) ?_
          refine .cons (lop rfl rfl fun S hA=>(aM rfl rfl (lb rfl) (svaR hA rfl rfl))) ?_
          refine .cons (lop rfl rfl fun S hA=>(aX rfl rfl (lb rfl) (svaR hA rfl rfl))) ?_
          refine .cons (lop rfl rfl fun S hA=>(aI rfl rfl (lb rfl) Tryz.underlying49 rfl ti46 (by decide) (svaR hA rfl rfl) (off':=0) rfl)) ?_
          refine .cons (lop rfl rfl fun S hA=>(bK (cs:=q13) rfl rfl (lb rfl) Tryz.underlying46 ag46 ti46 (by decide) (svaR hA rfl rfl) (agi hA rfl rfl) (nle rfl) rfl)) ?_
          refine .cons (lop rfl rfl fun S hA=>(aI rfl rfl (lb rfl) Tryz.underlying30 rfl ti5 (by decide) (svaR hA rfl rfl) (off':=2) rfl)) ?_
          refine .cons (lop rfl rfl fun S hA=>(aF (d:=.int _ _) rfl rfl (lb rfl) Tryz.underlying5 ag5 ti5 (by decide) (svaR hA rfl rfl) (agi hA rfl rfl) (nle rfl) rfl)) ?_
          refine .cons (lop rfl rfl fun S hA=>(rV rfl rfl (lb rfl) (svaI hA rfl rfl) (sv (d:=.int _ 4) rfl) hx59)) ?_
          refine .cons (lop rfl rfl fun S hA=>(iW rfl rfl (lb rfl) ⟨_,Tryz.underlying5⟩ Tryz.underlying3 (svaI hA rfl rfl) hx60)) ?_
          refine .cons (lop rfl rfl fun S hA=>(aU (r:=.agg q13) rfl rfl (lb rfl) cl38 (.cons (svaA q13 hA rfl rfl) (.cons (svaI hA rfl rfl) .nil)) rfl (xI _ _ _ hx61))) ?_
          refine .cons (lop rfl rfl fun S hA=>(aX rfl rfl (lb rfl) (svaR hA rfl rfl))) ?_
          refine .cons (lop rfl rfl fun S hA=>(aI rfl rfl (lb rfl) Tryz.underlying49 rfl ti46 (by decide) (svaR hA rfl rfl) (off':=0) rfl)) ?_
          refine .cons (lop rfl rfl fun S hA=>(bN (ds':=q10) rfl rfl ti46 (svaR hA rfl rfl) (agi hA rfl rfl) (svaA q13 hA rfl rfl) rfl rfl rfl (nle rfl) rfl)) ?_
          exact .nil
         refine cO ?_
         refine aS ?_
         refine aE (aA rfl (aH rfl rfl (lb rfl) (sv (d:=.bool true) rfl)) <|aD ?_)
         refine aT ?_
         obtain rfl:=Option.some.inj h
         refine ⟨.inr rfl,(fun i=>if i = 0 then 1001 else i),⟨.nil,(.cons (.blk rfl rfl rfl) (.cons (EntW.lst rfl) .nil)),cK [1000,1001] rfl (by decide),(fun i hi=>by first | rfl | (show (if _ then _ else _) = _; (repeat' split) <;> omega))⟩,(.cons (sv rfl) .nil),rfl⟩
        ·
         replace h:=cE h hc58
         refine aY ?_
         refine cO ?_
         refine aS ?_
         refine aE (aA rfl (aH rfl rfl (lb rfl) (sv (d:=.bool true) rfl)) <|aD ?_)
         refine aT ?_
         obtain rfl:=Option.some.inj h
         refine ⟨.inr rfl,(fun i=>if i = 0 then 1001 else i),⟨.nil,(.cons (.blk rfl rfl rfl) (.cons (EntW.lst rfl) .nil)),cK [1000,1001] rfl (by decide),(fun i hi=>by first | rfl | (show (if _ then _ else _) = _; (repeat' split) <;> omega))⟩,(.cons (sv rfl) .nil),rfl⟩

theorem mW (a0 : gQ) (a1 : Int) (r : Bool) (h : dM a0 a1 = some r) : cF Tryz.prog 11 [.fptr (v0 a0),.int .i64 a1] (.bool r):=by
 refine bA (rs:=[.bool r]) Tryz.func11 rfl Tryz.ntmps11 (nle rfl) rfl fun O hO=>?_
 show IWP _ _ _ _ ⟨[(0,.fptr (v0 a0)),(1,.int .i64 a1)],[]⟩ _
 unfold dM at h
 refine aE (aA rfl (aH rfl rfl (lb rfl) (sv (d:=.bool false) rfl)) <|aD ?_)
 refine bC ?_
 obtain ⟨x1,hx1,h⟩:=bF h
 obtain ⟨x2,hx2,h⟩:=aQ h
 obtain ⟨x3,hx3,h⟩:=bF h
 obtain ⟨x4,hx4,h⟩:=aQ h
 obtain ⟨x5,hx5,h⟩:=aQ h
 obtain ⟨x6,hx6,h⟩:=aQ h
 obtain ⟨x7,hx7,h⟩:=aQ h
 obtain ⟨x8,hx8,h⟩:=bF h
 obtain ⟨x9,hx9,h⟩:=aQ h
 obtain ⟨x10,hx10,h⟩:=aQ h
 refine dD rfl [⟨[0],[],[(5,.fptr (v0 a0))],[]⟩,
  ⟨[5],[],[(6,.fptr (v0 a0))],[]⟩,
  ⟨[6],[],[(7,.fptr (v1 a0.a))],[]⟩,
  ⟨[7],[],[(8,.agg (v1 a0.a))],[]⟩,
  ⟨[8],[],[(9,.int .i64 x1)],[]⟩,
  ⟨[9],[],[(10,.bool x2)],[]⟩,
  ⟨[10],[],[(11,.bool x2)],[]⟩,
  ⟨[0,11],[],[(12,.cnd (x2 == false) (.fptr (v0 a0)))],[]⟩,
  ⟨[11,12],[],[(13,.cnd (x2 == false) (.fptr (v0 a0)))],[]⟩,
  ⟨[11,13],[],[(14,.cnd (x2 == false) (.fptr (v1 a0.b)))],[]⟩,
  ⟨[11,14],[],[(15,.cnd (x2 == false) (.agg (v1 a0.b)))],[]⟩,
  ⟨[11,15],[],[(16,.cnd (x2 == false) (.int .i64 x3))],[]⟩,
  ⟨[11,16],[],[(17,.cnd (x2 == false) (.bool x4))],[]⟩,
  ⟨[11,17],[],[(18,.bool x5)],[]⟩,
  ⟨[18],[],[(19,.bool x5)],[]⟩,
  ⟨[0,19],[],[(20,.cnd (x5 == false) (.fptr (v0 a0)))],[]⟩,
  ⟨[19,20],[],[(21,.cnd (x5 == false) (.fptr (v0 a0)))],[]⟩,
  ⟨[19,21],[],[(22,.cnd (x5 == false) (.fptr [.str a0.read]))],[]⟩,
  ⟨[19,22],[],[(23,.cnd (x5 == false) (.str a0.read))],[]⟩,
  ⟨[19,23],[],[(24,.cnd (x5 == false) (.int .i64 (a0.read.length : Int)))],[]⟩,
  ⟨[0,19],[],[(25,.cnd (x5 == false) (.fptr (v0 a0)))],[]⟩,
  ⟨[19,25],[],[(26,.cnd (x5 == false) (.fptr (v0 a0)))],[]⟩,
  ⟨[19,26],[],[(27,.cnd (x5 == false) (.fptr [.str a0.wrote]))],[]⟩,
  ⟨[19,27],[],[(28,.cnd (x5 == false) (.str a0.wrote))],[]⟩,
  ⟨[19,28],[],[(29,.cnd (x5 == false) (.int .i64 (a0.wrote.length : Int)))],[]⟩,
  ⟨[19,24,29],[],[(30,.cnd (x5 == false) (.bool x6))],[]⟩,
  ⟨[19,30],[],[(31,.bool x7)],[]⟩,
  ⟨[31],[],[(32,.bool x7)],[]⟩,
  ⟨[0,32],[],[(33,.cnd (x7 == false) (.fptr (v0 a0)))],[]⟩,
  ⟨[32,33],[],[(34,.cnd (x7 == false) (.fptr (v0 a0)))],[]⟩,
  ⟨[32,34],[],[(35,.cnd (x7 == false) (.fptr [.str a0.wrote]))],[]⟩,
  ⟨[32,35],[],[(36,.cnd (x7 == false) (.str a0.wrote))],[]⟩,
  ⟨[0,32],[],[(37,.cnd (x7 == false) (.fptr (v0 a0)))],[]⟩,
  ⟨[32,37],[],[(38,.cnd (x7 == false) (.fptr (v0 a0)))],[]⟩,
  ⟨[32,38],[],[(39,.cnd (x7 == false) (.fptr [.str a0.read]))],[]⟩,
  ⟨[32,39],[],[(40,.cnd (x7 == false) (.str a0.read))],[]⟩,
  ⟨[32,40],[],[(41,.cnd (x7 == false) (.int .i64 (a0.read.length : Int)))],[]⟩,
  ⟨[32,36,41],[],[(42,.cnd (x7 == false) (.str x8))],[]⟩,
  ⟨[0,32],[],[(43,.cnd (x7 == false) (.fptr (v0 a0)))],[]⟩,
  ⟨[32,43],[],[(44,.cnd (x7 == false) (.fptr (v0 a0)))],[]⟩,
  ⟨[32,44],[],[(45,.cnd (x7 == false) (.fptr [.str a0.read]))],[]⟩,
  ⟨[32,45],[],[(46,.cnd (x7 == false) (.str a0.read))],[]⟩,
  ⟨[32,42,46],[],[(47,.cnd (x7 == false) (.bool x9))],[]⟩,
  ⟨[32,47],[],[(48,.bool x10)],[]⟩] rfl ?_ (by kernel_rfl) ?_
 ·refine .cons (lop rfl rfl fun S hA=>(aM rfl rfl (lb rfl) (sv (d:=.fptr q11) (agr hA rfl rfl)))) ?_
  refine .cons (lop rfl rfl fun S hA=>(cN rfl rfl (lb rfl) (sv (d:=.fptr q11) (agr hA rfl rfl)))) ?_
  refine .cons (lop rfl rfl fun S hA=>(bG (cs':=q13) rfl rfl (lb rfl) Tryz.underlying49 rfl ti46 (by decide) (sv (d:=.fptr q11) (agr hA rfl rfl)) rfl)) ?_
  refine .cons (lop rfl rfl fun S hA=>(dE (cs:=q13) rfl rfl (lb rfl) Tryz.underlying46 ag46 ti46 (by decide) (sv (d:=.fptr q13) (agr hA rfl rfl)) (nle rfl) rfl)) ?_
  refine .cons (lop rfl rfl fun S hA=>(aU (r:=.int _ _) rfl rfl (lb rfl) cl20 (.cons (svaA q13 hA rfl rfl) .nil) rfl (jU _ _ hx1))) ?_
  refine .cons (lop rfl rfl fun S hA=>(aP rfl rfl (lb rfl) (svaI hA rfl rfl) (sv (d:=.int _ 0) rfl) rfl hx2)) ?_
  refine .cons (lop rfl rfl fun S hA=>(aM rfl rfl (lb rfl) (svaB hA rfl rfl))) ?_
  refine .cons (lopg rfl rfl rfl rfl (by decide) (fun S hA=>grd1 hA rfl rfl) (fun S hA hb=>(aM rfl rfl (lb rfl) (sv (d:=.fptr q11) (agr hA rfl rfl))))) ?_
  refine .cons (lopg rfl rfl rfl rfl (by decide) (fun S hA=>grd1 hA rfl rfl) (fun S hA hb=>(cN rfl rfl (lb rfl) (svc (d:=.fptr q11) (agr hA rfl rfl) hb)))) ?_
  refine .cons (lopg rfl rfl rfl rfl (by decide) (fun S hA=>grd1 hA rfl rfl) (fun S hA hb=>(bG (cs':=q13) rfl rfl (lb rfl) Tryz.underlying49 rfl ti46 (by decide) (svc (d:=.fptr q11) (agr hA rfl rfl) hb) rfl))) ?_
  refine .cons (lopg rfl rfl rfl rfl (by decide) (fun S hA=>grd1 hA rfl rfl) (fun S hA hb=>(dE (cs:=q13) rfl rfl (lb rfl) Tryz.underlying46 ag46 ti46 (by decide) (svc (d:=.fptr q13) (agr hA rfl rfl) hb) (nle rfl) rfl))) ?_
  refine .cons (lopg rfl rfl rfl rfl (by decide) (fun S hA=>grd1 hA rfl rfl) (fun S hA hb=>(aU (r:=.int _ _) rfl rfl (lb rfl) cl20 (.cons (svc (d:=.agg (v1 a0.b)) (agr hA rfl rfl) hb) .nil) rfl (jU _ _ (gd_t hx3 hb))))) ?_
  refine .cons (lopg rfl rfl rfl rfl (by decide) (fun S hA=>grd1 hA rfl rfl) (fun S hA hb=>(aP rfl rfl (lb rfl) (svc (d:=.int _ _) (agr hA rfl rfl) hb) (sv (d:=.int _ 0) rfl) rfl hx4))) ?_
  refine .cons (lop rfl rfl fun S hA=>(cQ rfl rfl (lb rfl) (svaB hA rfl rfl) rfl (agr hA rfl rfl) hx5)) ?_
  refine .cons (lop rfl rfl fun S hA=>(aM rfl rfl (lb rfl) (svaB hA rfl rfl))) ?_
  refine .cons (lopg rfl rfl rfl rfl (by decide) (fun S hA=>grd1 hA rfl rfl) (fun S hA hb=>(aM rfl rfl (lb rfl) (sv (d:=.fptr q11) (agr hA rfl rfl))))) ?_
  refine .cons (lopg rfl rfl rfl rfl (by decide) (fun S hA=>grd1 hA rfl rfl) (fun S hA hb=>(cN rfl rfl (lb rfl) (svc (d:=.fptr q11) (agr hA rfl rfl) hb)))) ?_
  refine .cons (lopg rfl rfl rfl rfl (by decide) (fun S hA=>grd1 hA rfl rfl) (fun S hA hb=>(bG (cs':=[.str _]) rfl rfl (lb rfl) Tryz.underlying49 rfl ti9 (by decide) (svc (d:=.fptr q11) (agr hA rfl rfl) hb) rfl))) ?_
  refine .cons (lopg rfl rfl rfl rfl (by decide) (fun S hA=>grd1 hA rfl rfl) (fun S hA hb=>(dA rfl rfl (lb rfl) Tryz.underlying9 ag9 ti9 (by decide) (svc (d:=.fptr [.str _]) (agr hA rfl rfl) hb) (nle rfl)))) ?_
  refine .cons (lopg rfl rfl rfl rfl (by decide) (fun S hA=>grd1 hA rfl rfl) (fun S hA hb=>(cT rfl rfl (lb rfl) Tryz.underlying9 (svc (d:=.str _) (agr hA rfl rfl) hb) rfl))) ?_
  refine .cons (lopg rfl rfl rfl rfl (by decide) (fun S hA=>grd1 hA rfl rfl) (fun S hA hb=>(aM rfl rfl (lb rfl) (sv (d:=.fptr q11) (agr hA rfl rfl))))) ?_
  refine .cons (lopg rfl rfl rfl rfl (by decide) (fun S hA=>grd1 hA rfl rfl) (fun S hA hb=>(cN rfl rfl (lb rfl) (svc (d:=.fptr q11) (agr hA rfl rfl) hb)))) ?_
  refine .cons (lopg rfl rfl rfl rfl (by decide) (fun S hA=>grd1 hA rfl rfl) (fun S hA hb=>(bG (cs':=[.str _]) rfl rfl (lb rfl) Tryz.underlying49 rfl ti9 (by decide) (svc (d:=.fptr q11) (agr hA rfl rfl) hb) rfl))) ?_
  refine .cons (lopg rfl rfl rfl rfl (by decide) (fun S hA=>grd1 hA rfl rfl) (fun S hA hb=>(dA rfl rfl (lb rfl) Tryz.underlying9 ag9 ti9 (by decide) (svc (d:=.fptr [.str _]) (agr hA rfl rfl) hb) (nle rfl)))) ?_
  refine .cons (lopg rfl rfl rfl rfl (by decide) (fun S hA=>grd1 hA rfl rfl) (fun S hA hb=>(cT rfl rfl (lb rfl) Tryz.underlying9 (svc (d:=.str _) (agr hA rfl rfl) hb) rfl))) ?_
  refine .cons (lopg rfl rfl rfl rfl (by decide) (fun S hA=>grd1 hA rfl rfl) (fun S hA hb=>(aP rfl rfl (lb rfl) (svc (d:=.int _ _) (agr hA rfl rfl) hb) (svc (d:=.int _ _) (agr hA rfl rfl) hb) rfl hx6))) ?_
  refine .cons (lop rfl rfl fun S hA=>(cQ rfl rfl (lb rfl) (svaB hA rfl rfl) rfl (agr hA rfl rfl) hx7)) ?_
  refine .cons (lop rfl rfl fun S hA=>(aM rfl rfl (lb rfl) (svaB hA rfl rfl))) ?_
  refine .cons (lopg rfl rfl rfl rfl (by decide) (fun S hA=>grd1 hA rfl rfl) (fun S hA hb=>(aM rfl rfl (lb rfl) (sv (d:=.fptr q11) (agr hA rfl rfl))))) ?_
  refine .cons (lopg rfl rfl rfl rfl (by decide) (fun S hA=>grd1 hA rfl rfl) (fun S hA hb=>(cN rfl rfl (lb rfl) (svc (d:=.fptr q11) (agr hA rfl rfl) hb)))) ?_
  refine .cons (lopg rfl rfl rfl rfl (by decide) (fun S hA=>grd1 hA rfl rfl) (fun S hA hb=>(bG (cs':=[.str _]) rfl rfl (lb rfl) Tryz.underlying49 rfl ti9 (by decide) (svc (d:=.fptr q11) (agr hA rfl rfl) hb) rfl))) ?_
  refine .cons (lopg rfl rfl rfl rfl (by decide) (fun S hA=>grd1 hA rfl rfl) (fun S hA hb=>(dA rfl rfl (lb rfl) Tryz.underlying9 ag9 ti9 (by decide) (svc (d:=.fptr [.str _]) (agr hA rfl rfl) hb) (nle rfl)))) ?_
  refine .cons (lopg rfl rfl rfl rfl (by decide) (fun S hA=>grd1 hA rfl rfl) (fun S hA hb=>(aM rfl rfl (lb rfl) (sv (d:=.fptr q11) (agr hA rfl rfl))))) ?_
  refine .cons (lopg rfl rfl rfl rfl (by decide) (fun S hA=>grd1 hA rfl rfl) (fun S hA hb=>(cN rfl rfl (lb rfl) (svc (d:=.fptr q11) (agr hA rfl rfl) hb)))) ?_
  refine .cons (lopg rfl rfl rfl rfl (by decide) (fun S hA=>grd1 hA rfl rfl) (fun S hA hb=>(bG (cs':=[.str _]) rfl rfl (lb rfl) Tryz.underlying49 rfl ti9 (by decide) (svc (d:=.fptr q11) (agr hA rfl rfl) hb) rfl))) ?_
  refine .cons (lopg rfl rfl rfl rfl (by decide) (fun S hA=>grd1 hA rfl rfl) (fun S hA hb=>(dA rfl rfl (lb rfl) Tryz.underlying9 ag9 ti9 (by decide) (svc (d:=.fptr [.str _]) (agr hA rfl rfl) hb) (nle rfl)))) ?_
  refine .cons (lopg rfl rfl rfl rfl (by decide) (fun S hA=>grd1 hA rfl rfl) (fun S hA hb=>(cT rfl rfl (lb rfl) Tryz.underlying9 (svc (d:=.str _) (agr hA rfl rfl) hb) rfl))) ?_
  refine .cons (lopg rfl rfl rfl rfl (by decide) (fun S hA=>grd1 hA rfl rfl) (fun S hA hb=>(jL rfl rfl (lb rfl) Tryz.underlying9 (svc (d:=.str _) (agr hA rfl rfl) hb) rfl ⟨_,(svc (d:=.int _ _) (agr hA rfl rfl) hb)⟩ (gd_t hx8 hb)))) ?_
  refine .cons (lopg rfl rfl rfl rfl (by decide) (fun S hA=>grd1 hA rfl rfl) (fun S hA hb=>(aM rfl rfl (lb rfl) (sv (d:=.fptr q11) (agr hA rfl rfl))))) ?_
  refine .cons (lopg rfl rfl rfl rfl (by decide) (fun S hA=>grd1 hA rfl rfl) (fun S hA hb=>(cN rfl rfl (lb rfl) (svc (d:=.fptr q11) (agr hA rfl rfl) hb)))) ?_
  refine .cons (lopg rfl rfl rfl rfl (by decide) (fun S hA=>grd1 hA rfl rfl) (fun S hA hb=>(bG (cs':=[.str _]) rfl rfl (lb rfl) Tryz.underlying49 rfl ti9 (by decide) (svc (d:=.fptr q11) (agr hA rfl rfl) hb) rfl))) ?_
  refine .cons (lopg rfl rfl rfl rfl (by decide) (fun S hA=>grd1 hA rfl rfl) (fun S hA hb=>(dA rfl rfl (lb rfl) Tryz.underlying9 ag9 ti9 (by decide) (svc (d:=.fptr [.str _]) (agr hA rfl rfl) hb) (nle rfl)))) ?_
  refine .cons (lopg rfl rfl rfl rfl (by decide) (fun S hA=>grd1 hA rfl rfl) (fun S hA hb=>(jC rfl rfl (lb rfl) (svc (d:=.str _) (agr hA rfl rfl) hb) (svc (d:=.str _) (agr hA rfl rfl) hb) rfl hx9))) ?_
  refine .cons (lop rfl rfl fun S hA=>(cQ rfl rfl (lb rfl) (svaB hA rfl rfl) rfl (agr hA rfl rfl) hx10)) ?_
  exact .nil
 refine aV (b:=_) rfl (fun hc11=>?_) (fun hc11=>?_)
 ·
  replace h:=cD h hc11
  refine aE (aA rfl (aH rfl rfl (lb rfl) (sv (d:=.bool false) rfl)) <|aD ?_)
  refine aT ?_
  refine bI ?_
  obtain rfl:=Option.some.inj h
  refine ⟨.inr rfl,(.cons (sv rfl) .nil)⟩
 ·
  replace h:=cE h hc11
  refine aY ?_
  refine aS ?_
  refine bC ?_
  obtain ⟨x12,hx12,h⟩:=aQ h
  obtain ⟨x13,hx13,h⟩:=aQ h
  obtain ⟨x14,hx14,h⟩:=aQ h
  obtain ⟨x15,hx15,h⟩:=aQ h
  obtain ⟨x16,hx16,h⟩:=aQ h
  obtain ⟨x17,hx17,h⟩:=aQ h
  obtain ⟨x18,hx18,h⟩:=aQ h
  refine dD rfl [⟨[0],[],[(49,.fptr (v0 a0))],[]⟩,
   ⟨[49],[],[(50,.fptr (v0 a0))],[]⟩,
   ⟨[50],[],[(51,.fptr (v1 a0.b))],[]⟩,
   ⟨[51],[],[(52,.fptr (v6 a0.b.In))],[]⟩,
   ⟨[52],[],[(53,.fptr [.int .i64 a0.b.In.Used])],[]⟩,
   ⟨[53],[],[(54,.int .i64 a0.b.In.Used)],[]⟩,
   ⟨[0],[],[(55,.fptr (v0 a0))],[]⟩,
   ⟨[55],[],[(56,.fptr (v0 a0))],[]⟩,
   ⟨[56],[],[(57,.fptr (v1 a0.b))],[]⟩,
   ⟨[57],[],[(58,.fptr (v6 a0.b.In))],[]⟩,
   ⟨[58],[],[(59,.fptr [.int .i64 a0.b.In.Read])],[]⟩,
   ⟨[59],[],[(60,.int .i64 a0.b.In.Read)],[]⟩,
   ⟨[54,60],[],[(61,.int .i64 x12)],[]⟩,
   ⟨[1],[],[(62,.int .i64 a1)],[]⟩,
   ⟨[61,62],[],[(63,.bool x13)],[]⟩,
   ⟨[63],[],[(64,.bool x13)],[]⟩,
   ⟨[0,64],[],[(65,.cnd (x13 == false) (.fptr (v0 a0)))],[]⟩,
   ⟨[64,65],[],[(66,.cnd (x13 == false) (.fptr (v0 a0)))],[]⟩,
   ⟨[64,66],[],[(67,.cnd (x13 == false) (.fptr (v1 a0.a)))],[]⟩,
   ⟨[64,67],[],[(68,.cnd (x13 == false) (.fptr (v6 a0.a.Out)))],[]⟩,
   ⟨[64,68],[],[(69,.cnd (x13 == false) (.fptr [.int .i64 a0.a.Out.Limit]))],[]⟩,
   ⟨[64,69],[],[(70,.cnd (x13 == false) (.int .i64 a0.a.Out.Limit))],[]⟩,
   ⟨[0,64],[],[(71,.cnd (x13 == false) (.fptr (v0 a0)))],[]⟩,
   ⟨[64,71],[],[(72,.cnd (x13 == false) (.fptr (v0 a0)))],[]⟩,
   ⟨[64,72],[],[(73,.cnd (x13 == false) (.fptr [.int .i64 a0.given]))],[]⟩,
   ⟨[64,73],[],[(74,.cnd (x13 == false) (.int .i64 a0.given))],[]⟩,
   ⟨[64,70,74],[],[(75,.cnd (x13 == false) (.int .i64 x14))],[]⟩,
   ⟨[0,64],[],[(76,.cnd (x13 == false) (.fptr (v0 a0)))],[]⟩,
   ⟨[64,76],[],[(77,.cnd (x13 == false) (.fptr (v0 a0)))],[]⟩,
   ⟨[64,77],[],[(78,.cnd (x13 == false) (.fptr (v1 a0.b)))],[]⟩,
   ⟨[64,78],[],[(79,.cnd (x13 == false) (.fptr (v6 a0.b.In)))],[]⟩,
   ⟨[64,79],[],[(80,.cnd (x13 == false) (.fptr [.int .i64 a0.b.In.Limit]))],[]⟩,
   ⟨[64,80],[],[(81,.cnd (x13 == false) (.int .i64 a0.b.In.Limit))],[]⟩,
   ⟨[64,75,81],[],[(82,.cnd (x13 == false) (.bool x15))],[]⟩,
   ⟨[64,82],[],[(83,.bool x16)],[]⟩,
   ⟨[83],[],[(84,.bool x16)],[]⟩,
   ⟨[0,84],[],[(85,.cnd (x16 == false) (.fptr (v0 a0)))],[]⟩,
   ⟨[84,85],[],[(86,.cnd (x16 == false) (.fptr (v0 a0)))],[]⟩,
   ⟨[84,86],[],[(87,.cnd (x16 == false) (.fptr (v1 a0.a)))],[]⟩,
   ⟨[84,87],[],[(88,.cnd (x16 == false) (.fptr (v6 a0.a.Out)))],[]⟩,
   ⟨[84,88],[],[(89,.cnd (x16 == false) (.fptr [.int .i64 a0.a.Out.Used]))],[]⟩,
   ⟨[84,89],[],[(90,.cnd (x16 == false) (.int .i64 a0.a.Out.Used))],[]⟩,
   ⟨[0,84],[],[(91,.cnd (x16 == false) (.fptr (v0 a0)))],[]⟩,
   ⟨[84,91],[],[(92,.cnd (x16 == false) (.fptr (v0 a0)))],[]⟩,
   ⟨[84,92],[],[(93,.cnd (x16 == false) (.fptr (v1 a0.a)))],[]⟩,
   ⟨[84,93],[],[(94,.cnd (x16 == false) (.fptr (v6 a0.a.Out)))],[]⟩,
   ⟨[84,94],[],[(95,.cnd (x16 == false) (.fptr [.int .i64 a0.a.Out.Limit]))],[]⟩,
   ⟨[84,95],[],[(96,.cnd (x16 == false) (.int .i64 a0.a.Out.Limit))],[]⟩,
   ⟨[84,90,96],[],[(97,.cnd (x16 == false) (.bool x17))],[]⟩,
   ⟨[84,97],[],[(98,.bool x18)],[]⟩] rfl ?_ (by kernel_rfl) ?_
  ·refine .cons (lop rfl rfl fun S hA=>(aM rfl rfl (lb rfl) (sv (d:=.fptr q11) (agr hA rfl rfl)))) ?_
   refine .cons (lop rfl rfl fun S hA=>(cN rfl rfl (lb rfl) (sv (d:=.fptr q11) (agr hA rfl rfl)))) ?_
   refine .cons (lop rfl rfl fun S hA=>(bG (cs':=q13) rfl rfl (lb rfl) Tryz.underlying49 rfl ti46 (by decide) (sv (d:=.fptr q11) (agr hA rfl rfl)) rfl)) ?_
   refine .cons (lop rfl rfl fun S hA=>(bG (cs':=q18) rfl rfl (lb rfl) Tryz.underlying46 rfl ti44 (by decide) (sv (d:=.fptr q13) (agr hA rfl rfl)) rfl)) ?_
   refine .cons (lop rfl rfl fun S hA=>(bG (cs':=[.int _ _]) rfl rfl (lb rfl) Tryz.underlying44 rfl ti3 (by decide) (sv (d:=.fptr q18) (agr hA rfl rfl)) rfl)) ?_
   refine .cons (lop rfl rfl fun S hA=>(dA rfl rfl (lb rfl) Tryz.underlying3 ag3 ti3 (by decide) (sv (d:=.fptr [.int _ _]) (agr hA rfl rfl)) (nle rfl))) ?_
   refine .cons (lop rfl rfl fun S hA=>(aM rfl rfl (lb rfl) (sv (d:=.fptr q11) (agr hA rfl rfl)))) ?_
   refine .cons (lop rfl rfl fun S hA=>(cN rfl rfl (lb rfl) (sv (d:=.fptr q11) (agr hA rfl rfl)))) ?_
   refine .cons (lop rfl rfl fun S hA=>(bG (cs':=q13) rfl rfl (lb rfl) Tryz.underlying49 rfl ti46 (by decide) (sv (d:=.fptr q11) (agr hA rfl rfl)) rfl)) ?_
   refine .cons (lop rfl rfl fun S hA=>(bG (cs':=q18) rfl rfl (lb rfl) Tryz.underlying46 rfl ti44 (by decide) (sv (d:=.fptr q13) (agr hA rfl rfl)) rfl)) ?_
   refine .cons (lop rfl rfl fun S hA=>(bG (cs':=[.int _ _]) rfl rfl (lb rfl) Tryz.underlying44 rfl ti3 (by decide) (sv (d:=.fptr q18) (agr hA rfl rfl)) rfl)) ?_
   refine .cons (lop rfl rfl fun S hA=>(dA rfl rfl (lb rfl) Tryz.underlying3 ag3 ti3 (by decide) (sv (d:=.fptr [.int _ _]) (agr hA rfl rfl)) (nle rfl))) ?_
   refine .cons (lop rfl rfl fun S hA=>(bM rfl rfl (lb rfl) (svaI hA rfl rfl) (svaI hA rfl rfl) rfl hx12)) ?_
   refine .cons (lop rfl rfl fun S hA=>(aM rfl rfl (lb rfl) (svaI hA rfl rfl))) ?_
   refine .cons (lop rfl rfl fun S hA=>(aP rfl rfl (lb rfl) (svaI hA rfl rfl) (svaI hA rfl rfl) rfl hx13)) ?_
   refine .cons (lop rfl rfl fun S hA=>(aM rfl rfl (lb rfl) (svaB hA rfl rfl))) ?_
   refine .cons (lopg rfl rfl rfl rfl (by decide) (fun S hA=>grd1 hA rfl rfl) (fun S hA hb=>(aM rfl rfl (lb rfl) (sv (d:=.fptr q11) (agr hA rfl rfl))))) ?_
   refine .cons (lopg rfl rfl rfl rfl (by decide) (fun S hA=>grd1 hA rfl rfl) (fun S hA hb=>(cN rfl rfl (lb rfl) (svc (d:=.fptr q11) (agr hA rfl rfl) hb)))) ?_
   refine .cons (lopg rfl rfl rfl rfl (by decide) (fun S hA=>grd1 hA rfl rfl) (fun S hA hb=>(bG (cs':=q13) rfl rfl (lb rfl) Tryz.underlying49 rfl ti46 (by decide) (svc (d:=.fptr q11) (agr hA rfl rfl) hb) rfl))) ?_
   refine .cons (lopg rfl rfl rfl rfl (by decide) (fun S hA=>grd1 hA rfl rfl) (fun S hA hb=>(bG (cs':=q18) rfl rfl (lb rfl) Tryz.underlying46 rfl ti44 (by decide) (svc (d:=.fptr q13) (agr hA rfl rfl) hb) rfl))) ?_
   refine .cons (lopg rfl rfl rfl rfl (by decide) (fun S hA=>grd1 hA rfl rfl) (fun S hA hb=>(bG (cs':=[.int _ _]) rfl rfl (lb rfl) Tryz.underlying44 rfl ti3 (by decide) (svc (d:=.fptr q18) (agr hA rfl rfl) hb) rfl))) ?_
   refine .cons (lopg rfl rfl rfl rfl (by decide) (fun S hA=>grd1 hA rfl rfl) (fun S hA hb=>(dA rfl rfl (lb rfl) Tryz.underlying3 ag3 ti3 (by decide) (svc (d:=.fptr [.int _ _]) (agr hA rfl rfl) hb) (nle rfl)))) ?_
   refine .cons (lopg rfl rfl rfl rfl (by decide) (fun S hA=>grd1 hA rfl rfl) (fun S hA hb=>(aM rfl rfl (lb rfl) (sv (d:=.fptr q11) (agr hA rfl rfl))))) ?_
   refine .cons (lopg rfl rfl rfl rfl (by decide) (fun S hA=>grd1 hA rfl rfl) (fun S hA hb=>(cN rfl rfl (lb rfl) (svc (d:=.fptr q11) (agr hA rfl rfl) hb)))) ?_
   refine .cons (lopg rfl rfl rfl rfl (by decide) (fun S hA=>grd1 hA rfl rfl) (fun S hA hb=>(bG (cs':=[.int _ _]) rfl rfl (lb rfl) Tryz.underlying49 rfl ti3 (by decide) (svc (d:=.fptr q11) (agr hA rfl rfl) hb) rfl))) ?_
   refine .cons (lopg rfl rfl rfl rfl (by decide) (fun S hA=>grd1 hA rfl rfl) (fun S hA hb=>(dA rfl rfl (lb rfl) Tryz.underlying3 ag3 ti3 (by decide) (svc (d:=.fptr [.int _ _]) (agr hA rfl rfl) hb) (nle rfl)))) ?_
   refine .cons (lopg rfl rfl rfl rfl (by decide) (fun S hA=>grd1 hA rfl rfl) (fun S hA hb=>(bM rfl rfl (lb rfl) (svc (d:=.int _ _) (agr hA rfl rfl) hb) (svc (d:=.int _ _) (agr hA rfl rfl) hb) rfl hx14))) ?_
   refine .cons (lopg rfl rfl rfl rfl (by decide) (fun S hA=>grd1 hA rfl rfl) (fun S hA hb=>(aM rfl rfl (lb rfl) (sv (d:=.fptr q11) (agr hA rfl rfl))))) ?_
   refine .cons (lopg rfl rfl rfl rfl (by decide) (fun S hA=>grd1 hA rfl rfl) (fun S hA hb=>(cN rfl rfl (lb rfl) (svc (d:=.fptr q11) (agr hA rfl rfl) hb)))) ?_
   refine .cons (lopg rfl rfl rfl rfl (by decide) (fun S hA=>grd1 hA rfl rfl) (fun S hA hb=>(bG (cs':=q13) rfl rfl (lb rfl) Tryz.underlying49 rfl ti46 (by decide) (svc (d:=.fptr q11) (agr hA rfl rfl) hb) rfl))) ?_
   refine .cons (lopg rfl rfl rfl rfl (by decide) (fun S hA=>grd1 hA rfl rfl) (fun S hA hb=>(bG (cs':=q18) rfl rfl (lb rfl) Tryz.underlying46 rfl ti44 (by decide) (svc (d:=.fptr q13) (agr hA rfl rfl) hb) rfl))) ?_
   refine .cons (lopg rfl rfl rfl rfl (by decide) (fun S hA=>grd1 hA rfl rfl) (fun S hA hb=>(bG (cs':=[.int _ _]) rfl rfl (lb rfl) Tryz.underlying44 rfl ti3 (by decide) (svc (d:=.fptr q18) (agr hA rfl rfl) hb) rfl))) ?_
   refine .cons (lopg rfl rfl rfl rfl (by decide) (fun S hA=>grd1 hA rfl rfl) (fun S hA hb=>(dA rfl rfl (lb rfl) Tryz.underlying3 ag3 ti3 (by decide) (svc (d:=.fptr [.int _ _]) (agr hA rfl rfl) hb) (nle rfl)))) ?_
   refine .cons (lopg rfl rfl rfl rfl (by decide) (fun S hA=>grd1 hA rfl rfl) (fun S hA hb=>(aP rfl rfl (lb rfl) (svc (d:=.int _ _) (agr hA rfl rfl) hb) (svc (d:=.int _ _) (agr hA rfl rfl) hb) rfl hx15))) ?_
   refine .cons (lop rfl rfl fun S hA=>(cQ rfl rfl (lb rfl) (svaB hA rfl rfl) rfl (agr hA rfl rfl) hx16)) ?_
   refine .cons (lop rfl rfl fun S hA=>(aM rfl rfl (lb rfl) (svaB hA rfl rfl))) ?_
   refine .cons (lopg rfl rfl rfl rfl (by decide) (fun S hA=>grd1 hA rfl rfl) (fun S hA hb=>(aM rfl rfl (lb rfl) (sv (d:=.fptr q11) (agr hA rfl rfl))))) ?_
   refine .cons (lopg rfl rfl rfl rfl (by decide) (fun S hA=>grd1 hA rfl rfl) (fun S hA hb=>(cN rfl rfl (lb rfl) (svc (d:=.fptr q11) (agr hA rfl rfl) hb)))) ?_
   refine .cons (lopg rfl rfl rfl rfl (by decide) (fun S hA=>grd1 hA rfl rfl) (fun S hA hb=>(bG (cs':=q13) rfl rfl (lb rfl) Tryz.underlying49 rfl ti46 (by decide) (svc (d:=.fptr q11) (agr hA rfl rfl) hb) rfl))) ?_
   refine .cons (lopg rfl rfl rfl rfl (by decide) (fun S hA=>grd1 hA rfl rfl) (fun S hA hb=>(bG (cs':=q18) rfl rfl (lb rfl) Tryz.underlying46 rfl ti44 (by decide) (svc (d:=.fptr q13) (agr hA rfl rfl) hb) rfl))) ?_
   refine .cons (lopg rfl rfl rfl rfl (by decide) (fun S hA=>grd1 hA rfl rfl) (fun S hA hb=>(bG (cs':=[.int _ _]) rfl rfl (lb rfl) Tryz.underlying44 rfl ti3 (by decide) (svc (d:=.fptr q18) (agr hA rfl rfl) hb) rfl))) ?_
   refine .cons (lopg rfl rfl rfl rfl (by decide) (fun S hA=>grd1 hA rfl rfl) (fun S hA hb=>(dA rfl rfl (lb rfl) Tryz.underlying3 ag3 ti3 (by decide) (svc (d:=.fptr [.int _ _]) (agr hA rfl rfl) hb) (nle rfl)))) ?_
   refine .cons (lopg rfl rfl rfl rfl (by decide) (fun S hA=>grd1 hA rfl rfl) (fun S hA hb=>(aM rfl rfl (lb rfl) (sv (d:=.fptr q11) (agr hA rfl rfl))))) ?_
   refine .cons (lopg rfl rfl rfl rfl (by decide) (fun S hA=>grd1 hA rfl rfl) (fun S hA hb=>(cN rfl rfl (lb rfl) (svc (d:=.fptr q11) (agr hA rfl rfl) hb)))) ?_
   refine .cons (lopg rfl rfl rfl rfl (by decide) (fun S hA=>grd1 hA rfl rfl) (fun S hA hb=>(bG (cs':=q13) rfl rfl (lb rfl) Tryz.underlying49 rfl ti46 (by decide) (svc (d:=.fptr q11) (agr hA rfl rfl) hb) rfl))) ?_
   refine .cons (lopg rfl rfl rfl rfl (by decide) (fun S hA=>grd1 hA rfl rfl) (fun S hA hb=>(bG (cs':=q18) rfl rfl (lb rfl) Tryz.underlying46 rfl ti44 (by decide) (svc (d:=.fptr q13) (agr hA rfl rfl) hb) rfl))) ?_
   refine .cons (lopg rfl rfl rfl rfl (by decide) (fun S hA=>grd1 hA rfl rfl) (fun S hA hb=>(bG (cs':=[.int _ _]) rfl rfl (lb rfl) Tryz.underlying44 rfl ti3 (by decide) (svc (d:=.fptr q18) (agr hA rfl rfl) hb) rfl))) ?_
   refine .cons (lopg rfl rfl rfl rfl (by decide) (fun S hA=>grd1 hA rfl rfl) (fun S hA hb=>(dA rfl rfl (lb rfl) Tryz.underlying3 ag3 ti3 (by decide) (svc (d:=.fptr [.int _ _]) (agr hA rfl rfl) hb) (nle rfl)))) ?_
   refine .cons (lopg rfl rfl rfl rfl (by decide) (fun S hA=>grd1 hA rfl rfl) (fun S hA hb=>(aP rfl rfl (lb rfl) (svc (d:=.int _ _) (agr hA rfl rfl) hb) (svc (d:=.int _ _) (agr hA rfl rfl) hb) rfl hx17))) ?_
   refine .cons (lop rfl rfl fun S hA=>(cQ rfl rfl (lb rfl) (svaB hA rfl rfl) rfl (agr hA rfl rfl) hx18)) ?_
   exact .nil
  refine aV (b:=_) rfl (fun hc19=>?_) (fun hc19=>?_)
  ·
   replace h:=cD h hc19
   refine aE (aA rfl (aH rfl rfl (lb rfl) (sv (d:=.bool false) rfl)) <|aD ?_)
   refine aT ?_
   refine bI ?_
   obtain rfl:=Option.some.inj h
   refine ⟨.inr rfl,(.cons (sv rfl) .nil)⟩
  ·
   replace h:=cE h hc19
   refine aY ?_
   refine aS ?_
   obtain ⟨x20,hx20,h⟩:=aQ h
   obtain ⟨x21,hx21,h⟩:=aQ h
   obtain ⟨x22,hx22,h⟩:=aQ h
   refine dD rfl [⟨[0],[],[(99,.fptr (v0 a0))],[]⟩,
    ⟨[99],[],[(100,.fptr (v0 a0))],[]⟩,
    ⟨[100],[],[(101,.fptr [.bool a0.end_])],[]⟩,
    ⟨[101],[],[(102,.bool a0.end_)],[]⟩,
    ⟨[102],[],[(103,.bool (!a0.end_))],[]⟩,
    ⟨[103],[],[(104,.bool (!a0.end_))],[]⟩,
    ⟨[0,104],[],[(105,.cnd ((!a0.end_) == false) (.fptr (v0 a0)))],[]⟩,
    ⟨[104,105],[],[(106,.cnd ((!a0.end_) == false) (.fptr (v0 a0)))],[]⟩,
    ⟨[104,106],[],[(107,.cnd ((!a0.end_) == false) (.fptr [.str a0.read]))],[]⟩,
    ⟨[104,107],[],[(108,.cnd ((!a0.end_) == false) (.str a0.read))],[]⟩,
    ⟨[0,104],[],[(109,.cnd ((!a0.end_) == false) (.fptr (v0 a0)))],[]⟩,
    ⟨[104,109],[],[(110,.cnd ((!a0.end_) == false) (.fptr (v0 a0)))],[]⟩,
    ⟨[104,110],[],[(111,.cnd ((!a0.end_) == false) (.fptr [.str a0.wrote]))],[]⟩,
    ⟨[104,111],[],[(112,.cnd ((!a0.end_) == false) (.str a0.wrote))],[]⟩,
    ⟨[104,108,112],[],[(113,.cnd ((!a0.end_) == false) (.bool x20))],[]⟩,
    ⟨[104,113],[],[(114,.cnd ((!a0.end_) == false) (.bool x20))],[]⟩,
    ⟨[0,114],[],[(115,.cnd ((((!a0.end_) == false) && (x20 == true))) (.fptr (v0 a0)))],[]⟩,
    ⟨[114,115],[],[(116,.cnd ((((!a0.end_) == false) && (x20 == true))) (.fptr (v0 a0)))],[]⟩,
    ⟨[114,116],[],[(117,.cnd ((((!a0.end_) == false) && (x20 == true))) (.fptr (v1 a0.a)))],[]⟩,
    ⟨[114,117],[],[(118,.cnd ((((!a0.end_) == false) && (x20 == true))) (.fptr (v2 a0.a.Send)))],[]⟩,
    ⟨[114,118],[],[(119,.cnd ((((!a0.end_) == false) && (x20 == true))) (.fptr [.bool a0.a.Send.Closed]))],[]⟩,
    ⟨[114,119],[],[(120,.cnd ((((!a0.end_) == false) && (x20 == true))) (.bool a0.a.Send.Closed))],[]⟩,
    ⟨[104,114,120],[],[(121,.cnd ((!a0.end_) == false) (.bool x21))],[]⟩,
    ⟨[104,121],[],[(122,.bool x22)],[]⟩,
    ⟨[122],[],[(4,.bool x22)],[]⟩] rfl ?_ (by kernel_rfl) ?_
   ·refine .cons (lop rfl rfl fun S hA=>(aM rfl rfl (lb rfl) (sv (d:=.fptr q11) (agr hA rfl rfl)))) ?_
    refine .cons (lop rfl rfl fun S hA=>(cN rfl rfl (lb rfl) (sv (d:=.fptr q11) (agr hA rfl rfl)))) ?_
    refine .cons (lop rfl rfl fun S hA=>(bG (cs':=[.bool _]) rfl rfl (lb rfl) Tryz.underlying49 rfl ti4 (by decide) (sv (d:=.fptr q11) (agr hA rfl rfl)) rfl)) ?_
    refine .cons (lop rfl rfl fun S hA=>(dA rfl rfl (lb rfl) Tryz.underlying4 ag4 ti4 (by decide) (sv (d:=.fptr [.bool _]) (agr hA rfl rfl)) (nle rfl))) ?_
    refine .cons (lop rfl rfl fun S hA=>(dB rfl rfl (lb rfl) (svaB hA rfl rfl))) ?_
    refine .cons (lop rfl rfl fun S hA=>(aM rfl rfl (lb rfl) (svaB hA rfl rfl))) ?_
    refine .cons (lopg rfl rfl rfl rfl (by decide) (fun S hA=>grd1 hA rfl rfl) (fun S hA hb=>(aM rfl rfl (lb rfl) (sv (d:=.fptr q11) (agr hA rfl rfl))))) ?_
    refine .cons (lopg rfl rfl rfl rfl (by decide) (fun S hA=>grd1 hA rfl rfl) (fun S hA hb=>(cN rfl rfl (lb rfl) (svc (d:=.fptr q11) (agr hA rfl rfl) hb)))) ?_
    refine .cons (lopg rfl rfl rfl rfl (by decide) (fun S hA=>grd1 hA rfl rfl) (fun S hA hb=>(bG (cs':=[.str _]) rfl rfl (lb rfl) Tryz.underlying49 rfl ti9 (by decide) (svc (d:=.fptr q11) (agr hA rfl rfl) hb) rfl))) ?_
    refine .cons (lopg rfl rfl rfl rfl (by decide) (fun S hA=>grd1 hA rfl rfl) (fun S hA hb=>(dA rfl rfl (lb rfl) Tryz.underlying9 ag9 ti9 (by decide) (svc (d:=.fptr [.str _]) (agr hA rfl rfl) hb) (nle rfl)))) ?_
    refine .cons (lopg rfl rfl rfl rfl (by decide) (fun S hA=>grd1 hA rfl rfl) (fun S hA hb=>(aM rfl rfl (lb rfl) (sv (d:=.fptr q11) (agr hA rfl rfl))))) ?_
    refine .cons (lopg rfl rfl rfl rfl (by decide) (fun S hA=>grd1 hA rfl rfl) (fun S hA hb=>(cN rfl rfl (lb rfl) (svc (d:=.fptr q11) (agr hA rfl rfl) hb)))) ?_
    refine .cons (lopg rfl rfl rfl rfl (by decide) (fun S hA=>grd1 hA rfl rfl) (fun S hA hb=>(bG (cs':=[.str _]) rfl rfl (lb rfl) Tryz.underlying49 rfl ti9 (by decide) (svc (d:=.fptr q11) (agr hA rfl rfl) hb) rfl))) ?_
    refine .cons (lopg rfl rfl rfl rfl (by decide) (fun S hA=>grd1 hA rfl rfl) (fun S hA hb=>(dA rfl rfl (lb rfl) Tryz.underlying9 ag9 ti9 (by decide) (svc (d:=.fptr [.str _]) (agr hA rfl rfl) hb) (nle rfl)))) ?_
    refine .cons (lopg rfl rfl rfl rfl (by decide) (fun S hA=>grd1 hA rfl rfl) (fun S hA hb=>(jC rfl rfl (lb rfl) (svc (d:=.str _) (agr hA rfl rfl) hb) (svc (d:=.str _) (agr hA rfl rfl) hb) rfl hx20))) ?_
    refine .cons (lopg rfl rfl rfl rfl (by decide) (fun S hA=>grd1 hA rfl rfl) (fun S hA hb=>(aM rfl rfl (lb rfl) (svc (d:=.bool _) (agr hA rfl rfl) hb)))) ?_
    refine .cons (lopg rfl rfl rfl rfl (by decide) (fun S hA=>grd2 hA rfl rfl) (fun S hA hb=>(aM rfl rfl (lb rfl) (sv (d:=.fptr q11) (agr hA rfl rfl))))) ?_
    refine .cons (lopg rfl rfl rfl rfl (by decide) (fun S hA=>grd2 hA rfl rfl) (fun S hA hb=>(cN rfl rfl (lb rfl) (svc (d:=.fptr q11) (agr hA rfl rfl) hb)))) ?_
    refine .cons (lopg rfl rfl rfl rfl (by decide) (fun S hA=>grd2 hA rfl rfl) (fun S hA hb=>(bG (cs':=q13) rfl rfl (lb rfl) Tryz.underlying49 rfl ti46 (by decide) (svc (d:=.fptr q11) (agr hA rfl rfl) hb) rfl))) ?_
    refine .cons (lopg rfl rfl rfl rfl (by decide) (fun S hA=>grd2 hA rfl rfl) (fun S hA hb=>(bG (cs':=q15) rfl rfl (lb rfl) Tryz.underlying46 rfl ti37 (by decide) (svc (d:=.fptr q13) (agr hA rfl rfl) hb) rfl))) ?_
    refine .cons (lopg rfl rfl rfl rfl (by decide) (fun S hA=>grd2 hA rfl rfl) (fun S hA hb=>(bG (cs':=[.bool _]) rfl rfl (lb rfl) Tryz.underlying37 rfl ti4 (by decide) (svc (d:=.fptr q15) (agr hA rfl rfl) hb) rfl))) ?_
    refine .cons (lopg rfl rfl rfl rfl (by decide) (fun S hA=>grd2 hA rfl rfl) (fun S hA hb=>(dA rfl rfl (lb rfl) Tryz.underlying4 ag4 ti4 (by decide) (svc (d:=.fptr [.bool _]) (agr hA rfl rfl) hb) (nle rfl)))) ?_
    refine .cons (lopg rfl rfl rfl rfl (by decide) (fun S hA=>grd1 hA rfl rfl) (fun S hA hb=>(jH rfl rfl (lb rfl) hb (svc (d:=.bool _) (agr hA rfl rfl) hb) (agr hA rfl rfl) rfl hx21))) ?_
    refine .cons (lop rfl rfl fun S hA=>(cQ rfl rfl (lb rfl) (svaB hA rfl rfl) rfl (agr hA rfl rfl) hx22)) ?_
    refine .cons (lop rfl rfl fun S hA=>(aH rfl rfl (lb rfl) (svaB hA rfl rfl))) ?_
    exact .nil
   refine aT ?_
   obtain rfl:=Option.some.inj h
   refine ⟨.inr rfl,(.cons (sv rfl) .nil)⟩
end Go.Proofs.YtnokcmkfkfeaiaaGreat
