/-
  A part of the proof: rules and plain facts. No condition.
-/
import Derived.Test.YtgooaecafbjhjaaGreatDoorProg
import Derived.KernelRfl
import Derived.Test.YtgooaecafbjhjaaGreatDoorIlTm
import Derived.Test.YtgooaecafbjhjaaGreatDoorIlP1
import Derived.Test.YtgooaecafbjhjaaGreatDoorIlSc
import Derived.Test.YtgooaecafbjhjaaGreatDoorIlIt35b
set_option linter.all false
set_option maxRecDepth 8000
set_option maxHeartbeats 2000000
open Go Go.IL Go.Fn Go.Proofs
namespace Go.Proofs.YtgooaecafbjhjaaGreatDoor
theorem ti3 : TI Tryz.prog 3 (some (.int .i64 0)) 1 8:=by unfold TI; kernel_rfl
theorem ti4 : TI Tryz.prog 4 (some (.bool false)) 1 1:=by unfold TI; kernel_rfl
theorem ti5 : TI Tryz.prog 5 (some (.int .u8 0)) 1 1:=by unfold TI; kernel_rfl
theorem ti9 : TI Tryz.prog 9 (some (.string ⟨#[]⟩)) 1 16:=by unfold TI; kernel_rfl
theorem ti23 : TI Tryz.prog 23 (some (.agg #[.int .i64 0,.int .i64 0,.int .i64 0,.int .i64 0])) 4 32:=by unfold TI; kernel_rfl
theorem ti24 : TI Tryz.prog 24 (some (.agg #[.int .i64 0,.int .i64 0,.int .i64 0,.int .i64 0,.int .i64 0,.int .i64 0,.int .i64 0,.int .i64 0])) 8 64:=by unfold TI; kernel_rfl
theorem ti25 : TI Tryz.prog 25 (some (.int .u32 0)) 1 4:=by unfold TI; kernel_rfl
theorem ti26 : TI Tryz.prog 26 (some (.agg #[.int .u32 0,.int .u32 0])) 2 8:=by unfold TI; kernel_rfl
theorem ti29 : TI Tryz.prog 29 (some (.agg #[.int .i64 0,.int .i64 0,.int .i64 0,.int .i64 0])) 4 32:=by unfold TI; kernel_rfl
theorem ti30 : TI Tryz.prog 30 (some (.agg #[.int .i64 0,.int .i64 0,.int .i64 0,.int .i64 0,.int .i64 0,.int .i64 0,.int .i64 0,.int .i64 0])) 8 64:=by unfold TI; kernel_rfl
theorem ti32 : TI Tryz.prog 32 (some (.agg #[.int .i64 0,.int .i64 0,.int .i64 0,.int .i64 0,.int .i64 0,.int .i64 0,.int .i64 0,.int .i64 0,.int .i64 0,.int .u32 0,.int .u32 0])) 11 80:=by unfold TI; kernel_rfl
theorem ti34 : TI Tryz.prog 34 (some (.int .i64 0)) 1 8:=by unfold TI; kernel_rfl
theorem ti50 : TI Tryz.prog 50 (some (.pointer none)) 1 8:=by unfold TI; kernel_rfl
theorem ti51 : TI Tryz.prog 51 (some (.agg #[.bool false,.bool false,.bool false,.bool false,.bool false])) 5 5:=by unfold TI; kernel_rfl
theorem ti53 : TI Tryz.prog 53 (some (.agg #[.int .i64 0,.int .i64 0,.int .i64 0,.int .i64 0,.int .i64 0,.int .i64 0,.int .i64 0,.int .i64 0,.int .i64 0,.int .u32 0,.int .u32 0,.bool false,.bool false,.bool false,.bool false,.bool false])) 16 88:=by unfold TI; kernel_rfl
theorem ti72 : TI Tryz.prog 72 (some (.slice none 0 0)) 1 24:=by unfold TI; kernel_rfl
theorem ti75 : TI Tryz.prog 75 (some (.agg #[.int .i64 0,.int .i64 0,.int .i64 0,.int .i64 0])) 4 32:=by unfold TI; kernel_rfl
theorem ti85 : TI Tryz.prog 85 (some (.slice none 0 0)) 1 24:=by unfold TI; kernel_rfl
theorem ti87 : TI Tryz.prog 87 (some (.agg #[.int .i64 0,.string ⟨#[]⟩,.int .i64 0,.slice none 0 0,.slice none 0 0,.bool false,.bool false,.bool false,.bool false])) 9 88:=by unfold TI; kernel_rfl
theorem ti90 : TI Tryz.prog 90 (some (.agg #[.int .i64 0,.string ⟨#[]⟩,.slice none 0 0])) 3 48:=by unfold TI; kernel_rfl
theorem ti92 : TI Tryz.prog 92 (some (.agg #[.int .i64 0,.string ⟨#[]⟩,.slice none 0 0,.int .i64 0])) 4 56:=by unfold TI; kernel_rfl
theorem ti96 : TI Tryz.prog 96 (some (.agg #[.int .i64 0,.string ⟨#[]⟩,.int .i64 0,.slice none 0 0,.slice none 0 0,.bool false,.bool false,.bool false,.bool false,.int .i64 0,.string ⟨#[]⟩,.slice none 0 0,.int .i64 0,.string ⟨#[]⟩,.int .i64 0,.int .i64 0])) 16 176:=by unfold TI; kernel_rfl
theorem ti98 : TI Tryz.prog 98 (some (.agg #[.bool false,.int .i64 0,.int .i64 0,.slice none 0 0,.slice none 0 0,.int .i64 0,.int .i64 0,.int .i64 0,.int .i64 0])) 9 104:=by unfold TI; kernel_rfl
theorem aDZ : TI Tryz.prog 108 (some (.agg #[.bool false,.bool false,.int .i64 0,.int .i64 0,.bool false,.bool false,.int .i64 0,.int .i64 0,.bool false,.bool false,.int .i64 0,.int .i64 0,.bool false,.bool false,.int .i64 0,.int .i64 0,.int .i64 0,.slice none 0 0])) 18 128:=by unfold TI; kernel_rfl
theorem rP : TI Tryz.prog 110 (some (.agg #[.int .u8 0,.int .i64 0,.int .i64 0,.int .u32 0,.int .u32 0])) 5 32:=by unfold TI; kernel_rfl
theorem aFw : TI Tryz.prog 113 (some (.agg #[.int .i64 0,.string ⟨#[]⟩,.int .i64 0,.slice none 0 0,.slice none 0 0])) 5 80:=by unfold TI; kernel_rfl
theorem aFv : TI Tryz.prog 115 (some (.agg #[.int .i64 0,.int .i64 0,.bool false,.int .i64 0])) 4 32:=by unfold TI; kernel_rfl
theorem aFu : TI Tryz.prog 117 (some (.agg #[.int .i64 0,.int .i64 0,.int .i64 0])) 3 24:=by unfold TI; kernel_rfl
theorem tP : TI Tryz.prog 119 (some (.agg #[.int .u8 0,.int .i64 0,.int .i64 0,.int .u32 0,.int .u32 0,.int .i64 0,.string ⟨#[]⟩,.int .i64 0,.slice none 0 0,.slice none 0 0,.int .i64 0,.string ⟨#[]⟩,.slice none 0 0,.int .i64 0,.int .i64 0,.bool false,.int .i64 0,.int .i64 0,.int .i64 0,.int .i64 0,.int .i64 0,.int .i64 0,.int .i64 0,.int .i64 0,.int .i64 0,.bool false])) 26 264:=by unfold TI; kernel_rfl
theorem rH : TI Tryz.prog 123 (some (.agg #[.int .i64 0,.int .i64 0,.int .i64 0,.int .i64 0])) 4 32:=by unfold TI; kernel_rfl
theorem oS : TI Tryz.prog 180 (some (.agg #[.int .i64 0,.int .i64 0])) 2 16:=by unfold TI; kernel_rfl
theorem vV : TI Tryz.prog 233 (some (.agg #[.int .i64 0,.int .i64 0,.int .i64 0,.bool false])) 4 32:=by unfold TI; kernel_rfl
theorem jC : TI Tryz.prog 249 (some (.agg #[.int .i64 0,.int .i64 0])) 2 16:=by unfold TI; kernel_rfl
theorem ti283 : TI Tryz.prog 283 (some (.agg #[.int .i64 0,.int .i64 0,.int .i64 0,.int .i64 0])) 4 32:=by unfold TI; kernel_rfl
theorem ag3 : eA Tryz.prog 3 = false:=by kernel_rfl
theorem ag4 : eA Tryz.prog 4 = false:=by kernel_rfl
theorem ag5 : eA Tryz.prog 5 = false:=by kernel_rfl
theorem ag9 : eA Tryz.prog 9 = false:=by kernel_rfl
theorem ag23 : eA Tryz.prog 23 = true:=by kernel_rfl
theorem ag25 : eA Tryz.prog 25 = false:=by kernel_rfl
theorem ag26 : eA Tryz.prog 26 = true:=by kernel_rfl
theorem ag29 : eA Tryz.prog 29 = true:=by kernel_rfl
theorem ag30 : eA Tryz.prog 30 = true:=by kernel_rfl
theorem ag32 : eA Tryz.prog 32 = true:=by kernel_rfl
theorem ag34 : eA Tryz.prog 34 = false:=by kernel_rfl
theorem ag50 : eA Tryz.prog 50 = false:=by kernel_rfl
theorem ag72 : eA Tryz.prog 72 = false:=by kernel_rfl
theorem ag75 : eA Tryz.prog 75 = true:=by kernel_rfl
theorem ag85 : eA Tryz.prog 85 = false:=by kernel_rfl
theorem ag87 : eA Tryz.prog 87 = true:=by kernel_rfl
theorem ag90 : eA Tryz.prog 90 = true:=by kernel_rfl
theorem ag92 : eA Tryz.prog 92 = true:=by kernel_rfl
theorem ag96 : eA Tryz.prog 96 = true:=by kernel_rfl
theorem ag98 : eA Tryz.prog 98 = true:=by kernel_rfl
theorem ag108 : eA Tryz.prog 108 = true:=by kernel_rfl
theorem ag110 : eA Tryz.prog 110 = true:=by kernel_rfl
theorem ag113 : eA Tryz.prog 113 = true:=by kernel_rfl
theorem ag115 : eA Tryz.prog 115 = true:=by kernel_rfl
theorem ag117 : eA Tryz.prog 117 = true:=by kernel_rfl
theorem ag119 : eA Tryz.prog 119 = true:=by kernel_rfl
theorem ag123 : eA Tryz.prog 123 = true:=by kernel_rfl
theorem aD7 : eA Tryz.prog 180 = true:=by kernel_rfl
theorem aFk : eA Tryz.prog 233 = true:=by kernel_rfl
theorem aCK : eA Tryz.prog 249 = true:=by kernel_rfl
theorem ex106 : vT Tryz.prog 106 Extern.BytealgIndexByte.indexByte:=⟨Tryz.f106,Tryz.func106,by kernel_rfl,by kernel_rfl,by kernel_rfl,by kernel_rfl⟩
theorem ex72 : vT Tryz.prog 72 Extern.BytealgCount.count:=⟨Tryz.f72,Tryz.func72,by kernel_rfl,by kernel_rfl,by kernel_rfl,by kernel_rfl⟩
theorem pl108 : ∀ w,(Array.mapM (m:=Sem) (fun (f : Field)=>Functor.map (Prod.mk f.offset) (sizeOf f.type)) (fieldsOf Tryz.prog 108)).run Tryz.prog w = .ok #[(0,16),(16,1),(17,1)] w:=fun w=>by kernel_rfl
theorem pl110 : ∀ w,(Array.mapM (m:=Sem) (fun (f : Field)=>Functor.map (Prod.mk f.offset) (sizeOf f.type)) (fieldsOf Tryz.prog 110)).run Tryz.prog w = .ok #[(0,1),(1,1),(2,1),(3,1),(4,1)] w:=fun w=>by kernel_rfl
theorem pl113 : ∀ w,(Array.mapM (m:=Sem) (fun (f : Field)=>Functor.map (Prod.mk f.offset) (sizeOf f.type)) (fieldsOf Tryz.prog 113)).run Tryz.prog w = .ok #[(0,1),(1,1),(2,1),(3,1),(4,1)] w:=fun w=>by kernel_rfl
theorem pl115 : ∀ w,(Array.mapM (m:=Sem) (fun (f : Field)=>Functor.map (Prod.mk f.offset) (sizeOf f.type)) (fieldsOf Tryz.prog 115)).run Tryz.prog w = .ok #[(0,1),(1,1),(2,1),(3,1)] w:=fun w=>by kernel_rfl
theorem pl117 : ∀ w,(Array.mapM (m:=Sem) (fun (f : Field)=>Functor.map (Prod.mk f.offset) (sizeOf f.type)) (fieldsOf Tryz.prog 117)).run Tryz.prog w = .ok #[(0,1),(1,1),(2,1)] w:=fun w=>by kernel_rfl
theorem pl119 : ∀ w,(Array.mapM (m:=Sem) (fun (f : Field)=>Functor.map (Prod.mk f.offset) (sizeOf f.type)) (fieldsOf Tryz.prog 119)).run Tryz.prog w = .ok #[(0,5),(5,5),(10,3),(13,4),(17,3),(20,1),(21,1),(22,1),(23,1),(24,1),(25,1)] w:=fun w=>by kernel_rfl
theorem pl123 : ∀ w,(Array.mapM (m:=Sem) (fun (f : Field)=>Functor.map (Prod.mk f.offset) (sizeOf f.type)) (fieldsOf Tryz.prog 123)).run Tryz.prog w = .ok #[(0,1),(1,1),(2,1),(3,1)] w:=fun w=>by kernel_rfl
theorem pl180 : ∀ w,(Array.mapM (m:=Sem) (fun (f : Field)=>Functor.map (Prod.mk f.offset) (sizeOf f.type)) (fieldsOf Tryz.prog 180)).run Tryz.prog w = .ok #[(0,1),(1,1)] w:=fun w=>by kernel_rfl
theorem pl249 : ∀ w,(Array.mapM (m:=Sem) (fun (f : Field)=>Functor.map (Prod.mk f.offset) (sizeOf f.type)) (fieldsOf Tryz.prog 249)).run Tryz.prog w = .ok #[(0,1),(1,1)] w:=fun w=>by kernel_rfl
theorem pl29 : ∀ w,(Array.mapM (m:=Sem) (fun (f : Field)=>Functor.map (Prod.mk f.offset) (sizeOf f.type)) (fieldsOf Tryz.prog 29)).run Tryz.prog w = .ok #[(0,1),(1,1),(2,1),(3,1)] w:=fun w=>by kernel_rfl
theorem pl32 : ∀ w,(Array.mapM (m:=Sem) (fun (f : Field)=>Functor.map (Prod.mk f.offset) (sizeOf f.type)) (fieldsOf Tryz.prog 32)).run Tryz.prog w = .ok #[(0,1),(1,8),(9,2)] w:=fun w=>by kernel_rfl
theorem pl53 : ∀ w,(Array.mapM (m:=Sem) (fun (f : Field)=>Functor.map (Prod.mk f.offset) (sizeOf f.type)) (fieldsOf Tryz.prog 53)).run Tryz.prog w = .ok #[(0,11),(11,5)] w:=fun w=>by kernel_rfl
theorem pl87 : ∀ w,(Array.mapM (m:=Sem) (fun (f : Field)=>Functor.map (Prod.mk f.offset) (sizeOf f.type)) (fieldsOf Tryz.prog 87)).run Tryz.prog w = .ok #[(0,1),(1,1),(2,1),(3,1),(4,1),(5,1),(6,1),(7,1),(8,1)] w:=fun w=>by kernel_rfl
theorem pl90 : ∀ w,(Array.mapM (m:=Sem) (fun (f : Field)=>Functor.map (Prod.mk f.offset) (sizeOf f.type)) (fieldsOf Tryz.prog 90)).run Tryz.prog w = .ok #[(0,1),(1,1),(2,1)] w:=fun w=>by kernel_rfl
theorem pl92 : ∀ w,(Array.mapM (m:=Sem) (fun (f : Field)=>Functor.map (Prod.mk f.offset) (sizeOf f.type)) (fieldsOf Tryz.prog 92)).run Tryz.prog w = .ok #[(0,3),(3,1)] w:=fun w=>by kernel_rfl
theorem pl96 : ∀ w,(Array.mapM (m:=Sem) (fun (f : Field)=>Functor.map (Prod.mk f.offset) (sizeOf f.type)) (fieldsOf Tryz.prog 96)).run Tryz.prog w = .ok #[(0,9),(9,4),(13,3)] w:=fun w=>by kernel_rfl
theorem pl98 : ∀ w,(Array.mapM (m:=Sem) (fun (f : Field)=>Functor.map (Prod.mk f.offset) (sizeOf f.type)) (fieldsOf Tryz.prog 98)).run Tryz.prog w = .ok #[(0,1),(1,1),(2,1),(3,1),(4,1),(5,1),(6,1),(7,1),(8,1)] w:=fun w=>by kernel_rfl
theorem st249 : Tryz.prog.stoodInHeld 249 = false ∧ Tryz.prog.eqGuardType Tryz.prog.depth 249 = false:=⟨by kernel_rfl,by kernel_rfl⟩
theorem st75 : Tryz.prog.stoodInHeld 75 = false ∧ Tryz.prog.eqGuardType Tryz.prog.depth 75 = false:=⟨by kernel_rfl,by kernel_rfl⟩
theorem cl5 : aV Tryz.prog 5:=⟨Tryz.f5,Tryz.func5,rfl,rfl⟩
theorem cl6 : aV Tryz.prog 6:=⟨Tryz.f6,Tryz.func6,rfl,rfl⟩
theorem cl8 : aV Tryz.prog 8:=⟨Tryz.f8,Tryz.func8,rfl,rfl⟩
theorem cl11 : aV Tryz.prog 11:=⟨Tryz.f11,Tryz.func11,rfl,rfl⟩
theorem cl12 : aV Tryz.prog 12:=⟨Tryz.f12,Tryz.func12,rfl,rfl⟩
theorem cl13 : aV Tryz.prog 13:=⟨Tryz.f13,Tryz.func13,rfl,rfl⟩
theorem cl14 : aV Tryz.prog 14:=⟨Tryz.f14,Tryz.func14,rfl,rfl⟩
theorem cl15 : aV Tryz.prog 15:=⟨Tryz.f15,Tryz.func15,rfl,rfl⟩
theorem cl16 : aV Tryz.prog 16:=⟨Tryz.f16,Tryz.func16,rfl,rfl⟩
theorem cl17 : aV Tryz.prog 17:=⟨Tryz.f17,Tryz.func17,rfl,rfl⟩
theorem cl19 : aV Tryz.prog 19:=⟨Tryz.f19,Tryz.func19,rfl,rfl⟩
theorem cl20 : aV Tryz.prog 20:=⟨Tryz.f20,Tryz.func20,rfl,rfl⟩
theorem cl21 : aV Tryz.prog 21:=⟨Tryz.f21,Tryz.func21,rfl,rfl⟩
theorem cl22 : aV Tryz.prog 22:=⟨Tryz.f22,Tryz.func22,rfl,rfl⟩
theorem cl23 : aV Tryz.prog 23:=⟨Tryz.f23,Tryz.func23,rfl,rfl⟩
theorem cl24 : aV Tryz.prog 24:=⟨Tryz.f24,Tryz.func24,rfl,rfl⟩
theorem cl25 : aV Tryz.prog 25:=⟨Tryz.f25,Tryz.func25,rfl,rfl⟩
theorem cl26 : aV Tryz.prog 26:=⟨Tryz.f26,Tryz.func26,rfl,rfl⟩
theorem cl37 : aV Tryz.prog 37:=⟨Tryz.f37,Tryz.func37,rfl,rfl⟩
theorem cl38 : aV Tryz.prog 38:=⟨Tryz.f38,Tryz.func38,rfl,rfl⟩
theorem cl39 : aV Tryz.prog 39:=⟨Tryz.f39,Tryz.func39,rfl,rfl⟩
theorem cl40 : aV Tryz.prog 40:=⟨Tryz.f40,Tryz.func40,rfl,rfl⟩
theorem cl41 : aV Tryz.prog 41:=⟨Tryz.f41,Tryz.func41,rfl,rfl⟩
theorem cl42 : aV Tryz.prog 42:=⟨Tryz.f42,Tryz.func42,rfl,rfl⟩
theorem cl43 : aV Tryz.prog 43:=⟨Tryz.f43,Tryz.func43,rfl,rfl⟩
theorem cl44 : aV Tryz.prog 44:=⟨Tryz.f44,Tryz.func44,rfl,rfl⟩
theorem cl45 : aV Tryz.prog 45:=⟨Tryz.f45,Tryz.func45,rfl,rfl⟩
theorem cl46 : aV Tryz.prog 46:=⟨Tryz.f46,Tryz.func46,rfl,rfl⟩
theorem cl47 : aV Tryz.prog 47:=⟨Tryz.f47,Tryz.func47,rfl,rfl⟩
theorem cl48 : aV Tryz.prog 48:=⟨Tryz.f48,Tryz.func48,rfl,rfl⟩
theorem cl49 : aV Tryz.prog 49:=⟨Tryz.f49,Tryz.func49,rfl,rfl⟩
theorem cl52 : aV Tryz.prog 52:=⟨Tryz.f52,Tryz.func52,rfl,rfl⟩
theorem cl55 : aV Tryz.prog 55:=⟨Tryz.f55,Tryz.func55,rfl,rfl⟩
theorem cl58 : aV Tryz.prog 58:=⟨Tryz.f58,Tryz.func58,rfl,rfl⟩
theorem cl59 : aV Tryz.prog 59:=⟨Tryz.f59,Tryz.func59,rfl,rfl⟩
theorem cl60 : aV Tryz.prog 60:=⟨Tryz.f60,Tryz.func60,rfl,rfl⟩
theorem cl61 : aV Tryz.prog 61:=⟨Tryz.f61,Tryz.func61,rfl,rfl⟩
theorem cl62 : aV Tryz.prog 62:=⟨Tryz.f62,Tryz.func62,rfl,rfl⟩
theorem cl63 : aV Tryz.prog 63:=⟨Tryz.f63,Tryz.func63,rfl,rfl⟩
theorem cl73 : aV Tryz.prog 73:=⟨Tryz.f73,Tryz.func73,rfl,rfl⟩
theorem cl74 : aV Tryz.prog 74:=⟨Tryz.f74,Tryz.func74,rfl,rfl⟩
theorem cl75 : aV Tryz.prog 75:=⟨Tryz.f75,Tryz.func75,rfl,rfl⟩
theorem cl76 : aV Tryz.prog 76:=⟨Tryz.f76,Tryz.func76,rfl,rfl⟩
theorem cl77 : aV Tryz.prog 77:=⟨Tryz.f77,Tryz.func77,rfl,rfl⟩
theorem cl90 : aV Tryz.prog 90:=⟨Tryz.f90,Tryz.func90,rfl,rfl⟩
theorem cl94 : aV Tryz.prog 94:=⟨Tryz.f94,Tryz.func94,rfl,rfl⟩
theorem cl123 : aV Tryz.prog 123:=⟨Tryz.f123,Tryz.func123,rfl,rfl⟩
theorem cl124 : aV Tryz.prog 124:=⟨Tryz.f124,Tryz.func124,rfl,rfl⟩
theorem cl125 : aV Tryz.prog 125:=⟨Tryz.f125,Tryz.func125,rfl,rfl⟩
theorem cl126 : aV Tryz.prog 126:=⟨Tryz.f126,Tryz.func126,rfl,rfl⟩
theorem cl127 : aV Tryz.prog 127:=⟨Tryz.f127,Tryz.func127,rfl,rfl⟩
theorem cl128 : aV Tryz.prog 128:=⟨Tryz.f128,Tryz.func128,rfl,rfl⟩
theorem cl142 : aV Tryz.prog 142:=⟨Tryz.f142,Tryz.func142,rfl,rfl⟩
theorem cl143 : aV Tryz.prog 143:=⟨Tryz.f143,Tryz.func143,rfl,rfl⟩
theorem cl144 : aV Tryz.prog 144:=⟨Tryz.f144,Tryz.func144,rfl,rfl⟩
theorem aGg : aV Tryz.prog 145:=⟨Tryz.f145,Tryz.func145,rfl,rfl⟩
theorem cl146 : aV Tryz.prog 146:=⟨Tryz.f146,Tryz.func146,rfl,rfl⟩
theorem cl147 : aV Tryz.prog 147:=⟨Tryz.f147,Tryz.func147,rfl,rfl⟩
theorem cl152 : aV Tryz.prog 152:=⟨Tryz.f152,Tryz.func152,rfl,rfl⟩
theorem cl153 : aV Tryz.prog 153:=⟨Tryz.f153,Tryz.func153,rfl,rfl⟩
theorem cl154 : aV Tryz.prog 154:=⟨Tryz.f154,Tryz.func154,rfl,rfl⟩
theorem cl156 : aV Tryz.prog 156:=⟨Tryz.f156,Tryz.func156,rfl,rfl⟩
def la26:=LA.mk Tryz.underlying26 ag26 ti26 (by decide)
def la29:=LA.mk Tryz.underlying29 ag29 ti29 (by decide)
def la30:=LA.mk Tryz.underlying30 ag30 ti30 (by decide)
def la32:=LA.mk Tryz.underlying32 ag32 ti32 (by decide)
def la72:=LA.mk Tryz.underlying72 ag72 ti72 (by decide)
def la75:=LA.mk Tryz.underlying75 ag75 ti75 (by decide)
def la85:=LA.mk Tryz.underlying85 ag85 ti85 (by decide)
def la87:=LA.mk Tryz.underlying87 ag87 ti87 (by decide)
def la90:=LA.mk Tryz.underlying90 ag90 ti90 (by decide)
def la92:=LA.mk Tryz.underlying92 ag92 ti92 (by decide)
def la96:=LA.mk Tryz.underlying96 ag96 ti96 (by decide)
def la98:=LA.mk Tryz.underlying98 ag98 ti98 (by decide)
def la108:=LA.mk Tryz.underlying108 ag108 aDZ (by decide)
def xO:=LA.mk Tryz.underlying110 ag110 rP (by decide)
def la113:=LA.mk Tryz.underlying113 ag113 aFw (by decide)
def la115:=LA.mk Tryz.underlying115 ag115 aFv (by decide)
def la117:=LA.mk Tryz.underlying117 ag117 aFu (by decide)
def aDr:=LA.mk Tryz.underlying119 ag119 tP (by decide)
def aGH:=LA.mk Tryz.underlying123 ag123 rH (by decide)
def la180:=LA.mk Tryz.underlying180 aD7 oS (by decide)
def xN:=LA.mk Tryz.underlying249 aCK jC (by decide)
abbrev tv0 (x : bI) : List D:=[.int .u8 x.Shake.Stage,.int .i64 x.Shake.Path,.int .i64 x.Shake.Epoch,.int .u32 x.Shake.Mine,.int .u32 x.Shake.Hers,.int .i64 x.Send.Base,.str x.Send.Data,.int .i64 x.Send.Next,.slice false (x.Send.Flight.map jP.d),.slice false (x.Send.Came.map aF.d),.int .i64 x.Recv.Base,.str x.Recv.Ready,.slice false (x.Recv.Parts.map cY.d),.int .i64 x.Rtt.Smooth,.int .i64 x.Rtt.Var,.bool x.Rtt.Known,.int .i64 x.Rtt.Shift,.int .i64 x.Win.Win,.int .i64 x.Win.Thresh,.int .i64 x.Win.Part,.int .i64 x.Limit,.int .i64 x.Now,.int .i64 x.Heard,.int .i64 x.Next,.int .i64 x.Probe,.bool x.Due]
abbrev tv1 (x : dQ) : List D:=[.int .i64 x.Config.Paths,.int .i64 x.Config.Values.c0.Streams,.int .i64 x.Config.Values.c0.Window,.int .i64 x.Config.Values.c0.Whole,.int .i64 x.Config.Values.c0.Chunk,.int .i64 x.Config.Values.c1.Streams,.int .i64 x.Config.Values.c1.Window,.int .i64 x.Config.Values.c1.Whole,.int .i64 x.Config.Values.c1.Chunk,.int .u32 x.Config.First.c0,.int .u32 x.Config.First.c1,.bool x.seen.c0,.bool x.seen.c1,.bool x.seen.c2,.bool x.seen.c3,.bool x.seen.c4]
abbrev tv2 (x : jO) : List D:=[.bool x.Lines.c0.Up,.bool x.Lines.c0.Dead,.int .i64 x.Lines.c0.Bytes,.int .i64 x.Lines.c0.Ticks,.bool x.Lines.c1.Up,.bool x.Lines.c1.Dead,.int .i64 x.Lines.c1.Bytes,.int .i64 x.Lines.c1.Ticks,.bool x.Lines.c2.Up,.bool x.Lines.c2.Dead,.int .i64 x.Lines.c2.Bytes,.int .i64 x.Lines.c2.Ticks,.bool x.Lines.c3.Up,.bool x.Lines.c3.Dead,.int .i64 x.Lines.c3.Bytes,.int .i64 x.Lines.c3.Ticks,.int .i64 x.Pinned,.slice false (x.Binds.map lV.d)]
abbrev tv3 (x : dM) : List D:=[.int .i64 x.Send.Base,.str x.Send.Data,.int .i64 x.Send.Next,.slice false (x.Send.Pieces.map cS.d),.slice false (x.Send.Lost.map aF.d),.bool x.Send.Closed,.bool x.Send.Sent,.bool x.Send.Again,.bool x.Send.Done,.int .i64 x.Recv.Recv.Base,.str x.Recv.Recv.Ready,.slice false (x.Recv.Recv.Parts.map cY.d),.int .i64 x.Recv.End,.str x.In.Buf,.int .i64 x.In.Bad,.int .i64 x.In.Seen]
abbrev tv4 (x : bF) : List D:=[.int .i64 x.Paths,.int .i64 x.Values.c0.Streams,.int .i64 x.Values.c0.Window,.int .i64 x.Values.c0.Whole,.int .i64 x.Values.c0.Chunk,.int .i64 x.Values.c1.Streams,.int .i64 x.Values.c1.Window,.int .i64 x.Values.c1.Whole,.int .i64 x.Values.c1.Chunk,.int .u32 x.First.c0,.int .u32 x.First.c1]
abbrev tv5 (x : dF) : List D:=[.bool x.Odd,.int .i64 x.Next,.int .i64 x.Last,.slice false (x.Live.map (eInt .i64).d),.slice false (x.Cut.map (eInt .i64).d),.int .i64 x.Mine,.int .i64 x.Hers,.int .i64 x.Heard,.int .i64 x.Told]
abbrev tv6 (x : aD) : List D:=[.int .u8 x.Kind,.bool x.Flag,.int .i64 x.Stream,.int .i64 x.Offset,.int .i64 x.Dep,.int .i64 x.Weight,.int .i64 x.N,.int .i64 x.Code,.slice false (x.Pairs.map bA.d),.str x.Data]
abbrev tv7 (x : cJ) : List D:=[.int .i64 x.Base,.str x.Data,.int .i64 x.Next,.slice false (x.Pieces.map cS.d),.slice false (x.Lost.map aF.d),.bool x.Closed,.bool x.Sent,.bool x.Again,.bool x.Done]
abbrev tv8 (x : kD) : List D:=[.int .i64 x.c0.Streams,.int .i64 x.c0.Window,.int .i64 x.c0.Whole,.int .i64 x.c0.Chunk,.int .i64 x.c1.Streams,.int .i64 x.c1.Window,.int .i64 x.c1.Whole,.int .i64 x.c1.Chunk]
abbrev tv9 (x : fK) : List D:=[.bool x.Odd,.int .i64 x.Paths,.int .i64 x.Values.Streams,.int .i64 x.Values.Window,.int .i64 x.Values.Whole,.int .i64 x.Values.Chunk,.int .u32 x.First]
abbrev tv10 (x : dZ) : List D:=[.int .i64 x.Base,.str x.Data,.int .i64 x.Next,.slice false (x.Flight.map jP.d),.slice false (x.Came.map aF.d)]
abbrev tv11 (x : kY) : List D:=[.int .i64 x.State.Base,.str x.State.Ready,.slice false (x.State.Parts.map cY.d),.int .i64 x.end_]
abbrev tv12 (x : eO) : List D:=[.int .i64 x.Recv.Base,.str x.Recv.Ready,.slice false (x.Recv.Parts.map cY.d),.int .i64 x.End]
abbrev tv13 (x : cF) : List D:=[.int .u8 x.Stage,.int .i64 x.Path,.int .i64 x.Epoch,.int .u32 x.Mine,.int .u32 x.Hers]
abbrev tv14 (x : bL) : List D:=[.int .i64 x.Streams,.int .i64 x.Window,.int .i64 x.Whole,.int .i64 x.Chunk]
abbrev tv15 (x : oM) : List D:=[.slice false (x.Cells.map nW.d),.int .i64 x.Free,.int .i64 x.Used]
abbrev tv16 (x : cM) : List D:=[.int .i64 x.Base,.str x.Ready,.slice false (x.Parts.map cY.d)]
abbrev tv17 (x : eP) : List D:=[.int .i64 x.Window,.int .i64 x.Limit,.int .i64 x.Used,.int .i64 x.Read]
abbrev tv18 (x : eU) : List D:=[.int .i64 x.Smooth,.int .i64 x.Var,.bool x.Known,.int .i64 x.Shift]
abbrev tv19 (x : bX) : List D:=[.int .i64 x.From,.int .i64 x.To,.int .i64 x.Path,.bool x.Fin]
abbrev tv20 (x : dN) : List D:=[.int .i64 x.c0,.int .i64 x.c1,.int .i64 x.c2,.int .i64 x.c3]
abbrev tv21 (x : eQ) : List D:=[.int .i64 x.Win,.int .i64 x.Thresh,.int .i64 x.Part]
abbrev tv22 (x : fG) : List D:=[.str x.Buf,.int .i64 x.Bad,.int .i64 x.Seen]
abbrev q23 {a1 : IntKind} {a2 : Int} {a3 : IntKind} {a4 : Int} {a5 : IntKind} {a6 : Int} {a7 : IntKind} {a8 : Int} {a9 : IntKind} {a10 : Int} {a11 : IntKind} {a12 : Int} {a13 : List UInt8} {a14 : IntKind} {a15 : Int} {a16 : Bool} {a17 : List D} {a18 : Bool} {a19 : List D} {a20 : IntKind} {a21 : Int} {a22 : List UInt8} {a23 : Bool} {a24 : List D} {a25 : IntKind} {a26 : Int} {a27 : IntKind} {a28 : Int} {a29 : Bool} {a30 : IntKind} {a31 : Int} {a32 : IntKind} {a33 : Int} {a34 : IntKind} {a35 : Int} {a36 : IntKind} {a37 : Int} {a38 : IntKind} {a39 : Int} {a40 : IntKind} {a41 : Int} {a42 : IntKind} {a43 : Int} {a44 : IntKind} {a45 : Int} {a46 : IntKind} {a47 : Int} {a48 : Bool} : List D:=[.int a1 a2,.int a3 a4,.int a5 a6,.int a7 a8,.int a9 a10,.int a11 a12,.str a13,.int a14 a15,.slice a16 a17,.slice a18 a19,.int a20 a21,.str a22,.slice a23 a24,.int a25 a26,.int a27 a28,.bool a29,.int a30 a31,.int a32 a33,.int a34 a35,.int a36 a37,.int a38 a39,.int a40 a41,.int a42 a43,.int a44 a45,.int a46 a47,.bool a48]
abbrev q24 {a1 : IntKind} {a2 : Int} {a3 : IntKind} {a4 : Int} {a5 : IntKind} {a6 : Int} {a7 : IntKind} {a8 : Int} {a9 : IntKind} {a10 : Int} {a11 : IntKind} {a12 : Int} {a13 : List UInt8} {a14 : IntKind} {a15 : Int} {a16 : IntKind} {a17 : Int} {a18 : List UInt8} {a19 : IntKind} {a20 : Int} {a21 : IntKind} {a22 : Int} {a23 : Bool} {a24 : IntKind} {a25 : Int} {a26 : IntKind} {a27 : Int} {a28 : IntKind} {a29 : Int} {a30 : IntKind} {a31 : Int} {a32 : IntKind} {a33 : Int} {a34 : IntKind} {a35 : Int} {a36 : IntKind} {a37 : Int} {a38 : IntKind} {a39 : Int} {a40 : IntKind} {a41 : Int} {a42 : Bool} : List D:=[.int a1 a2,.int a3 a4,.int a5 a6,.int a7 a8,.int a9 a10,.int a11 a12,.str a13,.int a14 a15,.nils,.nils,.int a16 a17,.str a18,.nils,.int a19 a20,.int a21 a22,.bool a23,.int a24 a25,.int a26 a27,.int a28 a29,.int a30 a31,.int a32 a33,.int a34 a35,.int a36 a37,.int a38 a39,.int a40 a41,.bool a42]
abbrev q25 {a1 : Bool} {a2 : Bool} {a3 : IntKind} {a4 : Int} {a5 : IntKind} {a6 : Int} {a7 : Bool} {a8 : Bool} {a9 : IntKind} {a10 : Int} {a11 : IntKind} {a12 : Int} {a13 : Bool} {a14 : Bool} {a15 : IntKind} {a16 : Int} {a17 : IntKind} {a18 : Int} {a19 : Bool} {a20 : Bool} {a21 : IntKind} {a22 : Int} {a23 : IntKind} {a24 : Int} {a25 : IntKind} {a26 : Int} {a27 : Bool} {a28 : List D} : List D:=[.bool a1,.bool a2,.int a3 a4,.int a5 a6,.bool a7,.bool a8,.int a9 a10,.int a11 a12,.bool a13,.bool a14,.int a15 a16,.int a17 a18,.bool a19,.bool a20,.int a21 a22,.int a23 a24,.int a25 a26,.slice a27 a28]
abbrev q26 {a1 : Bool} {a2 : Bool} {a3 : IntKind} {a4 : Int} {a5 : IntKind} {a6 : Int} {a7 : Bool} {a8 : Bool} {a9 : IntKind} {a10 : Int} {a11 : IntKind} {a12 : Int} {a13 : Bool} {a14 : Bool} {a15 : IntKind} {a16 : Int} {a17 : IntKind} {a18 : Int} {a19 : Bool} {a20 : Bool} {a21 : IntKind} {a22 : Int} {a23 : IntKind} {a24 : Int} {a25 : IntKind} {a26 : Int} : List D:=[.bool a1,.bool a2,.int a3 a4,.int a5 a6,.bool a7,.bool a8,.int a9 a10,.int a11 a12,.bool a13,.bool a14,.int a15 a16,.int a17 a18,.bool a19,.bool a20,.int a21 a22,.int a23 a24,.int a25 a26,.nils]
abbrev q27 {a1 : IntKind} {a2 : Int} {a3 : List UInt8} {a4 : IntKind} {a5 : Int} {a6 : Bool} {a7 : List D} {a8 : Bool} {a9 : List D} {a10 : Bool} {a11 : Bool} {a12 : Bool} {a13 : Bool} {a14 : IntKind} {a15 : Int} {a16 : List UInt8} {a17 : Bool} {a18 : List D} {a19 : IntKind} {a20 : Int} {a21 : List UInt8} {a22 : IntKind} {a23 : Int} {a24 : IntKind} {a25 : Int} : List D:=[.int a1 a2,.str a3,.int a4 a5,.slice a6 a7,.slice a8 a9,.bool a10,.bool a11,.bool a12,.bool a13,.int a14 a15,.str a16,.slice a17 a18,.int a19 a20,.str a21,.int a22 a23,.int a24 a25]
abbrev q28 {a1 : IntKind} {a2 : Int} {a3 : IntKind} {a4 : Int} {a5 : IntKind} {a6 : Int} {a7 : IntKind} {a8 : Int} {a9 : IntKind} {a10 : Int} {a11 : IntKind} {a12 : Int} {a13 : IntKind} {a14 : Int} {a15 : IntKind} {a16 : Int} {a17 : IntKind} {a18 : Int} {a19 : IntKind} {a20 : Int} {a21 : IntKind} {a22 : Int} {a23 : Bool} {a24 : Bool} {a25 : Bool} {a26 : Bool} {a27 : Bool} : List D:=[.int a1 a2,.int a3 a4,.int a5 a6,.int a7 a8,.int a9 a10,.int a11 a12,.int a13 a14,.int a15 a16,.int a17 a18,.int a19 a20,.int a21 a22,.bool a23,.bool a24,.bool a25,.bool a26,.bool a27]
abbrev q29 {a1 : IntKind} {a2 : Int} {a3 : List UInt8} {a4 : IntKind} {a5 : Int} {a6 : Bool} {a7 : Bool} {a8 : Bool} {a9 : Bool} {a10 : IntKind} {a11 : Int} {a12 : List UInt8} {a13 : IntKind} {a14 : Int} {a15 : List UInt8} {a16 : IntKind} {a17 : Int} {a18 : IntKind} {a19 : Int} : List D:=[.int a1 a2,.str a3,.int a4 a5,.nils,.nils,.bool a6,.bool a7,.bool a8,.bool a9,.int a10 a11,.str a12,.nils,.int a13 a14,.str a15,.int a16 a17,.int a18 a19]
abbrev q30 {a1 : IntKind} {a2 : Int} {a3 : IntKind} {a4 : Int} {a5 : IntKind} {a6 : Int} {a7 : IntKind} {a8 : Int} {a9 : IntKind} {a10 : Int} {a11 : IntKind} {a12 : Int} {a13 : IntKind} {a14 : Int} {a15 : IntKind} {a16 : Int} {a17 : IntKind} {a18 : Int} {a19 : IntKind} {a20 : Int} {a21 : IntKind} {a22 : Int} : List D:=[.int a1 a2,.int a3 a4,.int a5 a6,.int a7 a8,.int a9 a10,.int a11 a12,.int a13 a14,.int a15 a16,.int a17 a18,.int a19 a20,.int a21 a22]
abbrev q31 {a1 : IntKind} {a2 : Int} {a3 : Bool} {a4 : IntKind} {a5 : Int} {a6 : IntKind} {a7 : Int} {a8 : IntKind} {a9 : Int} {a10 : IntKind} {a11 : Int} {a12 : IntKind} {a13 : Int} {a14 : IntKind} {a15 : Int} {a16 : Bool} {a17 : List D} {a18 : List UInt8} : List D:=[.int a1 a2,.bool a3,.int a4 a5,.int a6 a7,.int a8 a9,.int a10 a11,.int a12 a13,.int a14 a15,.slice a16 a17,.str a18]
abbrev q32 {a1 : IntKind} {a2 : Int} {a3 : Bool} {a4 : IntKind} {a5 : Int} {a6 : IntKind} {a7 : Int} {a8 : IntKind} {a9 : Int} {a10 : IntKind} {a11 : Int} {a12 : IntKind} {a13 : Int} {a14 : IntKind} {a15 : Int} {a16 : List UInt8} : List D:=[.int a1 a2,.bool a3,.int a4 a5,.int a6 a7,.int a8 a9,.int a10 a11,.int a12 a13,.int a14 a15,.nils,.str a16]
abbrev q33 {a1 : Bool} {a2 : IntKind} {a3 : Int} {a4 : IntKind} {a5 : Int} {a6 : Bool} {a7 : List D} {a8 : Bool} {a9 : List D} {a10 : IntKind} {a11 : Int} {a12 : IntKind} {a13 : Int} {a14 : IntKind} {a15 : Int} {a16 : IntKind} {a17 : Int} : List D:=[.bool a1,.int a2 a3,.int a4 a5,.slice a6 a7,.slice a8 a9,.int a10 a11,.int a12 a13,.int a14 a15,.int a16 a17]
abbrev q34 {a1 : IntKind} {a2 : Int} {a3 : List UInt8} {a4 : IntKind} {a5 : Int} {a6 : Bool} {a7 : List D} {a8 : Bool} {a9 : List D} {a10 : Bool} {a11 : Bool} {a12 : Bool} {a13 : Bool} : List D:=[.int a1 a2,.str a3,.int a4 a5,.slice a6 a7,.slice a8 a9,.bool a10,.bool a11,.bool a12,.bool a13]
abbrev q35 {a1 : IntKind} {a2 : Int} {a3 : List UInt8} {a4 : IntKind} {a5 : Int} {a6 : Nat} {a7 : Nat} {a8 : Nat} {a9 : Bool} {a10 : List D} {a11 : Bool} {a12 : Bool} {a13 : Bool} {a14 : Bool} : List D:=[.int a1 a2,.str a3,.int a4 a5,.osl a6 a7 a8,.slice a9 a10,.bool a11,.bool a12,.bool a13,.bool a14]
abbrev q36 {a1 : Bool} {a2 : IntKind} {a3 : Int} {a4 : IntKind} {a5 : Int} {a6 : IntKind} {a7 : Int} {a8 : IntKind} {a9 : Int} {a10 : IntKind} {a11 : Int} {a12 : IntKind} {a13 : Int} : List D:=[.bool a1,.int a2 a3,.int a4 a5,.nils,.nils,.int a6 a7,.int a8 a9,.int a10 a11,.int a12 a13]
abbrev q37 {a1 : IntKind} {a2 : Int} {a3 : IntKind} {a4 : Int} {a5 : IntKind} {a6 : Int} {a7 : IntKind} {a8 : Int} {a9 : IntKind} {a10 : Int} {a11 : IntKind} {a12 : Int} {a13 : IntKind} {a14 : Int} {a15 : IntKind} {a16 : Int} : List D:=[.int a1 a2,.int a3 a4,.int a5 a6,.int a7 a8,.int a9 a10,.int a11 a12,.int a13 a14,.int a15 a16]
abbrev q38 {a1 : IntKind} {a2 : Int} {a3 : List UInt8} {a4 : IntKind} {a5 : Int} {a6 : Bool} {a7 : Bool} {a8 : Bool} {a9 : Bool} : List D:=[.int a1 a2,.str a3,.int a4 a5,.nils,.nils,.bool a6,.bool a7,.bool a8,.bool a9]
abbrev q39 {a1 : Bool} {a2 : IntKind} {a3 : Int} {a4 : IntKind} {a5 : Int} {a6 : IntKind} {a7 : Int} {a8 : IntKind} {a9 : Int} {a10 : IntKind} {a11 : Int} {a12 : IntKind} {a13 : Int} : List D:=[.bool a1,.int a2 a3,.int a4 a5,.int a6 a7,.int a8 a9,.int a10 a11,.int a12 a13]
abbrev q40 {a1 : IntKind} {a2 : Int} {a3 : List UInt8} {a4 : IntKind} {a5 : Int} {a6 : Bool} {a7 : List D} {a8 : Bool} {a9 : List D} : List D:=[.int a1 a2,.str a3,.int a4 a5,.slice a6 a7,.slice a8 a9]
abbrev q41 {a1 : IntKind} {a2 : Int} {a3 : IntKind} {a4 : Int} {a5 : Bool} {a6 : List D} {a7 : IntKind} {a8 : Int} {a9 : IntKind} {a10 : Int} : List D:=[.int a1 a2,.int a3 a4,.slice a5 a6,.int a7 a8,.int a9 a10]
abbrev q42 {a1 : IntKind} {a2 : Int} {a3 : IntKind} {a4 : Int} {a5 : IntKind} {a6 : Int} {a7 : IntKind} {a8 : Int} {a9 : IntKind} {a10 : Int} : List D:=[.int a1 a2,.int a3 a4,.int a5 a6,.int a7 a8,.int a9 a10]
abbrev q43 {a1 : IntKind} {a2 : Int} {a3 : IntKind} {a4 : Int} {a5 : IntKind} {a6 : Int} {a7 : IntKind} {a8 : Int} : List D:=[.int a1 a2,.int a3 a4,.int a5 a6,.int a7 a8]
abbrev q44 {a1 : IntKind} {a2 : Int} {a3 : List UInt8} {a4 : Bool} {a5 : List D} {a6 : IntKind} {a7 : Int} : List D:=[.int a1 a2,.str a3,.slice a4 a5,.int a6 a7]
abbrev q45 {a1 : IntKind} {a2 : Int} {a3 : IntKind} {a4 : Int} {a5 : Bool} {a6 : IntKind} {a7 : Int} : List D:=[.int a1 a2,.int a3 a4,.bool a5,.int a6 a7]
abbrev q46 {a1 : IntKind} {a2 : Int} {a3 : IntKind} {a4 : Int} {a5 : IntKind} {a6 : Int} {a7 : Bool} : List D:=[.int a1 a2,.int a3 a4,.int a5 a6,.bool a7]
abbrev q47 {a1 : IntKind} {a2 : Int} {a3 : List UInt8} {a4 : Bool} {a5 : List D} : List D:=[.int a1 a2,.str a3,.slice a4 a5]
abbrev q48 {a1 : IntKind} {a2 : Int} {a3 : IntKind} {a4 : Int} {a5 : IntKind} {a6 : Int} : List D:=[.int a1 a2,.int a3 a4,.int a5 a6]
abbrev q49 {a1 : List UInt8} {a2 : IntKind} {a3 : Int} {a4 : IntKind} {a5 : Int} : List D:=[.str a1,.int a2 a3,.int a4 a5]
abbrev q50 {a1 : Bool} {a2 : List D} {a3 : IntKind} {a4 : Int} : List D:=[.slice a1 a2,.int a3 a4]
abbrev q51 {a1 : Bool} {a2 : List D} {a3 : Bool} : List D:=[.slice a1 a2,.bool a3]
abbrev q52 {a1 : IntKind} {a2 : Int} {a3 : IntKind} {a4 : Int} : List D:=[.int a1 a2,.int a3 a4]
abbrev q53 {a1 : List UInt8} {a2 : IntKind} {a3 : Int} : List D:=[.str a1,.int a2 a3]
abbrev q54 {a1 : IntKind} {a2 : Int} {a3 : List UInt8} : List D:=[.int a1 a2,.str a3]
abbrev q55 {a1 : IntKind} {a2 : Int} {a3 : Bool} {a4 : IntKind} {a5 : Int} {a6 : IntKind} {a7 : Int} {a8 : IntKind} {a9 : Int} {a10 : IntKind} {a11 : Int} {a12 : IntKind} {a13 : Int} {a14 : IntKind} {a15 : Int} {a16 : Bool} {a17 : List D} {a18 : List UInt8} {a19 : IntKind} {a20 : Int} {a21 : IntKind} {a22 : Int} {a23 : IntKind} {a24 : Int} : List D:=[.agg [.int a1 a2,.bool a3,.int a4 a5,.int a6 a7,.int a8 a9,.int a10 a11,.int a12 a13,.int a14 a15,.slice a16 a17,.str a18],.int a19 a20,.int a21 a22,.int a23 a24]
abbrev q56 {a1 : IntKind} {a2 : Int} {a3 : IntKind} {a4 : Int} {a5 : IntKind} {a6 : Int} {a7 : IntKind} {a8 : Int} {a9 : IntKind} {a10 : Int} {a11 : IntKind} {a12 : Int} {a13 : IntKind} {a14 : Int} {a15 : IntKind} {a16 : Int} {a17 : IntKind} {a18 : Int} {a19 : IntKind} {a20 : Int} {a21 : IntKind} {a22 : Int} {a23 : IntKind} {a24 : Int} {a25 : IntKind} {a26 : Int} : List D:=[.agg [.int a1 a2,.int a3 a4,.int a5 a6,.int a7 a8,.int a9 a10,.int a11 a12,.int a13 a14,.int a15 a16,.int a17 a18,.int a19 a20,.int a21 a22],.int a23 a24,.int a25 a26]
abbrev q57 {a1 : IntKind} {a2 : Int} {a3 : Bool} {a4 : IntKind} {a5 : Int} {a6 : IntKind} {a7 : Int} {a8 : IntKind} {a9 : Int} {a10 : IntKind} {a11 : Int} {a12 : IntKind} {a13 : Int} {a14 : IntKind} {a15 : Int} {a16 : Bool} {a17 : List D} {a18 : List UInt8} {a19 : IntKind} {a20 : Int} {a21 : IntKind} {a22 : Int} : List D:=[.agg [.int a1 a2,.bool a3,.int a4 a5,.int a6 a7,.int a8 a9,.int a10 a11,.int a12 a13,.int a14 a15,.slice a16 a17,.str a18],.int a19 a20,.int a21 a22]
abbrev q58 {a1 : IntKind} {a2 : Int} {a3 : List UInt8} {a4 : IntKind} {a5 : Int} {a6 : Bool} {a7 : List D} {a8 : Bool} {a9 : List D} {a10 : Bool} {a11 : Bool} {a12 : Bool} {a13 : Bool} {a14 : IntKind} {a15 : Int} {a16 : List UInt8} {a17 : Bool} {a18 : List D} {a19 : IntKind} {a20 : Int} {a21 : List UInt8} {a22 : IntKind} {a23 : Int} {a24 : IntKind} {a25 : Int} {a26 : IntKind} {a27 : Int} : List D:=[.agg [.int a1 a2,.str a3,.int a4 a5,.slice a6 a7,.slice a8 a9,.bool a10,.bool a11,.bool a12,.bool a13,.int a14 a15,.str a16,.slice a17 a18,.int a19 a20,.str a21,.int a22 a23,.int a24 a25],.int a26 a27]
abbrev q59 {a1 : IntKind} {a2 : Int} {a3 : IntKind} {a4 : Int} {a5 : IntKind} {a6 : Int} {a7 : IntKind} {a8 : Int} {a9 : IntKind} {a10 : Int} : List D:=[.agg [.int a1 a2,.int a3 a4,.int a5 a6,.int a7 a8],.int a9 a10]
abbrev w60 (a0 : Int) (a1 : List UInt8) (a2 : Int) (a3 : List bX) (a4 : List aG) (a5 : Bool) (a6 : Bool) (a7 : Bool) (a8 : Bool) (a9 : Int) (a10 : List UInt8) (a11 : List cE) (a12 : Int) (a13 : List UInt8) (a14 : Int) (a15 : Int) (a16 : Bool) (a17 : Int) (a18 : Int) (a19 : List Int) (a20 : List Int) (a21 : Int) (a22 : Int) (a23 : Int) (a24 : Int) (a25 : List bU) (a26 : List bZ) (a27 : List Int) (a28 : List bP) (a29 : Bool) (a30 : Bool) (a31 : Int) (a32 : Int) (a33 : Bool) (a34 : Bool) (a35 : Int) (a36 : Int) (a37 : Bool) (a38 : Bool) (a39 : Int) (a40 : Int) (a41 : Bool) (a42 : Bool) (a43 : Int) (a44 : Int) (a45 : Int) (a46 : List cR) : List D:=[.int .i64 a0,.str a1,.int .i64 a2,.slice false (a3.map cS.d),.slice false (a4.map aF.d),.bool a5,.bool a6,.bool a7,.bool a8,.int .i64 a9,.str a10,.slice false (a11.map cY.d),.int .i64 a12,.str a13,.int .i64 a14,.int .i64 a15,.bool a16,.int .i64 a17,.int .i64 a18,.slice false (a19.map (eInt .i64).d),.slice false (a20.map (eInt .i64).d),.int .i64 a21,.int .i64 a22,.int .i64 a23,.int .i64 a24,.slice false (a25.map nU.d),.slice false (a26.map nV.d),.slice false (a27.map (eInt .i64).d),.slice false (a28.map mR.d),.bool a29,.bool a30,.int .i64 a31,.int .i64 a32,.bool a33,.bool a34,.int .i64 a35,.int .i64 a36,.bool a37,.bool a38,.int .i64 a39,.int .i64 a40,.bool a41,.bool a42,.int .i64 a43,.int .i64 a44,.int .i64 a45,.slice false (a46.map lV.d)]
abbrev w61 (a0 : Int) (a1 : Int) (a2 : Int) (a3 : Int) (a4 : Int) (a5 : Int) (a6 : List UInt8) (a7 : Int) (a8 : List iM) (a9 : List aG) (a10 : Int) (a11 : List UInt8) (a12 : List cE) (a13 : Int) (a14 : Int) (a15 : Bool) (a16 : Int) (a17 : Int) (a18 : Int) (a19 : Int) (a20 : Int) (a21 : Int) (a22 : Int) (a23 : Int) (a24 : Int) (a25 : Bool) : List D:=[.int .u8 a0,.int .i64 a1,.int .i64 a2,.int .u32 a3,.int .u32 a4,.int .i64 a5,.str a6,.int .i64 a7,.slice false (a8.map jP.d),.slice false (a9.map aF.d),.int .i64 a10,.str a11,.slice false (a12.map cY.d),.int .i64 a13,.int .i64 a14,.bool a15,.int .i64 a16,.int .i64 a17,.int .i64 a18,.int .i64 a19,.int .i64 a20,.int .i64 a21,.int .i64 a22,.int .i64 a23,.int .i64 a24,.bool a25]
abbrev w62 (a0 : Int) (a1 : List UInt8) (a2 : Int) (a3 : List bX) (a4 : List aG) (a5 : Bool) (a6 : Bool) (a7 : Bool) (a8 : Bool) (a9 : Int) (a10 : List UInt8) (a11 : List cE) (a12 : Int) (a13 : List UInt8) (a14 : Int) (a15 : Int) : List D:=[.int .i64 a0,.str a1,.int .i64 a2,.slice false (a3.map cS.d),.slice false (a4.map aF.d),.bool a5,.bool a6,.bool a7,.bool a8,.int .i64 a9,.str a10,.slice false (a11.map cY.d),.int .i64 a12,.str a13,.int .i64 a14,.int .i64 a15]
abbrev w63 (a0 : Bool) (a1 : Bool) (a2 : Int) (a3 : Int) (a4 : Bool) (a5 : Bool) (a6 : Int) (a7 : Int) (a8 : Bool) (a9 : Bool) (a10 : Int) (a11 : Int) (a12 : Bool) (a13 : Bool) (a14 : Int) (a15 : Int) (a16 : Int) (a17 : List cR) : List D:=[.bool a0,.bool a1,.int .i64 a2,.int .i64 a3,.bool a4,.bool a5,.int .i64 a6,.int .i64 a7,.bool a8,.bool a9,.int .i64 a10,.int .i64 a11,.bool a12,.bool a13,.int .i64 a14,.int .i64 a15,.int .i64 a16,.slice false (a17.map lV.d)]
abbrev w64 (a0 : Int) (a1 : Int) (a2 : Int) (a3 : Int) (a4 : Int) (a5 : Int) (a6 : Int) (a7 : Int) (a8 : Int) (a9 : Int) (a10 : Int) (a11 : Bool) (a12 : Bool) (a13 : Bool) (a14 : Bool) (a15 : Bool) : List D:=[.int .i64 a0,.int .i64 a1,.int .i64 a2,.int .i64 a3,.int .i64 a4,.int .i64 a5,.int .i64 a6,.int .i64 a7,.int .i64 a8,.int .u32 a9,.int .u32 a10,.bool a11,.bool a12,.bool a13,.bool a14,.bool a15]
abbrev w65 (a0 : Bool) (a1 : Int) (a2 : Int) (a3 : List Int) (a4 : List Int) (a5 : Int) (a6 : Int) (a7 : Int) (a8 : Int) : List D:=[.bool a0,.int .i64 a1,.int .i64 a2,.slice false (a3.map (eInt .i64).d),.slice false (a4.map (eInt .i64).d),.int .i64 a5,.int .i64 a6,.int .i64 a7,.int .i64 a8]
abbrev w66 (a0 : Int) (a1 : Int) (a2 : Int) (a3 : Int) (a4 : Int) (a5 : Int) (a6 : Int) (a7 : Int) (a8 : Int) (a9 : Int) (a10 : Int) : List D:=[.int .i64 a0,.int .i64 a1,.int .i64 a2,.int .i64 a3,.int .i64 a4,.int .i64 a5,.int .i64 a6,.int .i64 a7,.int .i64 a8,.int .u32 a9,.int .u32 a10]
abbrev w67 (a0 : Int) (a1 : Bool) (a2 : Int) (a3 : Int) (a4 : Int) (a5 : Int) (a6 : Int) (a7 : Int) (a8 : List aT) (a9 : List UInt8) : List D:=[.int .u8 a0,.bool a1,.int .i64 a2,.int .i64 a3,.int .i64 a4,.int .i64 a5,.int .i64 a6,.int .i64 a7,.slice false (a8.map bA.d),.str a9]
abbrev w68 (a0 : Int) (a1 : List UInt8) (a2 : Int) (a3 : List bX) (a4 : List aG) (a5 : Bool) (a6 : Bool) (a7 : Bool) (a8 : Bool) : List D:=[.int .i64 a0,.str a1,.int .i64 a2,.slice false (a3.map cS.d),.slice false (a4.map aF.d),.bool a5,.bool a6,.bool a7,.bool a8]
abbrev w69 (a0 : Int) (a1 : List UInt8) (a2 : Int) (a3 : List iM) (a4 : List aG) : List D:=[.int .i64 a0,.str a1,.int .i64 a2,.slice false (a3.map jP.d),.slice false (a4.map aF.d)]
abbrev w70 (a0 : Int) (a1 : List UInt8) (a2 : Int) (a3 : D) (a4 : List aG) (a5 : Bool) (a6 : Bool) (a7 : Bool) (a8 : Bool) : List D:=[.int .i64 a0,.str a1,.int .i64 a2,a3,.slice false (a4.map aF.d),.bool a5,.bool a6,.bool a7,.bool a8]
abbrev w71 (a0 : Int) (a1 : Int) (a2 : List fY) (a3 : Int) (a4 : Int) : List D:=[.int .i64 a0,.int .i64 a1,.slice false (a2.map nW.d),.int .i64 a3,.int .i64 a4]
abbrev w72 (a0 : Int) (a1 : Int) (a2 : Int) (a3 : Int) (a4 : Int) : List D:=[.int .u8 a0,.int .i64 a1,.int .i64 a2,.int .u32 a3,.int .u32 a4]
abbrev w73 (a0 : Int) (a1 : Int) (a2 : Int) (a3 : Int) : List D:=[.int .i64 a0,.int .i64 a1,.int .i64 a2,.int .i64 a3]
abbrev zs0 : List D:=w66 0 0 0 0 0 0 0 0 0 0 0
abbrev zs1 : List D:=w68 0 [] 0 ([] : List bX) ([] : List aG) false false false false
abbrev zs2 : List D:=w62 0 [] 0 ([] : List bX) ([] : List aG) false false false false 0 [] ([] : List cE) 0 [] 0 0
abbrev zs3 : List D:=w69 0 [] 0 ([] : List iM) ([] : List aG)
abbrev zs4 : List D:=w61 0 0 0 0 0 0 [] 0 ([] : List iM) ([] : List aG) 0 [] ([] : List cE) 0 0 false 0 0 0 0 0 0 0 0 0 false
abbrev zs5 : List D:=w65 false 0 0 ([] : List Int) ([] : List Int) 0 0 0 0
abbrev zs6 : List D:=w67 0 false 0 0 0 0 0 0 ([] : List aT) []
def un3:=@Tryz.underlying3
def un4:=@Tryz.underlying4
def un5:=@Tryz.underlying5
def un9:=@Tryz.underlying9
def un24:=@Tryz.underlying24
def un25:=@Tryz.underlying25
def un26:=@Tryz.underlying26
def un28:=@Tryz.underlying28
def un29:=@Tryz.underlying29
def un30:=@Tryz.underlying30
def un32:=@Tryz.underlying32
def un34:=@Tryz.underlying34
def un53:=@Tryz.underlying53
def un70:=@Tryz.underlying70
def un71:=@Tryz.underlying71
def un72:=@Tryz.underlying72
def un75:=@Tryz.underlying75
def un79:=@Tryz.underlying79
def un83:=@Tryz.underlying83
def un85:=@Tryz.underlying85
def un87:=@Tryz.underlying87
def un88:=@Tryz.underlying88
def un90:=@Tryz.underlying90
def un92:=@Tryz.underlying92
def un94:=@Tryz.underlying94
def un96:=@Tryz.underlying96
def un98:=@Tryz.underlying98
def xG:=@Tryz.underlying110
def aBZ:=@Tryz.underlying119
def xF:=@Tryz.underlying123
def rF:=@Tryz.underlying129
def pN:=@Tryz.underlying132
def pS:=@Tryz.underlying145
def dW:=@Tryz.underlying148
def uA:=@Tryz.underlying180
def aEG:=@Tryz.underlying213
def rO:=@Tryz.underlying233
def oF:=@Tryz.underlying241
def nY:=@Tryz.underlying249
def aAI:=@Tryz.underlying258
def aEF:=@Tryz.underlying260


theorem uU (a0 : bF) (r : bF) (h : lL a0 = some r) : bR Tryz.prog 4 [.agg (tv4 a0)] (.agg (tv4 r)):=by
 refine aN (rs:=[.agg (tv4 r)]) Tryz.func4 rfl Tryz.ntmps4 (nle rfl) rfl fun O hO=>?_
 show IWP _ _ _ _ ⟨[(0,.agg (tv4 a0))],[]⟩ _
 unfold lL at h
 refine aC (cBx (cs:=q30) q30 0 rfl <|aA rfl (aZ (cs:=q30) (cs':=zs0) 1 rfl rfl (lb rfl) rfl ti32 rfl rfl (.all _)) <|aB ?_)
 refine aC (cFa 0 un28 rfl ti3 rfl <|cLd (d:=.int _ _) un3 ag3 ti3 rfl <|cFa 9 un28 rfl ti26 rfl <|cLr q52 la26 rfl <|aA rfl (aY (cs:=q30) rfl rfl (lb rfl) un32 ti32 pl32 rfl (.cons (svI rfl) (.cons (svA q52 rfl) .nil)) rfl) <|aA rfl (aZ (cs:=q30) (cs':=zs0) 2 rfl rfl (lb rfl) rfl ti32 rfl rfl (.all _)) <|cSt q30 q30 ti32 rfl <|aB ?_)
 refine eI rfl [nd1 [1] 9 (.ref 0 1),nd1 [9] 10 (.ref 0 1),nd2 [10] [0] 11 (.agg (tv14 a0.Values.c0)),nd1 [1] 12 (.ref 0 1),nd1 [12] 13 (.ref 0 5),nd2 [13] [0] 14 (.agg (tv14 a0.Values.c1)),nd1 [3] 15 (.ref 2 1),nd1 [15] 16 (.ref 2 1),⟨[11,16],[2],[],[(2,.blk 32 (w66 a0.Paths a0.Values.c0.Streams a0.Values.c0.Window a0.Values.c0.Whole a0.Values.c0.Chunk 0 0 0 0 a0.First.c0 a0.First.c1))]⟩,nd1 [3] 17 (.ref 2 1),nd1 [17] 18 (.ref 2 5),⟨[14,18],[2],[],[(2,.blk 32 (tv4 a0))]⟩] rfl ?_ (by kernel_rfl) ?_
 ·refine .cons (dFa 1 un28 rfl ti24 rfl) <| .cons (lop rfl rfl fun S hA=>(eT rfl rfl (lb rfl) un24 ti23 (svaR hA rfl rfl) (sv (d:=.int _ 0) rfl) (by decide) (by decide) (off':=1) rfl)) <| .cons (dLa Tryz.underlying23 ag23 ti23 rfl) <| .cons (dFa 1 un28 rfl ti24 rfl) <| .cons (lop rfl rfl fun S hA=>(eT rfl rfl (lb rfl) un24 ti23 (svaR hA rfl rfl) (sv (d:=.int _ 1) rfl) (by decide) (by decide) (off':=5) rfl)) <| .cons (dLa Tryz.underlying23 ag23 ti23 rfl) <| .cons (dFa 1 un32 rfl ti30 rfl) <| .cons (lop rfl rfl fun S hA=>(eT rfl rfl (lb rfl) un30 ti29 (svaR hA rfl rfl) (sv (d:=.int _ 0) rfl) (by decide) (by decide) (off':=1) rfl)) <| .cons (dSt q43 ti29 rfl) <| .cons (dFa 1 un32 rfl ti30 rfl) <| .cons (lop rfl rfl fun S hA=>(eT rfl rfl (lb rfl) un30 ti29 (svaR hA rfl rfl) (sv (d:=.int _ 1) rfl) (by decide) (by decide) (off':=5) rfl)) <| .cons (dSt q43 ti29 rfl) ?_
  exact .nil
 refine aC (cLr q30 la32 rfl <|cSt q30 q30 ti32 rfl <|aB ?_)
 refine aI ?_
 obtain rfl:=Option.some.inj h
 refine ⟨.inr rfl,(.cons (rva la32 rfl rfl (nle rfl) rfl) .nil)⟩

theorem nD (a0 : bL) (r : dN) (h : gS a0 = some r) : bR Tryz.prog 20 [.agg (tv14 a0)] (.agg (tv20 r)):=by
 refine aN (rs:=[.agg (tv20 r)]) Tryz.func20 rfl Tryz.ntmps20 (nle rfl) rfl fun O hO=>?_
 show IWP _ _ _ _ ⟨[(0,.agg (tv14 a0))],[]⟩ _
 unfold gS at h
 refine aC (cBx (cs:=q43) q43 0 rfl <|aA rfl (aZ (cs:=q43) (cs':=(w73 0 0 0 0)) 1 rfl rfl (lb rfl) rfl ti75 rfl rfl (.all _)) <|aB ?_)
 refine aC (cFa 0 un29 rfl ti3 rfl <|cLd (d:=.int _ _) un3 ag3 ti3 rfl <|cFa 1 un29 rfl ti3 rfl <|cLd (d:=.int _ _) un3 ag3 ti3 rfl <|cFa 2 un29 rfl ti3 rfl <|cLd (d:=.int _ _) un3 ag3 ti3 rfl <|cFa 3 un29 rfl ti3 rfl <|cLd (d:=.int _ _) un3 ag3 ti3 rfl <|aA rfl (iY (cs:=q43) rfl rfl (lb rfl) un75 ti75 ti3 rfl (.cons (svI rfl) (.cons (svI rfl) (.cons (svI rfl) (.cons (svI rfl) .nil)))) rfl) <|cSt q43 q43 ti75 rfl <|aB ?_)
 refine aI ?_
 obtain rfl:=Option.some.inj h
 refine ⟨.inr rfl,(.cons (rva la75 rfl rfl (nle rfl) rfl) .nil)⟩

theorem aCV  (r : (dN × dN)) (h : uB = some r) : bR Tryz.prog 37 [] (retD [.agg (tv20 r.1),.agg (tv20 r.2)]):=by
 refine aN (rs:=[.agg (tv20 r.1),.agg (tv20 r.2)]) Tryz.func37 rfl Tryz.ntmps37 (nle rfl) rfl fun O hO=>?_
 show IWP _ _ _ _ ⟨[],[]⟩ _
 unfold uB at h
 refine aC (aA rfl (aZ (cs:=q43) (cs':=(w73 0 0 0 0)) 0 rfl rfl (lb rfl) rfl ti75 rfl rfl (.all _)) <|aA rfl (aZ (cs:=q43) (cs':=(w73 0 0 0 0)) 1 rfl rfl (lb rfl) rfl ti75 rfl rfl (.all _)) <|aB ?_)
 refine aC (aA rfl (iY (cs:=q43) rfl rfl (lb rfl) un75 ti75 ti3 rfl (.cons (sv (d:=.int _ 0) rfl) (.cons (sv (d:=.int _ 1) rfl) (.cons (sv (d:=.int _ 1) rfl) (.cons (sv (d:=.int _ 1) rfl) .nil)))) rfl) <|aA rfl (iY (cs:=q43) rfl rfl (lb rfl) un75 ti75 ti3 rfl (.cons (sv (d:=.int _ 8) rfl) (.cons (sv (d:=.int _ 4096) rfl) (.cons (sv (d:=.int _ 1048576) rfl) (.cons (sv (d:=.int _ 32) rfl) .nil)))) rfl) <|cSt q43 q43 ti75 rfl <|cSt q43 q43 ti75 rfl <|aB ?_)
 refine aI ?_
 obtain rfl:=Option.some.inj h
 refine ⟨.inr rfl,(.cons (rva la75 rfl rfl (nle rfl) rfl) (.cons (rva la75 rfl rfl (nle rfl) rfl) .nil))⟩

theorem zA (a0 : dN) (r : dN) (h : lW a0 = some r) : bR Tryz.prog 21 [.agg (tv20 a0)] (.agg (tv20 r)):=by
 refine aN (rs:=[.agg (tv20 r)]) Tryz.func21 rfl Tryz.ntmps21 (nle rfl) rfl fun O hO=>?_
 show IWP _ _ _ _ ⟨[(0,.agg (tv20 a0))],[]⟩ _
 unfold lW at h
 refine aC (cBx (cs:=q43) q43 0 rfl <|aA rfl (aZ (cs:=q43) (cs':=(w73 0 0 0 0)) 1 rfl rfl (lb rfl) rfl ti75 rfl rfl (.all _)) <|aB ?_)
 obtain ⟨x1,hx1,h⟩:=bT h
 refine aC (aA rfl (aL (r:=.tuple [.agg q43,.agg q43]) rfl rfl (lb rfl) cl37 .nil rfl (aCV  _ hx1)) <|cMv (.tuple [.agg q43,.agg q43]) rfl <|aA rfl (dL (d:=.agg q43) rfl rfl (lb rfl) (sv (d:=.tuple [.agg q43,.agg q43]) rfl) rfl) <|aA rfl (dL (d:=.agg q43) rfl rfl (lb rfl) (sv (d:=.tuple [.agg q43,.agg q43]) rfl) rfl) <|aA rfl (aZ (cs:=q43) (cs':=(w73 0 0 0 0)) 2 rfl rfl (lb rfl) rfl ti75 rfl rfl (.all _)) <|aA rfl (aZ (cs:=q43) (cs':=(w73 0 0 0 0)) 3 rfl rfl (lb rfl) rfl ti75 rfl rfl (.all _)) <|cSt q43 q43 ti75 rfl <|cSt q43 q43 ti75 rfl <|aB ?_)
 refine aK <| aC (cLr q43 la75 rfl <|cMv (.int _ 0) rfl <|aB ?_)
 refine aU <| cP (α:=Nat × Int × Int × Int × Int × Int) (fun z=>⟨[(1,.ref 0 0),(2,.ref 1 0),(3,.ref 2 0),(4,.ref 3 0),(11,.agg (tv20 a0)),(12,.int .i64 z.2.1)],[(0,.blk 75 (w73 z.2.2.1 z.2.2.2.1 z.2.2.2.2.1 z.2.2.2.2.2)),(1,.blk 75 (w73 0 0 0 0)),(2,.blk 75 (tv20 x1.1)),(3,.blk 75 (tv20 x1.2))]⟩) (fun z=>jQ a0 x1 z.1 z.2.1 z.2.2.1 z.2.2.2.1 z.2.2.2.2.1 z.2.2.2.2.2 = some r) (fun z=>z.1) (fuel,0,a0.c0,a0.c1,a0.c2,a0.c3) (fun i=>i) ⟨(.sames rfl rfl),(.cons (.blk rfl rfl rfl) (.cons (.blk rfl rfl rfl) (.cons (.blk rfl rfl rfl) (.cons (.blk rfl rfl rfl) .nil)))),bS [0,1,2,3] rfl (by decide),fun _ _=>rfl⟩ ?_ ?_
 ·exact h
 ·
  rintro ⟨n0,v7,v8,v24,v25,v26⟩ h
  cases n0 with
  | zero=>exact absurd h (by unfold jQ; exact nofun)
  | succ n0 =>
   unfold jQ at h
   obtain ⟨x42,hx42,h⟩:=bE h
   refine aC (cCm (b:=4) rfl hx42 <|aB ?_)
   refine aK <| aH h rfl (fun h=>?_) (fun h=>?_)
   ·
    refine aJ <| aE <| aK <| aU ?_
    obtain ⟨x44,hx44,h⟩:=bT h
    refine aC (cI rfl <|aA rfl (sD (eInt .i64) (d:=.int _ _) rfl rfl (lb rfl) un75 un3 ag3 ti3 (svA q43 rfl) (svI rfl) hx44 rfl ⟨rfl,⟨rfl,⟨rfl,⟨rfl,trivial⟩⟩⟩⟩ rfl) <|cAI rfl <|cAI rfl <|aB ?_)
    obtain ⟨hk45,h⟩:=tF h
    obtain ⟨x46,hx46,h⟩:=bT h
    obtain ⟨hk47,h⟩:=tF h
    obtain ⟨x48,hx48,x49,hx49,x50,hx50,h⟩:=eodd h
    obtain ⟨hk51,h⟩:=tF h
    obtain ⟨x52,hx52,x53,hx53,x54,hx54,h⟩:=eddd h
    obtain ⟨x55,hx55,h⟩:=bE h
    refine sQ rfl [nd1 [5] 16 (.int .i64 v7),nd1 [5] 17 (.int .i64 v7),nd1 [3,17] 18 (.ref 2 (0 + (v7 : Int).toNat * 1 + 0)),nd2 [18] [2] 19 (.int .i64 x46),nd1 [6] 20 (.int .i64 x44),nd1 [5] 21 (.int .i64 v7),nd1 [4,21] 22 (.ref 3 (0 + (v7 : Int).toNat * 1 + 0)),nd2 [22] [3] 23 (.int .i64 x48),nd1 [20,23] 24 (.int .i64 x49),nd1 [19,24] 25 (.int .i64 x50),nd1 [1,16] 26 (.ref 0 (0 + (v7 : Int).toNat * 1 + 0)),⟨[25,26],[0],[],[(0,.blk 75 (w73 x52 x53 x54 x55))]⟩] rfl ?_ (by kernel_rfl) ?_
    ·refine .cons (dMv rfl) <| .cons (dMv rfl) <| .cons (lop rfl rfl fun S hA=>(fE rfl rfl (lb rfl) un75 ti3 (svaR hA rfl rfl) (svaI hA rfl rfl) hk45)) <| .cons (lop rfl rfl fun S hA=>(lF (eInt .i64) (b:=0) (k:=0) (sz:=1) (d:=.int _ _) rfl rfl (lb rfl) un3 ag3 ti3 (svaR hA rfl rfl) (agi hA rfl rfl) hx46 ⟨rfl,⟨rfl,⟨rfl,⟨rfl,trivial⟩⟩⟩⟩ rfl)) <| .cons (dMv rfl) <| .cons (dMv rfl) <| .cons (lop rfl rfl fun S hA=>(fE rfl rfl (lb rfl) un75 ti3 (svaR hA rfl rfl) (svaI hA rfl rfl) hk47)) <| .cons (lop rfl rfl fun S hA=>(lF (eInt .i64) (b:=0) (k:=0) (sz:=1) (d:=.int _ _) rfl rfl (lb rfl) un3 ag3 ti3 (svaR hA rfl rfl) (agi hA rfl rfl) hx48 ⟨rfl,⟨rfl,⟨rfl,⟨rfl,trivial⟩⟩⟩⟩ rfl)) <| .cons (lop rfl rfl fun S hA=>(sT rfl rfl (lb rfl) (svaI hA rfl rfl) (svaI hA rfl rfl) hx49)) <| .cons (lop rfl rfl fun S hA=>(xX rfl rfl (lb rfl) (svaI hA rfl rfl) (svaI hA rfl rfl) hx50)) <| .cons (lop rfl rfl fun S hA=>(fE rfl rfl (lb rfl) un75 ti3 (svaR hA rfl rfl) (svaI hA rfl rfl) hk51)) <| .cons (lop rfl rfl fun S hA=>(mK (b:=0) (k:=0) (sz:=1) (cs':=(w73 x52 x53 x54 x55)) rfl rfl ti3 (svaR hA rfl rfl) (agi hA rfl rfl) (svaI hA rfl rfl) rfl rfl rfl hk51 rfl ⟨⟨⟨⟨trivial,fun h=>by rw [← hx52,← hx53,← hx54,← hx55,h]; rfl⟩,fun h=>by rw [← hx52,← hx53,← hx54,← hx55,h]; rfl⟩,fun h=>by rw [← hx52,← hx53,← hx54,← hx55,h]; rfl⟩,fun h=>by rw [← hx52,← hx53,← hx54,← hx55,h]; rfl⟩)) ?_
     exact .nil
    refine bM <| aE ?_
    obtain ⟨x56,hx56,h⟩:=bE h
    refine aR (aA rfl (bB rfl rfl (lb rfl) (svI rfl) (sv (d:=.int _ 1) rfl) rfl hx56) <|cI rfl <|bK ?_)
    refine aE ⟨(n0,x56,x52,x53,x54,x55),(fun i=>i),⟨(.sames rfl rfl),(.cons (.blk rfl rfl rfl) (.cons (.blk rfl rfl rfl) (.cons (.blk rfl rfl rfl) (.cons (.blk rfl rfl rfl) .nil)))),bS [0,1,2,3] rfl (by decide),fun _ _=>rfl⟩,?_,?_⟩
    exact h
    exact Nat.lt_succ_self _
   ·
    refine cC <| aW <| aW <| cD <| aE <| aC (cLr q43 la75 rfl <|cSt q43 q43 ti75 rfl <|aB ?_)
    refine aI ?_
    obtain rfl:=Option.some.inj h
    refine ⟨.inr rfl,(.cons (rva la75 rfl rfl (nle rfl) rfl) .nil)⟩

theorem pH (a0 : bL) (r : Int) (h : kN a0 = some r) : bR Tryz.prog 13 [.agg (tv14 a0)] (.int .i64 r):=by
 refine aN (rs:=[.int .i64 r]) Tryz.func13 rfl Tryz.ntmps13 (nle rfl) rfl fun O hO=>?_
 show IWP _ _ _ _ ⟨[(0,.agg (tv14 a0))],[]⟩ _
 unfold kN at h
 refine aC (cBx (cs:=q43) q43 0 rfl <|cAs (.int _ 0) rfl <|aB ?_)
 refine aK ?_
 obtain ⟨x1,hx1,h⟩:=bT h
 refine aC (cLr q43 la29 rfl <|aA rfl (aL (r:=.agg q43) rfl rfl (lb rfl) cl20 (.cons (svA q43 rfl) .nil) rfl (nD _ _ hx1)) <|aA rfl (aZ (cs:=q43) (cs':=(w73 0 0 0 0)) 1 rfl rfl (lb rfl) rfl ti75 rfl rfl (.all _)) <|cSt q43 q43 ti75 rfl <|aB ?_)
 obtain ⟨x2,hx2,x3,hx3,h⟩:=eod h
 refine eI rfl [nd2 [3] [1] 6 (.agg (tv20 x1)),nd2 [3] [1] 7 (.agg (tv20 x1)),nd1 [7] 8 (.agg (tv20 x2)),nd1 [6,8] 9 (.bool (!x3))] rfl ?_ (by kernel_rfl) ?_
 ·refine .cons (dLa un75 ag75 ti75 rfl) <| .cons (dLa un75 ag75 ti75 rfl) <| .cons (lop rfl rfl fun S hA=>(aL (r:=.agg q43) rfl rfl (lb rfl) cl21 (.cons (svaA q43 hA rfl rfl) .nil) rfl (zA _ _ hx2))) <| .cons (lop rfl rfl fun S hA=>(iop_net rfl rfl (lb rfl) st75.2 (svaA q43 hA rfl rfl) (svaA q43 hA rfl rfl) (Eq.trans (by kernel_rfl) (congrArg some hx3)))) ?_
  exact .nil
 refine aH h rfl (fun h=>?_) (fun h=>?_)
 ·
  refine aC (cAs (.int _ 8) rfl <|aB ?_)
  refine aI <| aQ ?_
  obtain rfl:=Option.some.inj h
  refine ⟨.inr rfl,(.cons (sv rfl) .nil)⟩
 ·
  refine aJ <| aE <| aC (cAs (.int _ 0) rfl <|aB ?_)
  refine aI ?_
  obtain rfl:=Option.some.inj h
  refine ⟨.inr rfl,(.cons (sv rfl) .nil)⟩

theorem lD (a0 : bF) (r : Int) (h : gR a0 = some r) : bR Tryz.prog 6 [.agg (tv4 a0)] (.int .i64 r):=by
 refine aN (rs:=[.int .i64 r]) Tryz.func6 rfl Tryz.ntmps6 (nle rfl) rfl fun O hO=>?_
 show IWP _ _ _ _ ⟨[(0,.agg (tv4 a0))],[]⟩ _
 unfold gR at h
 refine aC (cBx (cs:=q30) q30 0 rfl <|cAs (.int _ 0) rfl <|aB ?_)
 refine aK ?_
 obtain ⟨x1,hx1,x2,hx2,x3,hx3,h⟩:=eddd h
 refine aC (cFa 0 un32 rfl ti3 rfl <|cLd (d:=.int _ _) un3 ag3 ti3 rfl <|cCm (b:=1) rfl hx1 <|cB rfl <|gG rfl (fun hb=>(tFa 0 un32 rfl ti3 rfl)) <|gG rfl (fun hb=>(tLc (d:=.int _ _) un3 ag3 ti3 rfl hb)) <|gG rfl (fun hb=>(tCg (b:=4) rfl hb hx2)) <|cOr rfl hx3 <|aB ?_)
 refine aH h rfl (fun h=>?_) (fun h=>?_)
 ·
  refine aC (cAs (.int _ 8) rfl <|aB ?_)
  refine aI <| aQ ?_
  obtain rfl:=Option.some.inj h
  refine ⟨.inr rfl,(.cons (sv rfl) .nil)⟩
 ·
  refine aJ <| aE <| aK <| aC (cFa 1 un32 rfl ti30 rfl <|cLr q37 la30 rfl <|cMv (.int _ 0) rfl <|aB ?_)
  refine aU <| cP (α:=Nat × Int) (fun z=>⟨[(15,.agg (tv8 a0.Values)),(16,.int .i64 z.2)],[]⟩) (fun z=>fX a0 z.1 z.2 = some r) (fun z=>z.1) (fuel,0) (fun i=>i) ⟨(.sames rfl rfl),.nil,bS [] rfl (by decide),fun _ _=>rfl⟩ ?_ ?_
  ·exact h
  ·
   rintro ⟨n0,v11⟩ h
   cases n0 with
   | zero=>exact absurd h (by unfold fX; exact nofun)
   | succ n0 =>
    unfold fX at h
    obtain ⟨x19,hx19,h⟩:=bE h
    refine aC (cCm (b:=2) rfl hx19 <|aB ?_)
    refine aK <| aH h rfl (fun h=>?_) (fun h=>?_)
    ·
     refine aJ <| aE <| aK <| aU ?_
     obtain ⟨x21,hx21,h⟩:=bT h
     refine aC (aA rfl (sE oN (ds:=q43) rfl rfl (lb rfl) un30 un29 ag29 ti29 (by decide) (svA q37 rfl) (svI rfl) hx21 rfl ⟨rfl,⟨rfl,trivial⟩⟩ rfl rfl) <|aA rfl (aZ (cs:=q43) (cs':=(w73 0 0 0 0)) 0 rfl rfl (lb rfl) rfl ti29 rfl rfl (.all _)) <|cSt q43 q43 ti29 rfl <|aB ?_)
     obtain ⟨x22,hx22,h⟩:=bT h
     refine aC (cLr q43 la29 rfl <|aA rfl (aL (r:=.int _ _) rfl rfl (lb rfl) cl13 (.cons (svA q43 rfl) .nil) rfl (pH _ _ hx22)) <|cAI rfl <|aB ?_)
     obtain ⟨x23,hx23,h⟩:=bE h
     refine aC (cI rfl <|cCm (b:=0) rfl hx23 <|aB ?_)
     refine aH h rfl (fun h=>?_) (fun h=>?_)
     ·
      refine aC (cI rfl <|cAI rfl <|aB ?_)
      refine aI <| bJ <| aQ <| aQ <| bJ <| aQ ?_
      obtain rfl:=Option.some.inj h
      refine ⟨.inr rfl,(.cons (sv rfl) .nil)⟩
     ·
      refine aJ <| bM <| aE ?_
      obtain ⟨x25,hx25,h⟩:=bE h
      refine aR (aA rfl (bB rfl rfl (lb rfl) (svI rfl) (sv (d:=.int _ 1) rfl) rfl hx25) <|cI rfl <|bK ?_)
      refine aE ⟨(n0,x25),(fun i=>i),⟨(.sames rfl rfl),.nil,bS [] rfl (by decide),fun _ _=>rfl⟩,?_,?_⟩
      exact h
      exact Nat.lt_succ_self _
    ·
     refine cC <| aW <| aW <| cD <| aE <| aC (cAs (.int _ 0) rfl <|aB ?_)
     refine aI ?_
     obtain rfl:=Option.some.inj h
     refine ⟨.inr rfl,(.cons (sv rfl) .nil)⟩

theorem aAK (a0 : Int) (r : (List UInt8)) (h : strconv_Itoa a0 = some r) : bR Tryz.prog 19 [.int .i64 a0] (.str r):=p_itoa a0 r h

theorem qT (a0 : (List UInt8)) (a1 : (List Int)) (r : (List UInt8)) (h : gJ a0 a1 = some r) : bR Tryz.prog 12 [.str a0,.slice false (a1.map (eInt .i64).d)] (.str r):=by
 refine aN (rs:=[.str r]) Tryz.func12 rfl Tryz.ntmps12 (nle rfl) rfl fun O hO=>?_
 show IWP _ _ _ _ ⟨[(0,.str a0),(1,.slice false (a1.map (eInt .i64).d))],[]⟩ _
 unfold gJ at h
 refine aC (cAs (.str []) rfl <|aB ?_)
 refine aK <| aC (aA rfl (mvL rfl rfl rfl rfl) <|aA rfl (dD (eInt .i64) (l:=a1) rfl rfl (lb rfl) un72 (svL rfl)) <|cMv (.int _ 0) rfl <|aB ?_)
 refine aU <| cP (α:=Nat × (List UInt8) × Int) (fun z=>⟨[(0,.str z.2.1),(7,.slice false (a1.map (eInt .i64).d)),(8,.int .i64 (a1.length : Int)),(9,.int .i64 z.2.2)],[]⟩) (fun z=>gQ a1 z.1 z.2.1 z.2.2 = some r) (fun z=>z.1) (fuel,a0,0) (fun i=>i) ⟨(.sames rfl rfl),.nil,bS [] rfl (by decide),fun _ _=>rfl⟩ ?_ ?_
 ·exact h
 ·
  rintro ⟨n0,v8,v9⟩ h
  cases n0 with
  | zero=>exact absurd h (by unfold gQ; exact nofun)
  | succ n0 =>
   unfold gQ at h
   obtain ⟨x17,hx17,h⟩:=bE h
   refine aC (cCm rfl hx17 <|aB ?_)
   refine aK <| aH h rfl (fun h=>?_) (fun h=>?_)
   ·
    refine aJ <| aE <| aK <| aU ?_
    obtain ⟨x19,hx19,h⟩:=bT h
    refine aC (aA rfl (cW (eInt .i64) (cs:=[.int _ _]) rfl rfl (lb rfl) un72 ti3 (svL rfl) (svI rfl) hx19 rfl rfl) <|aA rfl (cN rfl rfl (lb rfl) un3 ag3 ti3 (by decide) (sv (d:=.fptr [.int _ _]) rfl) (nle rfl)) <|cAI rfl <|aB ?_)
    obtain ⟨x20,hx20,x21,hx21,x22,hx22,h⟩:=eooo h
    refine aR (cMv (.str _) rfl <|cI rfl <|aA rfl (aL (r:=.str _) rfl rfl (lb rfl) cl19 (.cons (svI rfl) .nil) rfl (aAK _ _ hx20)) <|aA rfl (oJ rfl rfl (lb rfl) (sv (d:=.str [32]) rfl) (sv (d:=.str _) rfl) hx21) <|aA rfl (oJ rfl rfl (lb rfl) (sv (d:=.str _) rfl) (sv (d:=.str _) rfl) hx22) <|cAs (.str _) rfl <|bK ?_)
    refine bM <| aE ?_
    obtain ⟨x23,hx23,h⟩:=bE h
    refine aR (aA rfl (bB rfl rfl (lb rfl) (svI rfl) (sv (d:=.int _ 1) rfl) rfl hx23) <|cI rfl <|bK ?_)
    refine aE ⟨(n0,x22,x23),(fun i=>i),⟨(.sames rfl rfl),.nil,bS [] rfl (by decide),fun _ _=>rfl⟩,?_,?_⟩
    exact h
    exact Nat.lt_succ_self _
   ·
    refine cC <| aW <| aW <| cD <| aE ?_
    obtain ⟨x24,hx24,h⟩:=bT h
    refine aC (cMv (.str _) rfl <|aA rfl (oJ rfl rfl (lb rfl) (sv (d:=.str _) rfl) (sv (d:=.str [10]) rfl) hx24) <|cAs (.str _) rfl <|aB ?_)
    refine aI ?_
    obtain rfl:=Option.some.inj h
    refine ⟨.inr rfl,(.cons (sv rfl) .nil)⟩

theorem pP (a0 : bF) (r : ((List UInt8) × Int)) (h : iH a0 = some r) : bR Tryz.prog 5 [.agg (tv4 a0)] (retD [.str r.1, .int .i64 r.2]) := by
 refine aN (rs:=[.str r.1,.int .i64 r.2]) Tryz.func5 rfl Tryz.ntmps5 (nle rfl) rfl fun O hO=>?_
 show IWP _ _ _ _ ⟨[(0,.agg (tv4 a0))],[]⟩ _
 unfold iH at h
 refine aC (cBx (cs:=q30) q30 0 rfl <|cAs (.str []) rfl <|cAs (.int _ 0) rfl <|aB ?_)
 refine aK ?_
 obtain ⟨x1,hx1,h⟩:=bT h
 refine aC (cLr q30 la32 rfl <|aA rfl (aL (r:=.int _ _) rfl rfl (lb rfl) cl6 (.cons (svA q30 rfl) .nil) rfl (lD _ _ hx1)) <|cAI rfl <|aB ?_)
 obtain ⟨x2,hx2,h⟩:=bE h
 refine aC (cI rfl <|cCm (b:=0) rfl hx2 <|aB ?_)
 refine aH h rfl (fun h=>?_) (fun h=>?_)
 ·
  refine aC (cI rfl <|cAs (.str []) rfl <|cAI rfl <|aB ?_)
  refine aI <| aQ ?_
  obtain rfl:=Option.some.inj h
  refine ⟨.inr rfl,(.cons (sv rfl) (.cons (sv rfl) .nil))⟩
 ·
  refine aJ <| aE ?_
  obtain ⟨x4,hx4,h⟩:=bT h
  refine aC (cFa 0 un32 rfl ti3 rfl <|cLd (d:=.int _ _) un3 ag3 ti3 rfl <|aA rfl (mM (eInt .i64) ([a0.Paths] : (List Int)) 1 rfl rfl (lb rfl) un72 ti3 rfl (.cons (svI rfl) .nil) rfl rfl (by decide)) <|aA rfl (aL (r:=.str _) rfl rfl (lb rfl) cl12 (.cons (sv (d:=.str [112,97,116,104,115]) rfl) (.cons (svg rfl) .nil)) rfl (qT _ _ _ hx4)) <|cAs (.str _) rfl <|aB ?_)
  refine aK <| aC (cFa 1 un32 rfl ti30 rfl <|cLr q37 la30 rfl <|cMv (.int _ 0) rfl <|aB ?_)
  refine aU <| cP (α:=Nat × (List UInt8) × Int) (fun z=>⟨[(1,.ref 0 0),(5,.str z.2.1),(20,.agg (tv8 a0.Values)),(21,.int .i64 z.2.2)],[(0,.blk 32 (tv4 a0))]⟩) (fun z=>fW a0 z.1 z.2.1 z.2.2 = some r) (fun z=>z.1) (fuel,x4,0) (fun i=>i) ⟨(.sames rfl rfl),(.cons (.blk rfl rfl rfl) .nil),bS [0] rfl (by decide),fun _ _=>rfl⟩ ?_ ?_
  ·exact h
  ·
   rintro ⟨n0,v10,v11⟩ h
   cases n0 with
   | zero=>exact absurd h (by unfold fW; exact nofun)
   | succ n0 =>
    unfold fW at h
    obtain ⟨x18,hx18,h⟩:=bE h
    refine aC (cCm (b:=2) rfl hx18 <|aB ?_)
    refine aK <| aH h rfl (fun h=>?_) (fun h=>?_)
    ·
     refine aJ <| aE <| aK <| aU ?_
     obtain ⟨x20,hx20,h⟩:=bT h
     refine aC (cI rfl <|aA rfl (sE oN (ds:=q43) rfl rfl (lb rfl) un30 un29 ag29 ti29 (by decide) (svA q37 rfl) (svI rfl) hx20 rfl ⟨rfl,⟨rfl,trivial⟩⟩ rfl rfl) <|aA rfl (aZ (cs:=q43) (cs':=(w73 0 0 0 0)) 1 rfl rfl (lb rfl) rfl ti29 rfl rfl (.all _)) <|cAI rfl <|cSt q43 q43 ti29 rfl <|aB ?_)
     obtain ⟨x21,hx21,x22,hx22,h⟩:=eoo h
     refine aR (cMv (.str _) rfl <|cI rfl <|cFa 0 un29 rfl ti3 rfl <|cLd (d:=.int _ _) un3 ag3 ti3 rfl <|cFa 1 un29 rfl ti3 rfl <|cLd (d:=.int _ _) un3 ag3 ti3 rfl <|cFa 2 un29 rfl ti3 rfl <|cLd (d:=.int _ _) un3 ag3 ti3 rfl <|cFa 3 un29 rfl ti3 rfl <|cLd (d:=.int _ _) un3 ag3 ti3 rfl <|aA rfl (mM (eInt .i64) ([v11,x20.Streams,x20.Window,x20.Whole,x20.Chunk] : (List Int)) 2 rfl rfl (lb rfl) un72 ti3 rfl (.cons (svI rfl) (.cons (svI rfl) (.cons (svI rfl) (.cons (svI rfl) (.cons (svI rfl) .nil))))) rfl rfl (by decide)) <|aA rfl (aL (r:=.str _) rfl rfl (lb rfl) cl12 (.cons (sv (d:=.str [118,97,108,117,101,115]) rfl) (.cons (svg rfl) .nil)) rfl (qT _ _ _ hx21)) <|aA rfl (oJ rfl rfl (lb rfl) (sv (d:=.str _) rfl) (sv (d:=.str _) rfl) hx22) <|cAs (.str _) rfl <|bK ?_)
     refine bM <| aE ?_
     obtain ⟨x23,hx23,h⟩:=bE h
     refine aR (aA rfl (bB rfl rfl (lb rfl) (svI rfl) (sv (d:=.int _ 1) rfl) rfl hx23) <|cI rfl <|bK ?_)
     refine aE ⟨(n0,x22,x23),(fun i=>i),⟨(.sames rfl rfl),(.cons (.blk rfl rfl rfl) .nil),bS [0] rfl (by decide),fun _ _=>rfl⟩,?_,?_⟩
     exact h
     exact Nat.lt_succ_self _
    ·
     refine cC <| aW <| aW <| cD <| aE <| aK <| aC (cFa 9 un32 rfl ti26 rfl <|cLr q52 la26 rfl <|cMv (.int _ 0) rfl <|aB ?_)
     refine aU <| cP (α:=Nat × (List UInt8) × Int) (fun z=>⟨[(5,.str z.2.1),(40,.agg [.int .u32 a0.First.c0,.int .u32 a0.First.c1]),(41,.int .i64 z.2.2)],[]⟩) (fun z=>fV a0 z.1 z.2.1 z.2.2 = some r) (fun z=>z.1) (fuel,v10,0) (fun i=>i) ⟨(.sames rfl rfl),.nil,bS [] rfl (by decide),fun _ _=>rfl⟩ ?_ ?_
     ·exact h
     ·
      rintro ⟨n1,v30,v31⟩ h
      cases n1 with
      | zero=>exact absurd h (by unfold fV; exact nofun)
      | succ n1 =>
       unfold fV at h
       obtain ⟨x39,hx39,h⟩:=bE h
       refine aC (cCm (b:=2) rfl hx39 <|aB ?_)
       refine aK <| aH h rfl (fun h=>?_) (fun h=>?_)
       ·
        refine aJ <| aE <| aK <| aU ?_
        obtain ⟨x41,hx41,h⟩:=bT h
        refine aC (cI rfl <|aA rfl (sD (eInt .u32) (d:=.int _ _) rfl rfl (lb rfl) un26 un25 ag25 ti25 (svA q52 rfl) (svI rfl) hx41 rfl ⟨rfl,⟨rfl,trivial⟩⟩ rfl) <|cAI rfl <|cAI rfl <|aB ?_)
        obtain ⟨x42,hx42,x43,hx43,x44,hx44,h⟩:=edoo h
        refine aR (cMv (.str _) rfl <|cI rfl <|cI rfl <|aA rfl (eJ rfl rfl (lb rfl) ⟨_,un25⟩ un3 (svI rfl) hx42) <|aA rfl (mM (eInt .i64) ([v31,x42] : (List Int)) 0 rfl rfl (lb rfl) un72 ti3 rfl (.cons (svI rfl) (.cons (svI rfl) .nil)) rfl rfl (by decide)) <|aA rfl (aL (r:=.str _) rfl rfl (lb rfl) cl12 (.cons (sv (d:=.str [102,105,114,115,116]) rfl) (.cons (svg rfl) .nil)) rfl (qT _ _ _ hx43)) <|aA rfl (oJ rfl rfl (lb rfl) (sv (d:=.str _) rfl) (sv (d:=.str _) rfl) hx44) <|cAs (.str _) rfl <|bK ?_)
        refine bM <| aE ?_
        obtain ⟨x45,hx45,h⟩:=bE h
        refine aR (aA rfl (bB rfl rfl (lb rfl) (svI rfl) (sv (d:=.int _ 1) rfl) rfl hx45) <|cI rfl <|bK ?_)
        refine aE ⟨(n1,x44,x45),(fun i=>i),⟨(.sames rfl rfl),.nil,bS [] rfl (by decide),fun _ _=>rfl⟩,?_,?_⟩
        exact h
        exact Nat.lt_succ_self _
       ·
        refine cC <| aW <| aW <| cD <| aE <| aC (cMv (.str _) rfl <|cAs (.str _) rfl <|cAs (.int _ 0) rfl <|aB ?_)
        refine aI ?_
        obtain rfl:=Option.some.inj h
        refine ⟨.inr rfl,(.cons (sv rfl) (.cons (sv rfl) .nil))⟩

theorem wW  (r : bL) (h : pT = some r) : bR Tryz.prog 22 [] (.agg (tv14 r)):=by
 refine aN (rs:=[.agg (tv14 r)]) Tryz.func22 rfl Tryz.ntmps22 (nle rfl) rfl fun O hO=>?_
 show IWP _ _ _ _ ⟨[],[]⟩ _
 unfold pT at h
 refine aC (aA rfl (aZ (cs:=q43) (cs':=(w73 0 0 0 0)) 0 rfl rfl (lb rfl) rfl ti29 rfl rfl (.all _)) <|aB ?_)
 refine aC (aA rfl (aY (cs:=q43) rfl rfl (lb rfl) un29 ti29 pl29 rfl (.cons (sv (d:=.int _ 8) rfl) (.cons (sv (d:=.int _ 256) rfl) (.cons (sv (d:=.int _ 4096) rfl) (.cons (sv (d:=.int _ 32) rfl) .nil)))) rfl) <|cSt q43 q43 ti29 rfl <|aB ?_)
 refine aI ?_
 obtain rfl:=Option.some.inj h
 refine ⟨.inr rfl,(.cons (rva la29 rfl rfl (nle rfl) rfl) .nil)⟩

theorem tM  (r : bF) (h : nS = some r) : bR Tryz.prog 14 [] (.agg (tv4 r)):=by
 refine aN (rs:=[.agg (tv4 r)]) Tryz.func14 rfl Tryz.ntmps14 (nle rfl) rfl fun O hO=>?_
 show IWP _ _ _ _ ⟨[],[]⟩ _
 unfold nS at h
 refine aC (aA rfl (aZ (cs:=q30) (cs':=zs0) 0 rfl rfl (lb rfl) rfl ti32 rfl rfl (.all _)) <|aB ?_)
 obtain ⟨x1,hx1,h⟩:=bT h
 refine aC (aA rfl (aL (r:=.agg q43) rfl rfl (lb rfl) cl22 .nil rfl (wW  _ hx1)) <|aA rfl (aZ (cs:=q43) (cs':=(w73 0 0 0 0)) 1 rfl rfl (lb rfl) rfl ti29 rfl rfl (.all _)) <|cSt q43 q43 ti29 rfl <|aB ?_)
 refine aC (cLr q43 la29 rfl <|cLr q43 la29 rfl <|aA rfl (iY (cs:=q37) rfl rfl (lb rfl) un30 ti30 ti29 rfl (.cons (svA q43 rfl) (.cons (svA q43 rfl) .nil)) rfl) <|aA rfl (iY (cs:=q52) rfl rfl (lb rfl) un26 ti26 ti25 rfl (.cons (sv (d:=.int _ 1) rfl) (.cons (sv (d:=.int _ 2) rfl) .nil)) rfl) <|aA rfl (aY (cs:=q30) rfl rfl (lb rfl) un32 ti32 pl32 rfl (.cons (sv (d:=.int _ 2) rfl) (.cons (svA q37 rfl) (.cons (svA q52 rfl) .nil))) rfl) <|cSt q30 q30 ti32 rfl <|aB ?_)
 refine aI ?_
 obtain rfl:=Option.some.inj h
 refine ⟨.inr rfl,(.cons (rva la32 rfl rfl (nle rfl) rfl) .nil)⟩

theorem mT (a0 : (List UInt8)) (a1 : Int) (r : Int) (h : eR a0 a1 = some r) : bR Tryz.prog 90 [.str a0,.int .u8 a1] (.int .i64 r):=by
 refine aN (rs:=[.int .i64 r]) Tryz.func90 rfl Tryz.ntmps90 (nle rfl) rfl fun O hO=>?_
 show IWP _ _ _ _ ⟨[(0,.str a0),(1,.int .u8 a1)],[]⟩ _
 unfold eR at h
 refine aC (cAs (.int _ 0) rfl <|aB ?_)
 obtain ⟨x1,hx1,h⟩:=bE h
 refine aC (cMv (.str _) rfl <|cI rfl <|aA rfl (aGP rfl rfl (lb rfl) ex106 (sv (d:=.str _) rfl) (svI rfl) hx1) <|cAI rfl <|aB ?_)
 refine aI ?_
 obtain rfl:=Option.some.inj h
 refine ⟨.inr rfl,(.cons (sv rfl) .nil)⟩

theorem oI (a0 : (List UInt8)) (a1 : (List UInt8)) (r : Int) (h : fL a0 a1 = some r) : bR Tryz.prog 73 [.str a0,.str a1] (.int .i64 r):=by
 refine aN (rs:=[.int .i64 r]) Tryz.func73 rfl Tryz.ntmps73 (nle rfl) rfl fun O hO=>?_
 show IWP _ _ _ _ ⟨[(0,.str a0),(1,.str a1)],[]⟩ _
 unfold fL at h
 refine aC (cAs (.int _ 0) rfl <|aB ?_)
 refine aC (cMv (.str _) rfl <|aA rfl (cQ rfl rfl (lb rfl) un9 (sv (d:=.str _) rfl) rfl) <|cAI rfl <|aB ?_)
 refine aK <| aU ?_
 obtain ⟨x1,hx1,x2,hx2,x3,hx3,h⟩:=eddd h
 refine aC (cI rfl <|cCm (b:=0) rfl hx1 <|cB rfl <|gG rfl (fun hb=>(tMv (.str _) rfl)) <|gG rfl (fun hb=>(tMv (.str _) rfl)) <|gG rfl (fun hb=>(gF rfl rfl (lb rfl) (svc (d:=.str _) rfl hb) (svc (d:=.str _) rfl hb) rfl hx2)) <|cOr rfl hx3 <|cAB rfl <|aB ?_)
 refine aH h rfl (fun h=>?_) (fun h=>?_)
 ·
  refine aC (cAs (.int _ 0) rfl <|aB ?_)
  refine aI <| bJ <| aQ ?_
  obtain rfl:=Option.some.inj h
  refine ⟨.inr rfl,(.cons (sv rfl) .nil)⟩
 ·
  obtain ⟨x5,hx5,h⟩:=bE h
  refine aC (cI rfl <|cCm (b:=1) rfl hx5 <|cAB rfl <|aB ?_)
  refine aH h rfl (fun h=>?_) (fun h=>?_)
  ·
   obtain ⟨x7,hx7,x8,hx8,h⟩:=eoo h
   refine aC (cMv (.str _) rfl <|cMv (.str _) rfl <|aA rfl (iX rfl rfl (lb rfl) un9 (sv (d:=.str _) rfl) (sv (d:=.int _ 0) rfl) hx7) <|aA rfl (aL (r:=.int _ _) rfl rfl (lb rfl) cl90 (.cons (sv (d:=.str _) rfl) (.cons (svI rfl) .nil)) rfl (mT _ _ _ hx8)) <|cAI rfl <|aB ?_)
   refine aI <| bJ <| aQ ?_
   obtain rfl:=Option.some.inj h
   refine ⟨.inr rfl,(.cons (sv rfl) .nil)⟩
  ·
   obtain ⟨x9,hx9,h⟩:=bE h
   refine aC (cI rfl <|cMv (.str _) rfl <|aA rfl (cQ rfl rfl (lb rfl) un9 (sv (d:=.str _) rfl) rfl) <|cCm rfl hx9 <|cAB rfl <|aB ?_)
   refine aH h rfl (fun h=>?_) (fun h=>?_)
   ·
    refine aC (cAs (.int _ (-1)) rfl <|aB ?_)
    refine aI <| bJ <| aQ ?_
    obtain rfl:=Option.some.inj h
    refine ⟨.inr rfl,(.cons (sv rfl) .nil)⟩
   ·
    cases h

theorem rY (a0 : (List UInt8)) (a1 : (List UInt8)) (r : Int) (h : kQ a0 a1 = some r) : bR Tryz.prog 59 [.str a0,.str a1] (.int .i64 r):=by
 refine aN (rs:=[.int .i64 r]) Tryz.func59 rfl Tryz.ntmps59 (nle rfl) rfl fun O hO=>?_
 show IWP _ _ _ _ ⟨[(0,.str a0),(1,.str a1)],[]⟩ _
 unfold kQ at h
 refine aC (cAs (.int _ 0) rfl <|aB ?_)
 obtain ⟨x1,hx1,h⟩:=bT h
 refine aC (cMv (.str _) rfl <|cMv (.str _) rfl <|aA rfl (aL (r:=.int _ _) rfl rfl (lb rfl) cl73 (.cons (sv (d:=.str _) rfl) (.cons (sv (d:=.str _) rfl) .nil)) rfl (oI _ _ _ hx1)) <|cAI rfl <|aB ?_)
 refine aI ?_
 obtain rfl:=Option.some.inj h
 refine ⟨.inr rfl,(.cons (sv rfl) .nil)⟩

theorem zC (a0 : (List UInt8)) (a1 : (List UInt8)) (r : Int) (h : lY a0 a1 = some r) : bR Tryz.prog 58 [.str a0,.str a1] (.int .i64 r):=by
 refine aN (rs:=[.int .i64 r]) Tryz.func58 rfl Tryz.ntmps58 (nle rfl) rfl fun O hO=>?_
 show IWP _ _ _ _ ⟨[(0,.str a0),(1,.str a1)],[]⟩ _
 unfold lY at h
 refine aC (cAs (.int _ 0) rfl <|aB ?_)
 refine aK ?_
 obtain ⟨x1,hx1,h⟩:=bE h
 refine aC (cMv (.str _) rfl <|aA rfl (cQ rfl rfl (lb rfl) un9 (sv (d:=.str _) rfl) rfl) <|cCm (b:=0) rfl hx1 <|aB ?_)
 refine aH h rfl (fun h=>?_) (fun h=>?_)
 ·
  cases h
 ·
  refine aJ <| aE <| aK ?_
  obtain ⟨x3,hx3,h⟩:=bE h
  refine aC (cMv (.str _) rfl <|aA rfl (cQ rfl rfl (lb rfl) un9 (sv (d:=.str _) rfl) rfl) <|cCm (b:=1) rfl hx3 <|aB ?_)
  refine aH h rfl (fun h=>?_) (fun h=>?_)
  ·
   obtain ⟨x5,hx5,x6,hx6,h⟩:=eod h
   refine aC (cMv (.str _) rfl <|cMv (.str _) rfl <|aA rfl (iX rfl rfl (lb rfl) un9 (sv (d:=.str _) rfl) (sv (d:=.int _ 0) rfl) hx5) <|aA rfl (aGR rfl rfl (lb rfl) ex72 (sv (d:=.str _) rfl) (svI rfl) hx6) <|cAI rfl <|aB ?_)
   refine aI <| aQ ?_
   obtain rfl:=Option.some.inj h
   refine ⟨.inr rfl,(.cons (sv rfl) .nil)⟩
  ·
   refine aJ <| aE <| aC (cAs (.int _ 0) rfl <|aB ?_)
   refine aU <| cP (α:=Nat × (List UInt8) × Int) (fun z=>⟨[(0,.str z.2.1),(1,.str a1),(5,.int .i64 z.2.2)],[]⟩) (fun z=>jS a1 z.1 z.2.1 z.2.2 = some r) (fun z=>z.1) (fuel,a0,0) (fun i=>i) ⟨(.sames rfl rfl),.nil,bS [] rfl (by decide),fun _ _=>rfl⟩ ?_ ?_
   ·exact h
   ·
    rintro ⟨n0,v13,v14⟩ h
    cases n0 with
    | zero=>exact absurd h (by unfold jS; exact nofun)
    | succ n0 =>
     unfold jS at h
     refine aU ?_
     obtain ⟨x21,hx21,h⟩:=bT h
     refine aC (cMv (.str _) rfl <|cMv (.str _) rfl <|aA rfl (aL (r:=.int _ _) rfl rfl (lb rfl) cl59 (.cons (sv (d:=.str _) rfl) (.cons (sv (d:=.str _) rfl) .nil)) rfl (rY _ _ _ hx21)) <|cAI rfl <|aB ?_)
     refine aK ?_
     obtain ⟨x22,hx22,h⟩:=bE h
     refine aC (cI rfl <|cCm (b:=(-1)) rfl hx22 <|aB ?_)
     refine aH h rfl (fun h=>?_) (fun h=>?_)
     ·
      refine aC (cI rfl <|cAI rfl <|aB ?_)
      refine aI <| aQ <| bJ <| aQ <| bJ ?_
      obtain rfl:=Option.some.inj h
      refine ⟨.inr rfl,(.cons (sv rfl) .nil)⟩
     ·
      refine aJ <| aE ?_
      obtain ⟨x24,hx24,h⟩:=bE h
      refine aC (cI rfl <|aA rfl (bB rfl rfl (lb rfl) (svI rfl) (sv (d:=.int _ 1) rfl) rfl hx24) <|cAI rfl <|aB ?_)
      obtain ⟨x25,hx25,x26,hx26,h⟩:=edo h
      refine aR (cMv (.str _) rfl <|cI rfl <|cMv (.str _) rfl <|aA rfl (cQ rfl rfl (lb rfl) un9 (sv (d:=.str _) rfl) rfl) <|aA rfl (bB rfl rfl (lb rfl) (svI rfl) (svI rfl) rfl hx25) <|aA rfl (mL rfl rfl (lb rfl) un9 (sv (d:=.str _) rfl) ⟨_,(svI rfl)⟩ rfl hx26) <|cAs (.str _) rfl <|bK ?_)
      refine bM <| aE ⟨(n0,x26,x24),(fun i=>i),⟨(.sames rfl rfl),.nil,bS [] rfl (by decide),fun _ _=>rfl⟩,?_,?_⟩
      exact h
      exact Nat.lt_succ_self _

theorem uP (a0 : (List UInt8)) (a1 : (List UInt8)) (a2 : Int) (a3 : Int) (r : (List (List UInt8))) (h : lI a0 a1 a2 a3 = some r) : bR Tryz.prog 38 [.str a0, .str a1, .int .i64 a2, .int .i64 a3] (.slice false (r.map eStr.d)) := by
 refine lQ (rs:=[.slice false (r.map eStr.d)]) Tryz.func38 rfl Tryz.ntmps38 (nle rfl) rfl fun O hO=>?_
 show IWP _ _ _ _ ⟨[(0,.str a0),(1,.str a1),(2,.int .i64 a2),(3,.int .i64 a3)],[]⟩ _
 unfold lI at h
 refine aC (cAs (.nils) rfl <|aB ?_)
 refine aK ?_
 obtain ⟨x1,hx1,h⟩:=bE h
 refine aC (cI rfl <|cCm (b:=0) rfl hx1 <|aB ?_)
 refine aH h rfl (fun h=>?_) (fun h=>?_)
 ·
  refine aC (cAs (.nils) rfl <|aB ?_)
  refine aI <| aQ ?_
  obtain rfl:=Option.some.inj h
  refine ⟨.inr rfl,_,(.cons (sv rfl) .nil),(.cons (.nils _) .nil)⟩
 ·
  refine aJ <| aE <| aK ?_
  obtain ⟨x3,hx3,h⟩:=bE h
  refine aC (cMv (.str _) rfl <|aA rfl (gF rfl rfl (lb rfl) (sv (d:=.str _) rfl) (sv (d:=.str []) rfl) rfl hx3) <|aB ?_)
  refine aH h rfl (fun h=>?_) (fun h=>?_)
  ·
   cases h
  ·
   refine aJ <| aE <| iT (α:=Int) (fun z=>⟨[(0,.str a0),(1,.str a1),(2,.int .i64 a2),(3,.int .i64 z)],[]⟩) (fun z=>gT a0 a1 a2 z = some r) ?_ ?_
   ·
    obtain ⟨x106,hx106,h⟩:=bE h
    refine aC (cI rfl <|cCm (b:=0) rfl hx106 <|aB ?_)
    refine aH h rfl (fun h=>?_) (fun h=>?_)
    ·
     obtain ⟨x108,hx108,x109,hx109,h⟩:=eod h
     refine aR (cMv (.str _) rfl <|cMv (.str _) rfl <|aA rfl (aL (r:=.int _ _) rfl rfl (lb rfl) cl58 (.cons (sv (d:=.str _) rfl) (.cons (sv (d:=.str _) rfl) .nil)) rfl (zC _ _ _ hx108)) <|aA rfl (bB rfl rfl (lb rfl) (svI rfl) (sv (d:=.int _ 1) rfl) rfl hx109) <|cAI rfl <|bK ?_)
     refine aE ⟨x109,(fun i=>i),⟨(.sames rfl rfl),.nil,bS [] rfl (by decide),fun _ _=>rfl⟩,?_⟩
     exact h
    ·
     refine aJ <| aE ⟨a3,(fun i=>i),⟨(.sames rfl rfl),.nil,bS [] rfl (by decide),fun _ _=>rfl⟩,?_⟩
     exact h
   ·
    rintro v9 h
    unfold gT at h
    obtain ⟨x10,hx10,x11,hx11,h⟩:=edd h
    refine aC (cI rfl <|cMv (.str _) rfl <|aA rfl (cQ rfl rfl (lb rfl) un9 (sv (d:=.str _) rfl) rfl) <|aA rfl (bB rfl rfl (lb rfl) (svI rfl) (sv (d:=.int _ 1) rfl) rfl hx10) <|aA rfl (sT rfl rfl (lb rfl) (svI rfl) (svI rfl) hx11) <|cAI rfl <|aB ?_)
    obtain ⟨x12,hx12,h⟩:=bT h
    refine aC (cI rfl <|aA rfl (zU eStr.toEnc0 ([] : (List UInt8)) 0 rfl rfl (lb rfl) un79 ti9 rfl rfl (svI rfl) hx12 (.all _)) <|cAs (.osl _ _ _) rfl <|aB ?_)
    obtain ⟨x13,hx13,h⟩:=bE h
    refine aC (cI rfl <|aA rfl (bB rfl rfl (lb rfl) (svI rfl) (sv (d:=.int _ 1) rfl) rfl hx13) <|cAI rfl <|aB ?_)
    refine aC (cAs (.int _ 0) rfl <|aB ?_)
    refine iT (α:=(List UInt8) × (List (List UInt8)) × Int) (fun z=>⟨[(0,.str z.1),(9,.osl 0 eStr.sz z.2.1.length),(10,.int .i64 z.2.2)],[(0,.blk 9 (D.flat (z.2.1.map eStr.d)))]⟩) (fun z=>fN z.1 z.2.1 z.2.2 = some r) ?_ ?_
    ·
     refine aU <| cP (α:=Nat × (List UInt8) × (List (List UInt8)) × Int) (fun z=>⟨[(0,.str z.2.1),(1,.str a1),(2,.int .i64 a2),(3,.int .i64 x13),(9,.osl 0 eStr.sz z.2.2.1.length),(10,.int .i64 z.2.2.2)],[(0,.blk 9 (D.flat (z.2.2.1.map eStr.d)))]⟩) (fun z=>dX a1 a2 x13 z.1 z.2.1 z.2.2.1 z.2.2.2 = some r) (fun z=>z.1) (fuel,a0,x12,0) (fun i=>i) ⟨(.sames rfl rfl),(.cons (EntW.lst rfl) .nil),bS [0] rfl (by decide),fun _ _=>rfl⟩ ?_ ?_
     ·exact h
     ·
      rintro ⟨n3,v77,v78,v79⟩ h
      cases n3 with
      | zero=>exact absurd h (by unfold dX; exact nofun)
      | succ n3 =>
       unfold dX at h
       refine aK ?_
       obtain ⟨x93,hx93,h⟩:=bE h
       refine aC (cI rfl <|cI rfl <|cCm rfl hx93 <|aB ?_)
       refine aH h rfl (fun h=>?_) (fun h=>?_)
       ·
        refine aJ <| aE <| aU ?_
        obtain ⟨x95,hx95,h⟩:=bT h
        refine aC (cMv (.str _) rfl <|cMv (.str _) rfl <|aA rfl (aL (r:=.int _ _) rfl rfl (lb rfl) cl59 (.cons (sv (d:=.str _) rfl) (.cons (sv (d:=.str _) rfl) .nil)) rfl (rY _ _ _ hx95)) <|cAI rfl <|aB ?_)
        refine aK ?_
        obtain ⟨x96,hx96,h⟩:=bE h
        refine aC (cI rfl <|cCm (b:=0) rfl hx96 <|aB ?_)
        refine aH h rfl (fun h=>?_) (fun h=>?_)
        ·
         refine cC <| aW <| cA rfl <| aW <| cD <| aE ⟨(v77,v78,v79),(fun i=>i),⟨(.sames rfl rfl),(.cons (EntW.lst rfl) .nil),bS [0] rfl (by decide),fun _ _=>rfl⟩,?_⟩
         exact h
        ·
         refine aJ <| aE ?_
         obtain ⟨x98,hx98,x99,hx99,x100,hx100,h⟩:=edoo h
         obtain ⟨x101,hx101,x102,hx102,h⟩:=eod h
         refine aC (cMv (.osl _ _ _) rfl <|cI rfl <|cMv (.str _) rfl <|cI rfl <|cI rfl <|aA rfl (bB rfl rfl (lb rfl) (svI rfl) (svI rfl) rfl hx98) <|aA rfl (mL rfl rfl (lb rfl) un9 (sv (d:=.str _) rfl) rfl ⟨_,(svI rfl)⟩ hx99) <|aA rfl (pK eStr.toEnc0 rfl rfl (lb rfl) un79 ti9 (sv (d:=.osl _ _ _) rfl) rfl (svI rfl) hx100) <|aA rfl (sS eStr.toEnc0 (a':=x99) rfl rfl ti9 (svR rfl) rfl (sv (d:=.str _) rfl) rfl rfl rfl hx101 (nle rfl) rfl hx102) <|aB ?_)
         obtain ⟨x103,hx103,x104,hx104,h⟩:=edo h
         refine aC (cMv (.str _) rfl <|cI rfl <|cMv (.str _) rfl <|aA rfl (cQ rfl rfl (lb rfl) un9 (sv (d:=.str _) rfl) rfl) <|aA rfl (bB rfl rfl (lb rfl) (svI rfl) (svI rfl) rfl hx103) <|aA rfl (mL rfl rfl (lb rfl) un9 (sv (d:=.str _) rfl) ⟨_,(svI rfl)⟩ rfl hx104) <|cAs (.str _) rfl <|aB ?_)
         obtain ⟨x105,hx105,h⟩:=bE h
         refine aR (cI rfl <|aA rfl (bB rfl rfl (lb rfl) (svI rfl) (sv (d:=.int _ 1) rfl) rfl hx105) <|cAI rfl <|bK ?_)
         refine bM <| aE ⟨(n3,x104,x102,x105),(fun i=>i),⟨(.s rfl rfl (.s rfl rfl (.s rfl rfl (.s rfl rfl (.cons (.same (congrArg (D.osl _ _) (wI hx102 rfl).symm) rfl) (.sames rfl rfl)))))),(.cons (EntW.lst rfl) .nil),bS [0] rfl (by decide),fun _ _=>rfl⟩,?_,?_⟩
         exact h
         exact Nat.lt_succ_self _
       ·
        refine cC <| aW <| aW <| cD <| aE ⟨(v77,v78,v79),(fun i=>i),⟨(.sames rfl rfl),(.cons (EntW.lst rfl) .nil),bS [0] rfl (by decide),fun _ _=>rfl⟩,?_⟩
        exact h
    ·
     rintro ⟨v56,v57,v58⟩ h
     unfold fN at h
     obtain ⟨x59,hx59,x60,hx60,x61,hx61,h⟩:=eood h
     refine aC (cMv (.osl _ _ _) rfl <|cI rfl <|cMv (.str _) rfl <|aA rfl (pK eStr.toEnc0 rfl rfl (lb rfl) un79 ti9 (sv (d:=.osl _ _ _) rfl) rfl (svI rfl) hx59) <|aA rfl (sS eStr.toEnc0 (a':=v56) rfl rfl ti9 (svR rfl) rfl (sv (d:=.str _) rfl) rfl rfl rfl hx60 (nle rfl) rfl hx61) <|aB ?_)
     obtain ⟨x62,hx62,x63,hx63,h⟩:=edo h
     refine aC (cMv (.osl _ _ _) rfl <|cI rfl <|aA rfl (bB rfl rfl (lb rfl) (svI rfl) (sv (d:=.int _ 1) rfl) rfl hx62) <|aA rfl (aDs eStr.toEnc0 rfl rfl (lb rfl) un79 ti9 (sv (d:=.osl _ _ _) rfl) rfl (Nat.le_of_eq (wI hx61 rfl)) (svI rfl) hx63) <|cAs (.osl _ _ _) rfl <|aB ?_)
     refine aI ?_
     obtain rfl:=Option.some.inj h
     refine ⟨.inr rfl,_,(.cons (sv rfl) .nil),(.cons (FDT eStr rfl rfl) .nil)⟩

theorem rX (a0 : (List UInt8)) (a1 : (List UInt8)) (r : (List (List UInt8))) (h : jJ a0 a1 = some r) : bR Tryz.prog 24 [.str a0,.str a1] (.slice false (r.map eStr.d)):=by
 refine aN (rs:=[.slice false (r.map eStr.d)]) Tryz.func24 rfl Tryz.ntmps24 (nle rfl) rfl fun O hO=>?_
 show IWP _ _ _ _ ⟨[(0,.str a0),(1,.str a1)],[]⟩ _
 unfold jJ at h
 refine aC (cAs (.nils) rfl <|aB ?_)
 obtain ⟨x1,hx1,h⟩:=bT h
 refine aC (cMv (.str _) rfl <|cMv (.str _) rfl <|aA rfl (aL (r:=.slice _ _) rfl rfl (lb rfl) cl38 (.cons (sv (d:=.str _) rfl) (.cons (sv (d:=.str _) rfl) (.cons (sv (d:=.int _ 0) rfl) (.cons (sv (d:=.int _ (-1)) rfl) .nil)))) rfl (uP _ _ _ _ _ hx1)) <|aA rfl (bV rfl rfl (lb rfl) (svL rfl)) <|aB ?_)
 refine aI ?_
 obtain rfl:=Option.some.inj h
 refine ⟨.inr rfl,(.cons (sv rfl) .nil)⟩

theorem zN (a0 : (List UInt8)) (r : (Int × Bool)) (h : mQ a0 = some r) : bR Tryz.prog 39 [.str a0] (retD [.int .i64 r.1,.bool r.2]):=by
 refine aN (rs:=[.int .i64 r.1,.bool r.2]) Tryz.func39 rfl Tryz.ntmps39 (nle rfl) rfl fun O hO=>?_
 show IWP _ _ _ _ ⟨[(0,.str a0)],[]⟩ _
 unfold mQ at h
 refine aC (cAs (.int _ 0) rfl <|cAs (.bool false) rfl <|aB ?_)
 refine aK ?_
 obtain ⟨x1,hx1,x2,hx2,x3,hx3,h⟩:=eddd h
 obtain ⟨x4,hx4,x5,hx5,x6,hx6,h⟩:=edod h
 obtain ⟨x7,hx7,x8,hx8,h⟩:=edd h
 refine aC (cMv (.str _) rfl <|aA rfl (gF rfl rfl (lb rfl) (sv (d:=.str _) rfl) (sv (d:=.str []) rfl) rfl hx1) <|cB rfl <|gG rfl (fun hb=>(tMv (.str _) rfl)) <|gG rfl (fun hb=>(cQ rfl rfl (lb rfl) un9 (svc (d:=.str _) rfl hb) rfl)) <|gG rfl (fun hb=>(tCg (b:=10) rfl hb hx2)) <|cOr rfl hx3 <|cB rfl <|gG rfl (fun hb=>(tMv (.str _) rfl)) <|gG rfl (fun hb=>(cQ rfl rfl (lb rfl) un9 (svc (d:=.str _) rfl hb) rfl)) <|gG rfl (fun hb=>(tCg (b:=1) rfl hb hx4)) <|gG rfl (fun hb=>(dR rfl rfl (lb rfl) (svcB rfl hb))) <|iC rfl rfl (.two rfl) rfl (by decide) (fun hb=>(tMv (.str _) rfl)) <|iC rfl rfl (.two rfl) rfl (by decide) (fun hb=>(iX rfl rfl (lb rfl) un9 (svc (d:=.str _) rfl hb) (sv (d:=.int _ 0) rfl) (gd_t hx5 hb))) <|iC rfl rfl (.two rfl) rfl (by decide) (fun hb=>(tCg (b:=48) rfl hb hx6)) <|gG rfl (fun hb=>(qE rfl rfl (lb rfl) hb (svcB rfl hb) rfl rfl hx7)) <|cOr rfl hx8 <|aB ?_)
 refine aH h rfl (fun h=>?_) (fun h=>?_)
 ·
  refine aC (cAs (.int _ 0) rfl <|cAs (.bool false) rfl <|aB ?_)
  refine aI <| aQ ?_
  obtain rfl:=Option.some.inj h
  refine ⟨.inr rfl,(.cons (sv rfl) (.cons (sv rfl) .nil))⟩
 ·
  refine aJ <| aE <| aC (cAs (.int _ 0) rfl <|aB ?_)
  refine aK <| aC (cMv (.str _) rfl <|aA rfl (qV rfl rfl (lb rfl) un9 un71 un5 (sv (d:=.str _) rfl)) <|aA rfl (dD gI (l:=a0) rfl rfl (lb rfl) un71 (svL rfl)) <|cMv (.int _ 0) rfl <|aB ?_)
  refine aU <| cP (α:=Nat × Int × Int) (fun z=>⟨[(4,.int .i64 z.2.1),(25,.slice false (a0.map gI.d)),(26,.int .i64 (a0.length : Int)),(27,.int .i64 z.2.2)],[]⟩) (fun z=>fI a0 z.1 z.2.1 z.2.2 = some r) (fun z=>z.1) (fuel,0,0) (fun i=>i) ⟨(.sames rfl rfl),.nil,bS [] rfl (by decide),fun _ _=>rfl⟩ ?_ ?_
  ·exact h
  ·
   rintro ⟨n0,v22,v23⟩ h
   cases n0 with
   | zero=>exact absurd h (by unfold fI; exact nofun)
   | succ n0 =>
    unfold fI at h
    obtain ⟨x36,hx36,h⟩:=bE h
    refine aC (cCm rfl hx36 <|aB ?_)
    refine aK <| aH h rfl (fun h=>?_) (fun h=>?_)
    ·
     refine aJ <| aE <| aK <| aU ?_
     obtain ⟨x38,hx38,h⟩:=bT h
     refine aC (aA rfl (cW gI (cs:=[.int _ _]) rfl rfl (lb rfl) un71 ti5 (svL rfl) (svI rfl) hx38 rfl rfl) <|aA rfl (cN rfl rfl (lb rfl) un5 ag5 ti5 (by decide) (sv (d:=.fptr [.int _ _]) rfl) (nle rfl)) <|cAI rfl <|aB ?_)
     refine aK ?_
     obtain ⟨x39,hx39,x40,hx40,x41,hx41,h⟩:=eddd h
     refine aC (cI rfl <|cCm (b:=48) rfl hx39 <|cB rfl <|gG rfl (fun hb=>(tI rfl)) <|gG rfl (fun hb=>(tCg (b:=57) rfl hb hx40)) <|cOr rfl hx41 <|aB ?_)
     refine aH h rfl (fun h=>?_) (fun h=>?_)
     ·
      refine aC (cAs (.int _ 0) rfl <|cAs (.bool false) rfl <|aB ?_)
      refine aI <| aQ <| bJ <| aQ <| aQ <| bJ <| aQ ?_
      obtain rfl:=Option.some.inj h
      refine ⟨.inr rfl,(.cons (sv rfl) (.cons (sv rfl) .nil))⟩
     ·
      refine aJ <| aE ?_
      obtain ⟨x43,hx43,x44,hx44,x45,hx45,h⟩:=eddd h
      obtain ⟨x46,hx46,h⟩:=bE h
      refine aR (cI rfl <|aA rfl (bB rfl rfl (lb rfl) (sv (d:=.int _ 10) rfl) (svI rfl) rfl hx43) <|cI rfl <|aA rfl (bB rfl rfl (lb rfl) (svI rfl) (sv (d:=.int _ 48) rfl) rfl hx44) <|aA rfl (eJ rfl rfl (lb rfl) ⟨_,un5⟩ un3 (svI rfl) hx45) <|aA rfl (bB rfl rfl (lb rfl) (svI rfl) (svI rfl) rfl hx46) <|cAI rfl <|bK ?_)
      refine bM <| aE ?_
      obtain ⟨x47,hx47,h⟩:=bE h
      refine aR (aA rfl (bB rfl rfl (lb rfl) (svI rfl) (sv (d:=.int _ 1) rfl) rfl hx47) <|cI rfl <|bK ?_)
      refine aE ⟨(n0,x46,x47),(fun i=>i),⟨(.sames rfl rfl),.nil,bS [] rfl (by decide),fun _ _=>rfl⟩,?_,?_⟩
      exact h
      exact Nat.lt_succ_self _
    ·
     refine cC <| aW <| aW <| cD <| aE <| aC (cI rfl <|cAI rfl <|cAs (.bool true) rfl <|aB ?_)
     refine aI ?_
     obtain rfl:=Option.some.inj h
     refine ⟨.inr rfl,(.cons (sv rfl) (.cons (sv rfl) .nil))⟩

theorem xM (a0 : (List (List UInt8))) (a1 : Int) (r : ((List Int) × Bool)) (h : nL a0 a1 = some r) : bR Tryz.prog 25 [.slice false (a0.map eStr.d),.int .i64 a1] (retD [.slice false (r.1.map (eInt .i64).d),.bool r.2]):=by
 refine aN (rs:=[.slice false (r.1.map (eInt .i64).d),.bool r.2]) Tryz.func25 rfl Tryz.ntmps25 (nle rfl) rfl fun O hO=>?_
 show IWP _ _ _ _ ⟨[(0,.slice false (a0.map eStr.d)),(1,.int .i64 a1)],[]⟩ _
 unfold nL at h
 refine aC (cAs (.nils) rfl <|cAs (.bool false) rfl <|aB ?_)
 refine aC (cAs (.nils) rfl <|aB ?_)
 refine aK <| aC (aA rfl (mvL rfl rfl rfl rfl) <|aA rfl (dD eStr (l:=a0) rfl rfl (lb rfl) un79 (svL rfl)) <|cMv (.int _ 0) rfl <|aB ?_)
 refine aU <| cP (α:=Nat × (List Int) × Int) (fun z=>⟨[(1,.int .i64 a1),(6,.gsl 21 (eInt .i64).sz (z.2.1.map (eInt .i64).d)),(11,.slice false (a0.map eStr.d)),(12,.int .i64 (a0.length : Int)),(13,.int .i64 z.2.2)],[(21,.tail 3 (eInt .i64).sz z.2.1.length)]⟩) (fun z=>fA a0 a1 z.1 z.2.1 z.2.2 = some r) (fun z=>z.1) (fuel,([] : (List Int)),0) (fun i=>if i = 21 then 71 else i) ⟨(.s rfl rfl (.cons (.nils rfl) (.sames rfl rfl))),(.cons (.nils rfl) .nil),bS [71] rfl (by decide),(fun i hi=>by first | rfl | (show (if _ then _ else _) = _; (repeat' split) <;> omega))⟩ ?_ ?_
 ·exact h
 ·
  rintro ⟨n0,v8,v9⟩ h
  cases n0 with
  | zero=>exact absurd h (by unfold fA; exact nofun)
  | succ n0 =>
   unfold fA at h
   obtain ⟨x17,hx17,h⟩:=bE h
   refine aC (cCm rfl hx17 <|aB ?_)
   refine aK <| aH h rfl (fun h=>?_) (fun h=>?_)
   ·
    refine aJ <| aE <| aK <| aU ?_
    obtain ⟨x19,hx19,h⟩:=bT h
    refine aC (aA rfl (cW eStr (cs:=[.str _]) rfl rfl (lb rfl) un79 ti9 (svL rfl) (svI rfl) hx19 rfl rfl) <|aA rfl (cN rfl rfl (lb rfl) un9 ag9 ti9 (by decide) (sv (d:=.fptr [.str _]) rfl) (nle rfl)) <|cAs (.str _) rfl <|aB ?_)
    obtain ⟨x20,hx20,h⟩:=bT h
    refine aC (cMv (.str _) rfl <|aA rfl (aL (r:=.tuple [.int _ _,.bool _]) rfl rfl (lb rfl) cl39 (.cons (sv (d:=.str _) rfl) .nil) rfl (zN _ _ hx20)) <|cMv (.tuple [.int _ _,.bool _]) rfl <|aA rfl (dL (d:=.int _ _) rfl rfl (lb rfl) (sv (d:=.tuple [.int _ _,.bool _]) rfl) rfl) <|aA rfl (dL (d:=.bool _) rfl rfl (lb rfl) (sv (d:=.tuple [.int _ _,.bool _]) rfl) rfl) <|cAI rfl <|cAB rfl <|aB ?_)
    refine aK <| aC (cB rfl <|aA rfl (dJ rfl rfl (lb rfl) (svB rfl)) <|aB ?_)
    refine aH h rfl (fun h=>?_) (fun h=>?_)
    ·
     refine aC (cAs (.nils) rfl <|cAs (.bool false) rfl <|aB ?_)
     refine aI <| aQ <| bJ <| aQ <| aQ <| bJ <| aQ ?_
     obtain rfl:=Option.some.inj h
     refine ⟨.inr rfl,(.cons (yK rfl rfl) (.cons (sv rfl) .nil))⟩
    ·
     refine aJ <| aE ?_
     obtain ⟨x22,hx22,h⟩:=bT h
     refine aR (cMv (.gsl _ _ _) rfl <|cI rfl <|aA rfl (mM (eInt .i64) ([x20.1] : (List Int)) 22 rfl rfl (lb rfl) un72 ti3 rfl (.cons (svI rfl) .nil) rfl rfl (by decide)) <|aA rfl (oK (eInt .i64) 23 rfl rfl (lb rfl) un72 ti3 rfl rfl rfl rfl (svg rfl) hx22) <|cAs (.gsl _ _ _) rfl <|bK ?_)
     refine bM <| aE ?_
     obtain ⟨x23,hx23,h⟩:=bE h
     refine aR (aA rfl (bB rfl rfl (lb rfl) (svI rfl) (sv (d:=.int _ 1) rfl) rfl hx23) <|cI rfl <|bK ?_)
     refine aE ⟨(n0,x22,x23),(fun i=>if i = 21 then 23 else i),⟨(.sames rfl rfl),(.cons (.tail rfl) .nil),bS [23] rfl (by decide),(fun i hi=>by first | rfl | (show (if _ then _ else _) = _; (repeat' split) <;> omega))⟩,?_,?_⟩
     exact h
     exact Nat.lt_succ_self _
   ·
    refine cC <| aW <| aW <| cD <| aE ?_
    obtain ⟨x24,hx24,h⟩:=bE h
    refine aC (cMv (.gsl _ _ _) rfl <|cMv (.gsl _ _ _) rfl <|aA rfl (dD (eInt .i64) (l:=v8) rfl rfl (lb rfl) un72 (svg rfl)) <|cI rfl <|cCm rfl hx24 <|cAs (.gsl _ _ _) rfl <|cAB rfl <|aB ?_)
    refine aI ?_
    obtain rfl:=Option.some.inj h
    refine ⟨.inr rfl,(.cons (yL rfl rfl) (.cons (sv rfl) .nil))⟩

theorem rJ (a0 : (List UInt8)) (a1 : dQ) (r : (Int × dQ)) (h : cO a0 a1 = some r) : FnH Tryz.prog 16 [.ref 1000 0, .str a0] [(1000, .blk 53 (tv1 a1))] (.int .i64 r.1) [(1000, .blk 53 (tv1 r.2))] := by
 refine iZ (rs:=[.int .i64 r.1]) Tryz.func16 rfl Tryz.ntmps16 (nle rfl) fun O hO=>?_
 show IWP _ _ _ _ ⟨[(0,.ref 1000 0),(1,.str a0)],[(1000,.blk 53 (tv1 a1))]⟩ _
 unfold cO at h
 refine aC (cAs (.int _ 0) rfl <|aB ?_)
 obtain ⟨x1,hx1,h⟩:=bT h
 refine aC (cMv (.str _) rfl <|aA rfl (aL (r:=.slice _ _) rfl rfl (lb rfl) cl24 (.cons (sv (d:=.str _) rfl) (.cons (sv (d:=.str [32]) rfl) .nil)) rfl (rX _ _ _ hx1)) <|aA rfl (bV rfl rfl (lb rfl) (svL rfl)) <|aB ?_)
 refine aC (cAs (.int _ 0) rfl <|aB ?_)
 refine iT (α:=Int) (fun z=>⟨[(0,.ref 1000 0),(5,.slice false (x1.map eStr.d)),(6,.int .i64 z)],[(1000,.blk 53 (tv1 a1))]⟩) (fun z=>dC a1 x1 z = some r) ?_ ?_
 ·
  obtain ⟨x68,hx68,h⟩:=bT h
  refine aC (aA rfl (mvL rfl rfl rfl rfl) <|aA rfl (cW eStr (cs:=[.str _]) rfl rfl (lb rfl) un79 ti9 (svL rfl) (sv (d:=.int _ 0) rfl) hx68 rfl rfl) <|aA rfl (cN rfl rfl (lb rfl) un9 ag9 ti9 (by decide) (sv (d:=.fptr [.str _]) rfl) (nle rfl)) <|aB ?_)
  refine aU ?_
  obtain ⟨x69,hx69,h⟩:=bE h
  refine aC (aA rfl (gF rfl rfl (lb rfl) (sv (d:=.str _) rfl) (sv (d:=.str [112,97,116,104,115]) rfl) rfl hx69) <|cAB rfl <|aB ?_)
  refine aH h rfl (fun h=>?_) (fun h=>?_)
  ·
   refine aR (cAs (.int _ 1) rfl <|bK ?_)
   refine bM <| aE ⟨1,(fun i=>i),⟨(.sames rfl rfl),(.cons (.blk rfl rfl rfl) .nil),bS [1000] rfl (by decide),fun _ _=>rfl⟩,?_⟩
   exact h
  ·
   obtain ⟨x71,hx71,h⟩:=bE h
   refine aC (aA rfl (gF rfl rfl (lb rfl) (sv (d:=.str _) rfl) (sv (d:=.str [102,105,114,115,116]) rfl) rfl hx71) <|cAB rfl <|aB ?_)
   refine aH h rfl (fun h=>?_) (fun h=>?_)
   ·
    refine aR (cAs (.int _ 2) rfl <|bK ?_)
    refine bM <| aE ⟨2,(fun i=>i),⟨(.sames rfl rfl),(.cons (.blk rfl rfl rfl) .nil),bS [1000] rfl (by decide),fun _ _=>rfl⟩,?_⟩
    exact h
   ·
    obtain ⟨x73,hx73,h⟩:=bE h
    refine aC (aA rfl (gF rfl rfl (lb rfl) (sv (d:=.str _) rfl) (sv (d:=.str [118,97,108,117,101,115]) rfl) rfl hx73) <|cAB rfl <|aB ?_)
    refine aH h rfl (fun h=>?_) (fun h=>?_)
    ·
     refine aR (cAs (.int _ 5) rfl <|bK ?_)
     refine bM <| aE ⟨5,(fun i=>i),⟨(.sames rfl rfl),(.cons (.blk rfl rfl rfl) .nil),bS [1000] rfl (by decide),fun _ _=>rfl⟩,?_⟩
     exact h
    ·
     refine aC (cAs (.int _ 12) rfl <|aB ?_)
     refine aI <| bJ <| aQ ?_
     obtain rfl:=Option.some.inj h
     refine ⟨.inr rfl,(fun i=>i),⟨.nil,(.cons (.blk rfl rfl rfl) .nil),bS [1000] rfl (by decide),fun _ _=>rfl⟩,(.cons (sv rfl) .nil),rfl⟩
 ·
  rintro v9 h
  unfold dC at h
  obtain ⟨x10,hx10,x11,hx11,h⟩:=eoo h
  refine aC (aA rfl (mvL rfl rfl rfl rfl) <|aA rfl (aBG eStr rfl rfl (lb rfl) un79 ti9 (svL rfl) ⟨_,(sv (d:=.int _ 1) rfl)⟩ rfl hx10) <|cI rfl <|aA rfl (aL (r:=.tuple q51) rfl rfl (lb rfl) cl25 (.cons (svL rfl) (.cons (svI rfl) .nil)) rfl (xM _ _ _ hx11)) <|cMv (.tuple q51) rfl <|cEx (d:=.slice _ _) (cs:=q51) rfl <|cEx (d:=.bool _) (cs:=q51) rfl <|aA rfl (bV rfl rfl (lb rfl) (svL rfl)) <|cAB rfl <|aB ?_)
  refine aK ?_
  obtain ⟨x12,hx12,x13,hx13,x14,hx14,h⟩:=edod h
  obtain ⟨x15,hx15,x16,hx16,x17,hx17,h⟩:=eddd h
  obtain ⟨x18,hx18,x19,hx19,x20,hx20,h⟩:=eodd h
  obtain ⟨x21,hx21,h⟩:=bE h
  refine aC (cB rfl <|aA rfl (dJ rfl rfl (lb rfl) (svB rfl)) <|cB rfl <|gG rfl (fun hb=>(tI rfl)) <|gG rfl (fun hb=>(tCg (b:=1) rfl hb hx12)) <|gG rfl (fun hb=>(dR rfl rfl (lb rfl) (svcB rfl hb))) <|iC rfl rfl (.two rfl) rfl (by decide) (fun hb=>(mvL rfl rfl rfl rfl)) <|iC rfl rfl (.two rfl) rfl (by decide) (fun hb=>(cW (eInt .i64) (cs:=[.int _ _]) rfl rfl (lb rfl) un72 ti3 (svcL rfl hb) (sv (d:=.int _ 0) rfl) (gd_t hx13 hb) rfl rfl)) <|iC rfl rfl (.two rfl) rfl (by decide) (fun hb=>(cN rfl rfl (lb rfl) un3 ag3 ti3 (by decide) (svc (d:=.fptr [.int _ _]) rfl hb) (nle rfl))) <|iC rfl rfl (.two rfl) rfl (by decide) (fun hb=>(tCg (b:=1) rfl hb hx14)) <|gG rfl (fun hb=>(qE rfl rfl (lb rfl) hb (svcB rfl hb) rfl rfl hx15)) <|cOr rfl hx16 <|cB rfl <|gG rfl (fun hb=>(tI rfl)) <|gG rfl (fun hb=>(tCg (b:=2) rfl hb hx17)) <|gG rfl (fun hb=>(dR rfl rfl (lb rfl) (svcB rfl hb))) <|iC rfl rfl (.two rfl) rfl (by decide) (fun hb=>(mvL rfl rfl rfl rfl)) <|iC rfl rfl (.two rfl) rfl (by decide) (fun hb=>(cW (eInt .i64) (cs:=[.int _ _]) rfl rfl (lb rfl) un72 ti3 (svcL rfl hb) (sv (d:=.int _ 1) rfl) (gd_t hx18 hb) rfl rfl)) <|iC rfl rfl (.two rfl) rfl (by decide) (fun hb=>(cN rfl rfl (lb rfl) un3 ag3 ti3 (by decide) (svc (d:=.fptr [.int _ _]) rfl hb) (nle rfl))) <|iC rfl rfl (.two rfl) rfl (by decide) (fun hb=>(tCg (b:=4294967295) rfl hb hx19)) <|gG rfl (fun hb=>(qE rfl rfl (lb rfl) hb (svcB rfl hb) rfl rfl hx20)) <|cOr rfl hx21 <|aB ?_)
  refine aH h rfl (fun h=>?_) (fun h=>?_)
  ·
   refine aC (cAs (.int _ 60) rfl <|aB ?_)
   refine aI <| aQ ?_
   obtain rfl:=Option.some.inj h
   refine ⟨.inr rfl,(fun i=>i),⟨.nil,(.cons (.blk rfl rfl rfl) .nil),bS [1000] rfl (by decide),fun _ _=>rfl⟩,(.cons (sv rfl) .nil),rfl⟩
  ·
   refine aJ <| aE <| aC (cAs (.int _ 0) rfl <|aB ?_)
   refine iT (α:=Int) (fun z=>⟨[(0,.ref 1000 0),(6,.int .i64 v9),(7,.slice false (x11.1.map (eInt .i64).d)),(9,.int .i64 z)],[(1000,.blk 53 (tv1 a1))]⟩) (fun z=>dB a1 v9 x11 z = some r) ?_ ?_
   ·
    refine aC (cI rfl <|aB ?_)
    refine aU ?_
    obtain ⟨x60,hx60,h⟩:=bE h
    refine aC (cCm (b:=2) rfl hx60 <|cAB rfl <|aB ?_)
    refine aH h rfl (fun h=>?_) (fun h=>?_)
    ·
     obtain ⟨x62,hx62,x63,hx63,h⟩:=eod h
     refine aR (aA rfl (mvL rfl rfl rfl rfl) <|aA rfl (cW (eInt .i64) (cs:=[.int _ _]) rfl rfl (lb rfl) un72 ti3 (svL rfl) (sv (d:=.int _ 0) rfl) hx62 rfl rfl) <|aA rfl (cN rfl rfl (lb rfl) un3 ag3 ti3 (by decide) (sv (d:=.fptr [.int _ _]) rfl) (nle rfl)) <|aA rfl (bB rfl rfl (lb rfl) (sv (d:=.int _ 3) rfl) (svI rfl) rfl hx63) <|cAI rfl <|bK ?_)
     refine bM <| aE ⟨x63,(fun i=>i),⟨(.sames rfl rfl),(.cons (.blk rfl rfl rfl) .nil),bS [1000] rfl (by decide),fun _ _=>rfl⟩,?_⟩
     exact h
    ·
     obtain ⟨x64,hx64,h⟩:=bE h
     refine aC (cCm (b:=5) rfl hx64 <|cAB rfl <|aB ?_)
     refine aH h rfl (fun h=>?_) (fun h=>?_)
     ·
      obtain ⟨x66,hx66,x67,hx67,h⟩:=eod h
      refine aR (aA rfl (mvL rfl rfl rfl rfl) <|aA rfl (cW (eInt .i64) (cs:=[.int _ _]) rfl rfl (lb rfl) un72 ti3 (svL rfl) (sv (d:=.int _ 0) rfl) hx66 rfl rfl) <|aA rfl (cN rfl rfl (lb rfl) un3 ag3 ti3 (by decide) (sv (d:=.fptr [.int _ _]) rfl) (nle rfl)) <|aA rfl (bB rfl rfl (lb rfl) (sv (d:=.int _ 1) rfl) (svI rfl) rfl hx67) <|cAI rfl <|bK ?_)
      refine bM <| aE ⟨x67,(fun i=>i),⟨(.sames rfl rfl),(.cons (.blk rfl rfl rfl) .nil),bS [1000] rfl (by decide),fun _ _=>rfl⟩,?_⟩
      exact h
     ·
      refine aJ <| bM <| aE ⟨0,(fun i=>i),⟨(.sames rfl rfl),(.cons (.blk rfl rfl rfl) .nil),bS [1000] rfl (by decide),fun _ _=>rfl⟩,?_⟩
      exact h
   ·
    rintro v31 h
    unfold dB at h
    refine aK ?_
    obtain ⟨hk32,h⟩:=tF h
    obtain ⟨x33,hx33,h⟩:=bT h
    refine aC (aA rfl (mvR rfl rfl rfl rfl) <|cI rfl <|aA rfl (aS rfl rfl (lb rfl) (svR rfl)) <|cFa 11 un53 rfl ti51 rfl <|aA rfl (fE rfl rfl (lb rfl) Tryz.underlying51 ti4 (svR rfl) (svI rfl) hk32) <|aA rfl (lF eBool (b:=11) (k:=0) (sz:=1) (d:=.bool _) rfl rfl (lb rfl) un4 ag4 ti4 (svR rfl) rfl hx33 ⟨rfl,⟨rfl,⟨rfl,⟨rfl,⟨rfl,trivial⟩⟩⟩⟩⟩ rfl) <|aB ?_)
    refine aH h rfl (fun h=>?_) (fun h=>?_)
    ·
     refine aC (cAs (.int _ 13) rfl <|aB ?_)
     refine aI <| aQ ?_
     obtain rfl:=Option.some.inj h
     refine ⟨.inr rfl,(fun i=>i),⟨.nil,(.cons (.blk rfl rfl rfl) .nil),bS [1000] rfl (by decide),fun _ _=>rfl⟩,(.cons (sv rfl) .nil),rfl⟩
    ·
     refine aJ <| aE ?_
     obtain ⟨hk35,h⟩:=tF h
     obtain ⟨x36,hx36,x37,hx37,x38,hx38,h⟩:=eddd h
     obtain ⟨x39,hx39,x40,hx40,h⟩:=edd h
     refine aC (aA rfl (mvR rfl rfl rfl rfl) <|cI rfl <|aA rfl (aS rfl rfl (lb rfl) (svR rfl)) <|cFa 11 un53 rfl ti51 rfl <|aA rfl (fE rfl rfl (lb rfl) Tryz.underlying51 ti4 (svR rfl) (svI rfl) hk35) <|aA rfl (mK (b:=11) (k:=0) (sz:=1) (cs':=(w64 a1.Config.Paths a1.Config.Values.c0.Streams a1.Config.Values.c0.Window a1.Config.Values.c0.Whole a1.Config.Values.c0.Chunk a1.Config.Values.c1.Streams a1.Config.Values.c1.Window a1.Config.Values.c1.Whole a1.Config.Values.c1.Chunk a1.Config.First.c0 a1.Config.First.c1 x36 x37 x38 x39 x40)) rfl rfl ti4 (svR rfl) rfl (sv (d:=.bool true) rfl) rfl rfl rfl hk35 rfl ⟨⟨⟨⟨⟨trivial,fun h=>by rw [← hx36,← hx37,← hx38,← hx39,← hx40,h]; rfl⟩,fun h=>by rw [← hx36,← hx37,← hx38,← hx39,← hx40,h]; rfl⟩,fun h=>by rw [← hx36,← hx37,← hx38,← hx39,← hx40,h]; rfl⟩,fun h=>by rw [← hx36,← hx37,← hx38,← hx39,← hx40,h]; rfl⟩,fun h=>by rw [← hx36,← hx37,← hx38,← hx39,← hx40,h]; rfl⟩) <|aB ?_)
     refine aK <| aC (cI rfl <|aB ?_)
     refine aU ?_
     obtain ⟨x41,hx41,h⟩:=bE h
     refine aC (cCm (b:=1) rfl hx41 <|cAB rfl <|aB ?_)
     refine aH h rfl (fun h=>?_) (fun h=>?_)
     ·
      obtain ⟨x43,hx43,h⟩:=bT h
      refine aR (aA rfl (mvR rfl rfl rfl rfl) <|aA rfl (mvL rfl rfl rfl rfl) <|aA rfl (cW (eInt .i64) (cs:=[.int _ _]) rfl rfl (lb rfl) un72 ti3 (svL rfl) (sv (d:=.int _ 0) rfl) hx43 rfl rfl) <|aA rfl (cN rfl rfl (lb rfl) un3 ag3 ti3 (by decide) (sv (d:=.fptr [.int _ _]) rfl) (nle rfl)) <|aA rfl (aS rfl rfl (lb rfl) (svR rfl)) <|cFa 0 un53 rfl ti32 rfl <|cFa 0 un32 rfl ti3 rfl <|aA rfl (cH (ds':=q28) rfl rfl ti3 (svR rfl) rfl (svI rfl) rfl rfl rfl (nle rfl) rfl) <|bK ?_)
      refine bM <| aE <| aC (cAs (.int _ 0) rfl <|aB ?_)
      refine aI ?_
      obtain rfl:=Option.some.inj h
      refine ⟨.inr rfl,(fun i=>i),⟨.nil,(.cons (.blk rfl rfl rfl) .nil),bS [1000] rfl (by decide),fun _ _=>rfl⟩,(.cons (sv rfl) .nil),rfl⟩
     ·
      obtain ⟨x44,hx44,h⟩:=bE h
      refine aC (cCm (b:=2) rfl hx44 <|cAB rfl <|aB ?_)
      refine aH h rfl (fun h=>?_) (fun h=>?_)
      ·
       obtain ⟨x46,hx46,x47,hx47,x48,hx48,h⟩:=eood h
       obtain ⟨hk49,h⟩:=tF h
       obtain ⟨x50,hx50,x51,hx51,h⟩:=edd h
       refine sQ rfl [nd1 [0] 107 (.ref 1000 0),nd1 [7] 108 (.slice false (x11.1.map (eInt .i64).d)),nd1 [108] 109 (.fptr [.int .i64 x46]),nd1 [109] 110 (.int .i64 x46),nd1 [7] 111 (.slice false (x11.1.map (eInt .i64).d)),nd1 [111] 112 (.fptr [.int .i64 x47]),nd1 [112] 113 (.int .i64 x47),nd1 [113] 114 (.int .u32 x48),nd1 [107] 115 (.ref 1000 0),nd1 [115] 116 (.ref 1000 0),nd1 [116] 117 (.ref 1000 9),nd1 [110,117] 118 (.ref 1000 (9 + (x46 : Int).toNat * 1 + 0)),⟨[114,118],[1000],[],[(1000,.blk 53 (w64 a1.Config.Paths a1.Config.Values.c0.Streams a1.Config.Values.c0.Window a1.Config.Values.c0.Whole a1.Config.Values.c0.Chunk a1.Config.Values.c1.Streams a1.Config.Values.c1.Window a1.Config.Values.c1.Whole a1.Config.Values.c1.Chunk x50 x51 x36 x37 x38 x39 x40))]⟩] rfl ?_ (by kernel_rfl) ?_
       ·refine .cons (dMv rfl) <| .cons (dMv rfl) <| .cons (lop rfl rfl fun S hA=>(cW (eInt .i64) (cs:=[.int _ _]) rfl rfl (lb rfl) un72 ti3 (svaL hA rfl rfl) (sv (d:=.int _ 0) rfl) hx46 rfl rfl)) <| .cons (lop rfl rfl fun S hA=>(cN rfl rfl (lb rfl) un3 ag3 ti3 (by decide) (sv (d:=.fptr [.int _ _]) (agr hA rfl rfl)) (nle rfl))) <| .cons (dMv rfl) <| .cons (lop rfl rfl fun S hA=>(cW (eInt .i64) (cs:=[.int _ _]) rfl rfl (lb rfl) un72 ti3 (svaL hA rfl rfl) (sv (d:=.int _ 1) rfl) hx47 rfl rfl)) <| .cons (lop rfl rfl fun S hA=>(cN rfl rfl (lb rfl) un3 ag3 ti3 (by decide) (sv (d:=.fptr [.int _ _]) (agr hA rfl rfl)) (nle rfl))) <| .cons (lop rfl rfl fun S hA=>(eJ rfl rfl (lb rfl) ⟨_,un3⟩ un25 (svaI hA rfl rfl) hx48)) <| .cons (lop rfl rfl fun S hA=>(aS rfl rfl (lb rfl) (svaR hA rfl rfl))) <| .cons (dFa 0 un53 rfl ti32 rfl) <| .cons (dFa 9 un32 rfl ti26 rfl) <| .cons (lop rfl rfl fun S hA=>(fE rfl rfl (lb rfl) un26 ti25 (svaR hA rfl rfl) (svaI hA rfl rfl) hk49)) <| .cons (lop rfl rfl fun S hA=>(mK (b:=9) (k:=0) (sz:=1) (cs':=(w64 a1.Config.Paths a1.Config.Values.c0.Streams a1.Config.Values.c0.Window a1.Config.Values.c0.Whole a1.Config.Values.c0.Chunk a1.Config.Values.c1.Streams a1.Config.Values.c1.Window a1.Config.Values.c1.Whole a1.Config.Values.c1.Chunk x50 x51 x36 x37 x38 x39 x40)) rfl rfl ti25 (svaR hA rfl rfl) (agi hA rfl rfl) (svaI hA rfl rfl) rfl rfl rfl hk49 rfl ⟨⟨trivial,fun h=>by rw [← hx50,← hx51,h]; rfl⟩,fun h=>by rw [← hx50,← hx51,h]; rfl⟩)) ?_
        exact .nil
       refine bM <| aE <| aC (cAs (.int _ 0) rfl <|aB ?_)
       refine aI ?_
       obtain rfl:=Option.some.inj h
       refine ⟨.inr rfl,(fun i=>i),⟨.nil,(.cons (.blk rfl rfl rfl) .nil),bS [1000] rfl (by decide),fun _ _=>rfl⟩,(.cons (sv rfl) .nil),rfl⟩
      ·
       obtain ⟨x52,hx52,x53,hx53,x54,hx54,h⟩:=eooo h
       obtain ⟨x55,hx55,x56,hx56,h⟩:=eoo h
       obtain ⟨hk57,h⟩:=tF h
       obtain ⟨x58,hx58,x59,hx59,h⟩:=edd h
       refine sQ rfl [nd1 [0] 75 (.ref 1000 0),nd1 [7] 76 (.slice false (x11.1.map (eInt .i64).d)),nd1 [76] 77 (.fptr [.int .i64 x52]),nd1 [77] 78 (.int .i64 x52),nd1 [7] 79 (.slice false (x11.1.map (eInt .i64).d)),nd1 [79] 80 (.fptr [.int .i64 x53]),nd1 [80] 81 (.int .i64 x53),nd1 [7] 82 (.slice false (x11.1.map (eInt .i64).d)),nd1 [82] 83 (.fptr [.int .i64 x54]),nd1 [83] 84 (.int .i64 x54),nd1 [7] 85 (.slice false (x11.1.map (eInt .i64).d)),nd1 [85] 86 (.fptr [.int .i64 x55]),nd1 [86] 87 (.int .i64 x55),nd1 [7] 88 (.slice false (x11.1.map (eInt .i64).d)),nd1 [88] 89 (.fptr [.int .i64 x56]),nd1 [89] 90 (.int .i64 x56),nd1 [81,84,87,90] 91 (.agg (w73 x53 x54 x55 x56)),nd1 [75] 92 (.ref 1000 0),nd1 [92] 93 (.ref 1000 0),nd1 [93] 94 (.ref 1000 1),nd1 [78,94] 95 (.ref 1000 (1 + (x52 : Int).toNat * 4 + 0)),⟨[91,95],[1000],[],[(1000,.blk 53 (w64 a1.Config.Paths x58.Streams x58.Window x58.Whole x58.Chunk x59.Streams x59.Window x59.Whole x59.Chunk a1.Config.First.c0 a1.Config.First.c1 x36 x37 x38 x39 x40))]⟩] rfl ?_ (by kernel_rfl) ?_
       ·refine .cons (dMv rfl) <| .cons (dMv rfl) <| .cons (lop rfl rfl fun S hA=>(cW (eInt .i64) (cs:=[.int _ _]) rfl rfl (lb rfl) un72 ti3 (svaL hA rfl rfl) (sv (d:=.int _ 0) rfl) hx52 rfl rfl)) <| .cons (lop rfl rfl fun S hA=>(cN rfl rfl (lb rfl) un3 ag3 ti3 (by decide) (sv (d:=.fptr [.int _ _]) (agr hA rfl rfl)) (nle rfl))) <| .cons (dMv rfl) <| .cons (lop rfl rfl fun S hA=>(cW (eInt .i64) (cs:=[.int _ _]) rfl rfl (lb rfl) un72 ti3 (svaL hA rfl rfl) (sv (d:=.int _ 1) rfl) hx53 rfl rfl)) <| .cons (lop rfl rfl fun S hA=>(cN rfl rfl (lb rfl) un3 ag3 ti3 (by decide) (sv (d:=.fptr [.int _ _]) (agr hA rfl rfl)) (nle rfl))) <| .cons (dMv rfl) <| .cons (lop rfl rfl fun S hA=>(cW (eInt .i64) (cs:=[.int _ _]) rfl rfl (lb rfl) un72 ti3 (svaL hA rfl rfl) (sv (d:=.int _ 2) rfl) hx54 rfl rfl)) <| .cons (lop rfl rfl fun S hA=>(cN rfl rfl (lb rfl) un3 ag3 ti3 (by decide) (sv (d:=.fptr [.int _ _]) (agr hA rfl rfl)) (nle rfl))) <| .cons (dMv rfl) <| .cons (lop rfl rfl fun S hA=>(cW (eInt .i64) (cs:=[.int _ _]) rfl rfl (lb rfl) un72 ti3 (svaL hA rfl rfl) (sv (d:=.int _ 3) rfl) hx55 rfl rfl)) <| .cons (lop rfl rfl fun S hA=>(cN rfl rfl (lb rfl) un3 ag3 ti3 (by decide) (sv (d:=.fptr [.int _ _]) (agr hA rfl rfl)) (nle rfl))) <| .cons (dMv rfl) <| .cons (lop rfl rfl fun S hA=>(cW (eInt .i64) (cs:=[.int _ _]) rfl rfl (lb rfl) un72 ti3 (svaL hA rfl rfl) (sv (d:=.int _ 4) rfl) hx56 rfl rfl)) <| .cons (lop rfl rfl fun S hA=>(cN rfl rfl (lb rfl) un3 ag3 ti3 (by decide) (sv (d:=.fptr [.int _ _]) (agr hA rfl rfl)) (nle rfl))) <| .cons (lop rfl rfl fun S hA=>(aY (cs:=q43) rfl rfl (lb rfl) un29 ti29 pl29 rfl (.cons (svaI hA rfl rfl) (.cons (svaI hA rfl rfl) (.cons (svaI hA rfl rfl) (.cons (svaI hA rfl rfl) .nil)))) rfl)) <| .cons (lop rfl rfl fun S hA=>(aS rfl rfl (lb rfl) (svaR hA rfl rfl))) <| .cons (dFa 0 un53 rfl ti32 rfl) <| .cons (dFa 1 un32 rfl ti30 rfl) <| .cons (lop rfl rfl fun S hA=>(fE rfl rfl (lb rfl) un30 ti29 (svaR hA rfl rfl) (svaI hA rfl rfl) hk57)) <| .cons (lop rfl rfl fun S hA=>(mK (b:=1) (k:=0) (sz:=4) (cs':=(w64 a1.Config.Paths x58.Streams x58.Window x58.Whole x58.Chunk x59.Streams x59.Window x59.Whole x59.Chunk a1.Config.First.c0 a1.Config.First.c1 x36 x37 x38 x39 x40)) rfl rfl ti29 (svaR hA rfl rfl) (agi hA rfl rfl) (svaA q43 hA rfl rfl) rfl rfl rfl hk57 rfl ⟨⟨trivial,fun h=>by rw [← hx58,← hx59,h]; rfl⟩,fun h=>by rw [← hx58,← hx59,h]; rfl⟩)) ?_
        exact .nil
       refine bM <| aE <| aC (cAs (.int _ 0) rfl <|aB ?_)
       refine aI ?_
       obtain rfl:=Option.some.inj h
       refine ⟨.inr rfl,(fun i=>i),⟨.nil,(.cons (.blk rfl rfl rfl) .nil),bS [1000] rfl (by decide),fun _ _=>rfl⟩,(.cons (sv rfl) .nil),rfl⟩

theorem mU (a0 : (List UInt8)) (a1 : (List UInt8)) (r : Bool) (h : dU a0 a1 = some r) : bR Tryz.prog 26 [.str a0,.str a1] (.bool r):=by
 refine aN (rs:=[.bool r]) Tryz.func26 rfl Tryz.ntmps26 (nle rfl) rfl fun O hO=>?_
 show IWP _ _ _ _ ⟨[(0,.str a0),(1,.str a1)],[]⟩ _
 unfold dU at h
 refine aC (cAs (.bool false) rfl <|aB ?_)
 obtain ⟨x1,hx1,x2,hx2,x3,hx3,h⟩:=eddo h
 obtain ⟨x4,hx4,x5,hx5,h⟩:=edd h
 refine aC (cMv (.str _) rfl <|aA rfl (cQ rfl rfl (lb rfl) un9 (sv (d:=.str _) rfl) rfl) <|cMv (.str _) rfl <|aA rfl (cQ rfl rfl (lb rfl) un9 (sv (d:=.str _) rfl) rfl) <|cCm rfl hx1 <|cB rfl <|gG rfl (fun hb=>(tMv (.str _) rfl)) <|gG rfl (fun hb=>(tMv (.str _) rfl)) <|gG rfl (fun hb=>(cQ rfl rfl (lb rfl) un9 (svc (d:=.str _) rfl hb) rfl)) <|gG rfl (fun hb=>(tMv (.str _) rfl)) <|gG rfl (fun hb=>(cQ rfl rfl (lb rfl) un9 (svc (d:=.str _) rfl hb) rfl)) <|gG rfl (fun hb=>(bB rfl rfl (lb rfl) (svcI rfl hb) (svcI rfl hb) rfl hx2)) <|gG rfl (fun hb=>(mL rfl rfl (lb rfl) un9 (svc (d:=.str _) rfl hb) ⟨_,(svcI rfl hb)⟩ rfl (gd_t hx3 hb))) <|gG rfl (fun hb=>(tMv (.str _) rfl)) <|gG rfl (fun hb=>(gF rfl rfl (lb rfl) (svc (d:=.str _) rfl hb) (svc (d:=.str _) rfl hb) rfl hx4)) <|cAn rfl hx5 <|cAB rfl <|aB ?_)
 refine aI ?_
 obtain rfl:=Option.some.inj h
 refine ⟨.inr rfl,(.cons (sv rfl) .nil)⟩

theorem tS (a0 : (List UInt8)) (a1 : (List UInt8)) (r : Bool) (h : fO a0 a1 = some r) : bR Tryz.prog 17 [.str a0,.str a1] (.bool r):=by
 refine aN (rs:=[.bool r]) Tryz.func17 rfl Tryz.ntmps17 (nle rfl) rfl fun O hO=>?_
 show IWP _ _ _ _ ⟨[(0,.str a0),(1,.str a1)],[]⟩ _
 unfold fO at h
 refine aC (cAs (.bool false) rfl <|aB ?_)
 obtain ⟨x1,hx1,h⟩:=bT h
 refine aC (cMv (.str _) rfl <|cMv (.str _) rfl <|aA rfl (aL (r:=.bool _) rfl rfl (lb rfl) cl26 (.cons (sv (d:=.str _) rfl) (.cons (sv (d:=.str _) rfl) .nil)) rfl (mU _ _ _ hx1)) <|cAB rfl <|aB ?_)
 refine aI ?_
 obtain rfl:=Option.some.inj h
 refine ⟨.inr rfl,(.cons (sv rfl) .nil)⟩

theorem gO (a0 : (List UInt8)) (r : (bF × Int × Int)) (h : eN a0 = some r) : bR Tryz.prog 8 [.str a0] (retD [.agg (tv4 r.1),.int .i64 r.2.1,.int .i64 r.2.2]):=by
 refine aN (rs:=[.agg (tv4 r.1),.int .i64 r.2.1,.int .i64 r.2.2]) Tryz.func8 rfl Tryz.ntmps8 (nle rfl) rfl fun O hO=>?_
 show IWP _ _ _ _ ⟨[(0,.str a0)],[]⟩ _
 unfold eN at h
 refine aC (aA rfl (aZ (cs:=q30) (cs':=zs0) 0 rfl rfl (lb rfl) rfl ti32 rfl rfl (.all _)) <|aA rfl (aZ (cs:=[.int _ _]) (cs':=[.int .i64 0]) 1 rfl rfl (lb rfl) rfl ti3 rfl rfl (.all _)) <|aA rfl (aZ (cs:=[.int _ _]) (cs':=[.int .i64 0]) 2 rfl rfl (lb rfl) rfl ti34 rfl rfl (.all _)) <|aB ?_)
 obtain ⟨x1,hx1,h⟩:=bT h
 refine aC (aA rfl (aL (r:=.agg q30) rfl rfl (lb rfl) cl14 .nil rfl (tM  _ hx1)) <|aA rfl (aY (cs:=q28) rfl rfl (lb rfl) un53 ti53 pl53 rfl (.cons (svA q30 rfl) .nil) rfl) <|cBx (cs:=q28) q28 3 rfl <|aA rfl (aZ (cs:=[.nilp]) (cs':=[.nilp]) 4 rfl rfl (lb rfl) rfl ti50 rfl rfl (.all _)) <|aA rfl (cH (ds':=[.ref _ _]) rfl rfl ti50 (svR rfl) rfl (svR rfl) rfl rfl rfl (nle rfl) rfl) <|aB ?_)
 refine aK <| aC (cMv (.str _) rfl <|?_)
 refine vJ (S':=⟨[(0,.str a0),(2,.ref 0 0),(3,.ref 1 0),(4,.ref 2 0),(5,.ref 4 0),(13,.str a0)],[(0,.blk 32 zs0),(1,.blk 3 [.int .i64 0]),(2,.blk 34 [.int .i64 0]),(3,.blk 53 (w64 x1.Paths x1.Values.c0.Streams x1.Values.c0.Window x1.Values.c0.Whole x1.Values.c0.Chunk x1.Values.c1.Streams x1.Values.c1.Window x1.Values.c1.Whole x1.Values.c1.Chunk x1.First.c0 x1.First.c1 false false false false false)),(4,.blk 50 [.ref 3 0])]⟩) (fun i=>i) ⟨(.sames rfl rfl),(.cons (.blk rfl rfl rfl) (.cons (.blk rfl rfl rfl) (.cons (.blk rfl rfl rfl) (.cons (.blk rfl rfl rfl) (.cons (.blk rfl rfl rfl) .nil))))),bS [0,1,2,3,4] rfl (by decide),fun _ _=>rfl⟩ <| aCl 1 5 rfl rfl rfl (by decide) cl15 Tryz.func15 rfl (.cons (sv (d:=.str _) rfl) .nil) Tryz.ntmps15 (nle rfl) rfl hO fun O1 hO1=>?_
 show IWP _ _ _ _ ⟨[(0,.str a0)],[(5,.kept 1 [.str a0,.dead,.ref 0 0,.ref 1 0,.ref 2 0,.ref 4 0,.dead,.dead,.dead,.dead,.dead,.dead,.dead,.str a0,.dead,.dead,.dead,.dead,.dead,.dead,.dead,.dead,.dead,.dead,.dead,.dead,.dead,.dead,.dead,.dead,.dead,.dead,.dead,.dead,.dead,.dead,.dead,.dead,.dead,.dead,.dead,.dead,.dead,.dead,.dead,.dead]),(0,.blk 32 zs0),(1,.blk 3 [.int .i64 0]),(2,.blk 34 [.int .i64 0]),(3,.blk 53 (w64 x1.Paths x1.Values.c0.Streams x1.Values.c0.Window x1.Values.c0.Whole x1.Values.c0.Chunk x1.Values.c1.Streams x1.Values.c1.Window x1.Values.c1.Whole x1.Values.c1.Chunk x1.First.c0 x1.First.c1 false false false false false)),(4,.blk 50 [.ref 3 0])]⟩ _
 refine aC (aA rfl (sV (cs:=[.str _]) 6 rfl rfl (lb rfl) rfl (sv (d:=.str _) rfl) rfl rfl) <|cAs (.nilf) rfl <|aB ?_)
 refine aC (aA rfl (xA rfl rfl (lb rfl) (.cons (svR rfl) .nil)) <|cAs (.fn 23 [.ref _ _]) rfl <|aB ?_)
 refine aI ?_
 refine ⟨.inr rfl,5,_,[.fn 23 [.ref 6 0]],(.cons (sv rfl) .nil),rfl,rfl,⟨[(0,.str a0),(2,.ref 0 0),(3,.ref 1 0),(4,.ref 2 0),(5,.ref 4 0),(14,.fn 23 [.ref 6 0])],[(0,.blk 32 zs0),(1,.blk 3 [.int .i64 0]),(2,.blk 34 [.int .i64 0]),(3,.blk 53 (w64 x1.Paths x1.Values.c0.Streams x1.Values.c0.Window x1.Values.c0.Whole x1.Values.c0.Chunk x1.Values.c1.Streams x1.Values.c1.Window x1.Values.c1.Whole x1.Values.c1.Chunk x1.First.c0 x1.First.c1 false false false false false)),(4,.blk 50 [.ref 3 0]),(6,.blk 9 [.str a0])]⟩,(fun i=>i),⟨(.sames rfl rfl),(.cons (.blk rfl rfl rfl) (.cons (.blk rfl rfl rfl) (.cons (.blk rfl rfl rfl) (.cons (.blk rfl rfl rfl) (.cons (.blk rfl rfl rfl) (.cons (.blk rfl rfl rfl) .nil)))))),bS [0,1,2,3,4,6] rfl (by decide),fun _ _=>rfl⟩,?_⟩
 refine aB <| aU <| xW (S':=⟨[(0,.str a0),(2,.ref 0 0),(3,.ref 1 0),(4,.ref 2 0),(5,.ref 4 0),(14,.fn 23 [.ref 6 0])],[(0,.blk 32 zs0),(1,.blk 3 [.int .i64 0]),(2,.blk 34 [.int .i64 0]),(3,.blk 53 (w64 x1.Paths x1.Values.c0.Streams x1.Values.c0.Window x1.Values.c0.Whole x1.Values.c0.Chunk x1.Values.c1.Streams x1.Values.c1.Window x1.Values.c1.Whole x1.Values.c1.Chunk x1.First.c0 x1.First.c1 false false false false false)),(4,.blk 50 [.ref 3 0]),(6,.blk 9 [.str a0])]⟩) (fun i=>i) ⟨(.sames rfl rfl),(.cons (.blk rfl rfl rfl) (.cons (.blk rfl rfl rfl) (.cons (.blk rfl rfl rfl) (.cons (.blk rfl rfl rfl) (.cons (.blk rfl rfl rfl) (.cons (.blk rfl rfl rfl) .nil)))))),bS [0,1,2,3,4,6] rfl (by decide),fun _ _=>rfl⟩ <| aBw 1 7 8 (sv (d:=.fn 23 [.ref _ _]) rfl) cl23 Tryz.func23 rfl rfl Tryz.ntmps23 (nle rfl) rfl rfl hO fun O1 hO1 hlc1=>?_
 show IWP _ _ _ _ ⟨[(0,.yld 7),(1,.ref 6 0)],[(8,.kept 1 [.str a0,.dead,.ref 0 0,.ref 1 0,.ref 2 0,.ref 4 0,.dead,.dead,.dead,.dead,.dead,.dead,.dead,.dead,.fn 23 [.ref 6 0],.dead,.dead,.dead,.dead,.dead,.dead,.dead,.dead,.dead,.dead,.dead,.dead,.dead,.dead,.dead,.dead,.dead,.dead,.dead,.dead,.dead,.dead,.dead,.dead,.dead,.dead,.dead,.dead,.dead,.dead,.dead]),(7,.loop 1 [.str a0,.dead,.ref 0 0,.ref 1 0,.ref 2 0,.ref 4 0,.dead,.dead,.dead,.dead,.dead,.dead,.dead,.dead,.fn 23 [.ref 6 0],.dead,.dead,.dead,.dead,.dead,.dead,.dead,.dead,.dead,.dead,.dead,.dead,.dead,.dead,.dead,.dead,.dead,.dead,.dead,.dead,.dead,.dead,.dead,.dead,.dead,.dead,.dead,.dead,.dead,.dead,.dead] .ready none),(0,.blk 32 zs0),(1,.blk 3 [.int .i64 0]),(2,.blk 34 [.int .i64 0]),(3,.blk 53 (w64 x1.Paths x1.Values.c0.Streams x1.Values.c0.Window x1.Values.c0.Whole x1.Values.c0.Chunk x1.Values.c1.Streams x1.Values.c1.Window x1.Values.c1.Whole x1.Values.c1.Chunk x1.First.c0 x1.First.c1 false false false false false)),(4,.blk 50 [.ref 3 0]),(6,.blk 9 [.str a0])]⟩ _
 obtain ⟨x71,hx71,h⟩:=bT h
 refine aC (cLd (d:=.str _) un9 ag9 ti9 rfl <|aA rfl (aL (r:=.slice _ _) rfl rfl (lb rfl) cl24 (.cons (sv (d:=.str _) rfl) (.cons (sv (d:=.str [10]) rfl) .nil)) rfl (rX _ _ _ hx71)) <|aA rfl (dD eStr (l:=x71) rfl rfl (lb rfl) un79 (svL rfl)) <|cMv (.int _ 0) rfl <|aB ?_)
 refine aU <| cP (α:=Nat × Int × Int × Int × Int × Int × Int × Int × Int × Int × Int × Int × Int × Bool × Bool × Bool × Bool × Bool) (fun z=>⟨[(0,.yld 7),(6,.slice false (x71.map eStr.d)),(7,.int .i64 (x71.length : Int)),(8,.int .i64 z.2.1)],[(7,.loop 1 [.str a0,.dead,.ref 0 0,.ref 1 0,.ref 2 0,.ref 4 0,.dead,.dead,.dead,.dead,.dead,.dead,.dead,.dead,.fn 23 [.ref 6 0],.dead,.dead,.dead,.dead,.dead,.dead,.dead,.dead,.dead,.dead,.dead,.dead,.dead,.dead,.dead,.dead,.dead,.dead,.dead,.dead,.dead,.dead,.dead,.dead,.dead,.dead,.dead,.dead,.dead,.dead,.dead] .ready none),(8,.kept 1 [.str a0,.dead,.ref 0 0,.ref 1 0,.ref 2 0,.ref 4 0,.dead,.dead,.dead,.dead,.dead,.dead,.dead,.dead,.fn 23 [.ref 6 0],.dead,.dead,.dead,.dead,.dead,.dead,.dead,.dead,.dead,.dead,.dead,.dead,.dead,.dead,.dead,.dead,.dead,.dead,.dead,.dead,.dead,.dead,.dead,.dead,.dead,.dead,.dead,.dead,.dead,.dead,.dead]),(0,.blk 32 zs0),(1,.blk 3 [.int .i64 0]),(2,.blk 34 [.int .i64 0]),(4,.blk 50 [.ref 3 0]),(6,.blk 9 [.str a0]),(3,.blk 53 (w64 z.2.2.1 z.2.2.2.1 z.2.2.2.2.1 z.2.2.2.2.2.1 z.2.2.2.2.2.2.1 z.2.2.2.2.2.2.2.1 z.2.2.2.2.2.2.2.2.1 z.2.2.2.2.2.2.2.2.2.1 z.2.2.2.2.2.2.2.2.2.2.1 z.2.2.2.2.2.2.2.2.2.2.2.1 z.2.2.2.2.2.2.2.2.2.2.2.2.1 z.2.2.2.2.2.2.2.2.2.2.2.2.2.1 z.2.2.2.2.2.2.2.2.2.2.2.2.2.2.1 z.2.2.2.2.2.2.2.2.2.2.2.2.2.2.2.1 z.2.2.2.2.2.2.2.2.2.2.2.2.2.2.2.2.1 z.2.2.2.2.2.2.2.2.2.2.2.2.2.2.2.2.2))]⟩) (fun z=>eS a0 x71 z.1 z.2.1 z.2.2.1 z.2.2.2.1 z.2.2.2.2.1 z.2.2.2.2.2.1 z.2.2.2.2.2.2.1 z.2.2.2.2.2.2.2.1 z.2.2.2.2.2.2.2.2.1 z.2.2.2.2.2.2.2.2.2.1 z.2.2.2.2.2.2.2.2.2.2.1 z.2.2.2.2.2.2.2.2.2.2.2.1 z.2.2.2.2.2.2.2.2.2.2.2.2.1 z.2.2.2.2.2.2.2.2.2.2.2.2.2.1 z.2.2.2.2.2.2.2.2.2.2.2.2.2.2.1 z.2.2.2.2.2.2.2.2.2.2.2.2.2.2.2.1 z.2.2.2.2.2.2.2.2.2.2.2.2.2.2.2.2.1 z.2.2.2.2.2.2.2.2.2.2.2.2.2.2.2.2.2 = some r) (fun z=>z.1) (fuel,0,x1.Paths,x1.Values.c0.Streams,x1.Values.c0.Window,x1.Values.c0.Whole,x1.Values.c0.Chunk,x1.Values.c1.Streams,x1.Values.c1.Window,x1.Values.c1.Whole,x1.Values.c1.Chunk,x1.First.c0,x1.First.c1,false,false,false,false,false) (fun i=>i) ⟨(.sames rfl rfl),(.cons (.loop rfl rfl rfl) (.cons (.kept rfl rfl rfl) (.cons (.blk rfl rfl rfl) (.cons (.blk rfl rfl rfl) (.cons (.blk rfl rfl rfl) (.cons (.blk rfl rfl rfl) (.cons (.blk rfl rfl rfl) (.cons (.blk rfl rfl rfl) .nil)))))))),bS [7,8,0,1,2,4,6,3] rfl (by decide),fun _ _=>rfl⟩ ?_ ?_
 ·exact h
 ·
  rintro ⟨n1,v89,v90,v91,v92,v93,v94,v95,v96,v97,v98,v99,v100,v101,v102,v103,v104,v105⟩ h
  cases n1 with
  | zero=>exact absurd h (by unfold eS; exact nofun)
  | succ n1 =>
   unfold eS at h
   obtain ⟨x123,hx123,h⟩:=bE h
   refine aC (cCm rfl hx123 <|aB ?_)
   refine aK <| aH h rfl (fun h=>?_) (fun h=>?_)
   ·
    refine aJ <| aE <| aK <| aU ?_
    obtain ⟨x125,hx125,h⟩:=bT h
    refine aC (cI rfl <|aA rfl (cW eStr (cs:=[.str _]) rfl rfl (lb rfl) un79 ti9 (svL rfl) (svI rfl) hx125 rfl rfl) <|aA rfl (cN rfl rfl (lb rfl) un9 ag9 ti9 (by decide) (sv (d:=.fptr [.str _]) rfl) (nle rfl)) <|cAI rfl <|cAs (.str _) rfl <|aB ?_)
    obtain ⟨x126,hx126,x127,hx127,x128,hx128,h⟩:=edod h
    obtain ⟨x129,hx129,x130,hx130,h⟩:=edd h
    refine aC (cMv (.str _) rfl <|aA rfl (gF rfl rfl (lb rfl) (sv (d:=.str _) rfl) (sv (d:=.str []) rfl) rfl hx126) <|cB rfl <|gG rfl (fun hb=>(tMv (.str _) rfl)) <|gG rfl (fun hb=>(iX rfl rfl (lb rfl) un9 (svc (d:=.str _) rfl hb) (sv (d:=.int _ 0) rfl) (gd_t hx127 hb))) <|gG rfl (fun hb=>(tCg (b:=35) rfl hb hx128)) <|cAn rfl hx129 <|cB rfl <|gG rfl (fun hb=>(tMv (.yld _) rfl)) <|gG rfl (fun hb=>(tI rfl)) <|gG rfl (fun hb=>(bB rfl rfl (lb rfl) (svcI rfl hb) (sv (d:=.int _ 1) rfl) rfl hx130)) <|gG rfl (fun hb=>(tMv (.str _) rfl)) <|?_)
    refine aAf rfl rfl (.one rfl) rfl (by decide) (fun hc131=>?_) (fun hc131=>?_)
    ·
     replace h:=tG h hc131
     refine qF 21 rfl hc131 <| qF 22 rfl hc131 <| qF 23 rfl hc131 <| qF 24 rfl hc131 <| vJ (S':=⟨[(0,.yld 7),(6,.slice false (x71.map eStr.d)),(7,.int .i64 (x71.length : Int)),(8,.int .i64 v89),(20,.bool x129),(21,.yld 7),(22,.int .i64 v89),(23,.int .i64 x130),(24,.str x125)],[(0,.blk 32 zs0),(1,.blk 3 [.int .i64 0]),(2,.blk 34 [.int .i64 0]),(3,.blk 53 (w64 v90 v91 v92 v93 v94 v95 v96 v97 v98 v99 v100 v101 v102 v103 v104 v105)),(4,.blk 50 [.ref 3 0]),(6,.blk 9 [.str a0]),(7,.loop 1 [.str a0,.dead,.ref 0 0,.ref 1 0,.ref 2 0,.ref 4 0,.dead,.dead,.dead,.dead,.dead,.dead,.dead,.dead,.fn 23 [.ref 6 0],.dead,.dead,.dead,.dead,.dead,.dead,.dead,.dead,.dead,.dead,.dead,.dead,.dead,.dead,.dead,.dead,.dead,.dead,.dead,.dead,.dead,.dead,.dead,.dead,.dead,.dead,.dead,.dead,.dead,.dead,.dead] .ready none),(8,.kept 1 [.str a0,.dead,.ref 0 0,.ref 1 0,.ref 2 0,.ref 4 0,.dead,.dead,.dead,.dead,.dead,.dead,.dead,.dead,.fn 23 [.ref 6 0],.dead,.dead,.dead,.dead,.dead,.dead,.dead,.dead,.dead,.dead,.dead,.dead,.dead,.dead,.dead,.dead,.dead,.dead,.dead,.dead,.dead,.dead,.dead,.dead,.dead,.dead,.dead,.dead,.dead,.dead,.dead])]⟩) (fun i=>i) ⟨(.sames rfl rfl),(.cons (.blk rfl rfl rfl) (.cons (.blk rfl rfl rfl) (.cons (.blk rfl rfl rfl) (.cons (.blk rfl rfl rfl) (.cons (.blk rfl rfl rfl) (.cons (.blk rfl rfl rfl) (.cons (.loop rfl rfl rfl) (.cons (.kept rfl rfl rfl) .nil)))))))),bS [0,1,2,3,4,6,7,8] rfl (by decide),fun _ _=>rfl⟩ <| aB6 2 7 9 rfl rfl rfl (by decide) rfl (.cons (svI rfl) (.cons (sv (d:=.str _) rfl) .nil)) rfl rfl rfl rfl rfl rfl hO1 hlc1 ⟨[(16,.str x125),(15,.int .i64 x130),(2,.ref 0 0),(3,.ref 1 0),(4,.ref 2 0),(5,.ref 4 0)],[(0,.blk 32 zs0),(1,.blk 3 [.int .i64 0]),(2,.blk 34 [.int .i64 0]),(3,.blk 53 (w64 v90 v91 v92 v93 v94 v95 v96 v97 v98 v99 v100 v101 v102 v103 v104 v105)),(4,.blk 50 [.ref 3 0]),(6,.blk 9 [.str a0]),(7,.loop 1 [.str a0,.dead,.ref 0 0,.ref 1 0,.ref 2 0,.ref 4 0,.dead,.dead,.dead,.dead,.dead,.dead,.dead,.dead,.fn 23 [.ref 6 0],.dead,.dead,.dead,.dead,.dead,.dead,.dead,.dead,.dead,.dead,.dead,.dead,.dead,.dead,.dead,.dead,.dead,.dead,.dead,.dead,.dead,.dead,.dead,.dead,.dead,.dead,.dead,.dead,.dead,.dead,.dead] .ready none),(8,.kept 1 [.str a0,.dead,.ref 0 0,.ref 1 0,.ref 2 0,.ref 4 0,.dead,.dead,.dead,.dead,.dead,.dead,.dead,.dead,.fn 23 [.ref 6 0],.dead,.dead,.dead,.dead,.dead,.dead,.dead,.dead,.dead,.dead,.dead,.dead,.dead,.dead,.dead,.dead,.dead,.dead,.dead,.dead,.dead,.dead,.dead,.dead,.dead,.dead,.dead,.dead,.dead,.dead,.dead]),(9,.kept 2 [.yld 7,.dead,.dead,.dead,.dead,.dead,.slice false (x71.map eStr.d),.int .i64 (x71.length : Int),.int .i64 v89,.dead,.dead,.dead,.dead,.dead,.dead,.dead,.dead,.dead,.dead,.dead,.bool x129,.yld 7,.int .i64 v89,.int .i64 x130,.str x125,.dead,.dead,.dead,.dead])]⟩ (fun i=>i) ⟨(.sames rfl rfl),(.cons (.blk rfl rfl rfl) (.cons (.blk rfl rfl rfl) (.cons (.blk rfl rfl rfl) (.cons (.blk rfl rfl rfl) (.cons (.blk rfl rfl rfl) (.cons (.blk rfl rfl rfl) (.cons (.loop rfl rfl rfl) (.cons (.kept rfl rfl rfl) (.cons (.kept rfl rfl rfl) .nil))))))))),bS [0,1,2,3,4,6,7,8,9] rfl (by decide),fun _ _=>rfl⟩ fun O2=>?_
     refine aC (cAI rfl <|aB ?_)
     refine aR (cAs (.str _) rfl <|bK ?_)
     refine ⟨rfl,7,_,rfl,⟨[(2,.ref 0 0),(3,.ref 1 0),(4,.ref 2 0),(5,.ref 4 0),(6,.int .i64 x130),(7,.str x125)],[(0,.blk 32 zs0),(1,.blk 3 [.int .i64 0]),(2,.blk 34 [.int .i64 0]),(3,.blk 53 (w64 v90 v91 v92 v93 v94 v95 v96 v97 v98 v99 v100 v101 v102 v103 v104 v105)),(4,.blk 50 [.ref 3 0]),(6,.blk 9 [.str a0]),(7,.loop 1 [.str a0,.dead,.ref 0 0,.ref 1 0,.ref 2 0,.ref 4 0,.dead,.dead,.dead,.dead,.dead,.dead,.dead,.dead,.fn 23 [.ref 6 0],.dead,.dead,.dead,.dead,.dead,.dead,.dead,.dead,.dead,.dead,.dead,.dead,.dead,.dead,.dead,.dead,.dead,.dead,.dead,.dead,.dead,.dead,.dead,.dead,.dead,.dead,.dead,.dead,.dead,.dead,.dead] .busy none),(8,.kept 1 [.str a0,.dead,.ref 0 0,.ref 1 0,.ref 2 0,.ref 4 0,.dead,.dead,.dead,.dead,.dead,.dead,.dead,.dead,.fn 23 [.ref 6 0],.dead,.dead,.dead,.dead,.dead,.dead,.dead,.dead,.dead,.dead,.dead,.dead,.dead,.dead,.dead,.dead,.dead,.dead,.dead,.dead,.dead,.dead,.dead,.dead,.dead,.dead,.dead,.dead,.dead,.dead,.dead]),(9,.kept 2 [.yld 7,.dead,.dead,.dead,.dead,.dead,.slice false (x71.map eStr.d),.int .i64 (x71.length : Int),.int .i64 v89,.dead,.dead,.dead,.dead,.dead,.dead,.dead,.dead,.dead,.dead,.dead,.bool x129,.yld 7,.int .i64 v89,.int .i64 x130,.str x125,.dead,.dead,.dead,.dead])]⟩,(fun i=>i),⟨(.sames rfl rfl),(.cons (.blk rfl rfl rfl) (.cons (.blk rfl rfl rfl) (.cons (.blk rfl rfl rfl) (.cons (.blk rfl rfl rfl) (.cons (.blk rfl rfl rfl) (.cons (.blk rfl rfl rfl) (.cons (.loop rfl rfl rfl) (.cons (.kept rfl rfl rfl) (.cons (.kept rfl rfl rfl) .nil))))))))),bS [0,1,2,3,4,6,7,8,9] rfl (by decide),fun _ _=>rfl⟩,?_⟩
     refine aU ?_
     obtain ⟨x132,hx132,h⟩:=bT h
     refine aC (cLd (d:=.ref _ _) Tryz.underlying50 ag50 ti50 rfl <|cMv (.str _) rfl <|aA rfl (fQ (r':=.int .i64 x132.1) (H1':=[(3,.blk 53 (tv1 x132.2))]) 10 [3] rfl rfl (lb rfl) cl16 (.cons (svR rfl) (.cons (sv (d:=.str _) rfl) .nil)) rfl rfl ⟨rfl,rfl,by decide,rfl,List.forall_mem_cons.2 ⟨⟨rfl,rfl,rfl,rfl⟩,List.forall_mem_nil _⟩⟩ (rJ _ _ _ hx132) rfl rfl (List.forall_mem_cons.2 ⟨⟨rfl,rfl⟩,List.forall_mem_nil _⟩) rfl) <|cAI rfl <|aB ?_)
     obtain ⟨x133,hx133,h⟩:=bE h
     refine aC (cI rfl <|cCm (b:=0) rfl hx133 <|aB ?_)
     refine aH h rfl (fun h=>?_) (fun h=>?_)
     ·
      refine aC (aA rfl (aY (cs:=q30) rfl rfl (lb rfl) un32 ti32 pl32 rfl .nil rfl) <|cI rfl <|cI rfl <|cSt q30 q30 ti32 rfl <|aA rfl (cH (ds':=[.int _ _]) rfl rfl ti3 (svR rfl) rfl (svI rfl) rfl rfl rfl (nle rfl) rfl) <|aA rfl (cH (ds':=[.int _ _]) rfl rfl ti34 (svR rfl) rfl (svI rfl) rfl rfl rfl (nle rfl) rfl) <|aB ?_)
      refine aI <| bJ ?_
      refine ⟨7,9,_,_,(some .ret),rfl,rfl,rfl,rfl,(by decide),⟨[(0,.yld 7),(6,.slice false (x71.map eStr.d)),(7,.int .i64 (x71.length : Int)),(8,.int .i64 v89),(20,.bool x129),(21,.yld 7),(22,.int .i64 v89),(23,.int .i64 x130),(24,.str x125),(25,.bool false)],[(0,.blk 32 zs0),(1,.blk 3 [.int .i64 x130]),(2,.blk 34 [.int .i64 x132.1]),(3,.blk 53 (tv1 x132.2)),(4,.blk 50 [.ref 3 0]),(6,.blk 9 [.str a0]),(7,.loop 1 [.str a0,.dead,.ref 0 0,.ref 1 0,.ref 2 0,.ref 4 0,.dead,.dead,.dead,.dead,.dead,.dead,.dead,.dead,.fn 23 [.ref 6 0],.dead,.dead,.dead,.dead,.dead,.dead,.dead,.dead,.dead,.dead,.dead,.dead,.dead,.dead,.dead,.dead,.dead,.dead,.dead,.dead,.dead,.dead,.dead,.dead,.dead,.dead,.dead,.dead,.dead,.dead,.dead] .done (some .ret)),(8,.kept 1 [.str a0,.dead,.ref 0 0,.ref 1 0,.ref 2 0,.ref 4 0,.dead,.dead,.dead,.dead,.dead,.dead,.dead,.dead,.fn 23 [.ref 6 0],.dead,.dead,.dead,.dead,.dead,.dead,.dead,.dead,.dead,.dead,.dead,.dead,.dead,.dead,.dead,.dead,.dead,.dead,.dead,.dead,.dead,.dead,.dead,.dead,.dead,.dead,.dead,.dead,.dead,.dead,.dead])]⟩,(fun i=>i),⟨(.sames rfl rfl),(.cons (.blk rfl rfl rfl) (.cons (.blk rfl rfl rfl) (.cons (.blk rfl rfl rfl) (.cons (.blk rfl rfl rfl) (.cons (.blk rfl rfl rfl) (.cons (.blk rfl rfl rfl) (.cons (.loop rfl rfl rfl) (.cons (.kept rfl rfl rfl) .nil)))))))),bS [0,1,2,3,4,6,7,8] rfl (by decide),fun _ _=>rfl⟩,?_⟩
      obtain ⟨x135,hx135,h⟩:=bE h
      refine gG rfl (fun hb=>(dJ rfl rfl (lb rfl) (svB rfl))) <|cAn rfl hx135 <|aB ?_
      refine gC rfl (and_tt hx135 (beq_t hc131)) <| aI <| bJ <| aQ <| aQ <| bJ ?_
      refine ⟨.inr rfl,7,8,_,_,_,_,rfl,(by simp),rfl,rfl,⟨[(2,.ref 0 0),(3,.ref 1 0),(4,.ref 2 0)],[(0,.blk 32 zs0),(1,.blk 3 [.int .i64 x130]),(2,.blk 34 [.int .i64 x132.1])]⟩,(fun i=>i),⟨(.sames rfl rfl),(.cons (.blk rfl rfl rfl) (.cons (.blk rfl rfl rfl) (.cons (.blk rfl rfl rfl) .nil))),bS [0,1,2] rfl (by decide),fun _ _=>rfl⟩,?_⟩
      refine aI <| bJ <| aQ ?_
      obtain rfl:=Option.some.inj h
      refine ⟨.inr rfl,(.cons (rva la32 rfl rfl (nle rfl) rfl) (.cons (wR rfl rfl un3 ag3 ti3 (by decide) (nle rfl) rfl) (.cons (wR rfl rfl un34 ag34 ti34 (by decide) (nle rfl) rfl) .nil)))⟩
     ·
      refine aJ <| bM ?_
      refine ⟨7,9,_,_,none,rfl,rfl,rfl,rfl,(by decide),⟨[(0,.yld 7),(6,.slice false (x71.map eStr.d)),(7,.int .i64 (x71.length : Int)),(8,.int .i64 v89),(20,.bool x129),(21,.yld 7),(22,.int .i64 v89),(23,.int .i64 x130),(24,.str x125),(25,.bool true)],[(0,.blk 32 zs0),(1,.blk 3 [.int .i64 0]),(2,.blk 34 [.int .i64 0]),(3,.blk 53 (tv1 x132.2)),(4,.blk 50 [.ref 3 0]),(6,.blk 9 [.str a0]),(7,.loop 1 [.str a0,.dead,.ref 0 0,.ref 1 0,.ref 2 0,.ref 4 0,.dead,.dead,.dead,.dead,.dead,.dead,.dead,.dead,.fn 23 [.ref 6 0],.dead,.dead,.dead,.dead,.dead,.dead,.dead,.dead,.dead,.dead,.dead,.dead,.dead,.dead,.dead,.dead,.dead,.dead,.dead,.dead,.dead,.dead,.dead,.dead,.dead,.dead,.dead,.dead,.dead,.dead,.dead] .ready none),(8,.kept 1 [.str a0,.dead,.ref 0 0,.ref 1 0,.ref 2 0,.ref 4 0,.dead,.dead,.dead,.dead,.dead,.dead,.dead,.dead,.fn 23 [.ref 6 0],.dead,.dead,.dead,.dead,.dead,.dead,.dead,.dead,.dead,.dead,.dead,.dead,.dead,.dead,.dead,.dead,.dead,.dead,.dead,.dead,.dead,.dead,.dead,.dead,.dead,.dead,.dead,.dead,.dead,.dead,.dead])]⟩,(fun i=>i),⟨(.sames rfl rfl),(.cons (.blk rfl rfl rfl) (.cons (.blk rfl rfl rfl) (.cons (.blk rfl rfl rfl) (.cons (.blk rfl rfl rfl) (.cons (.blk rfl rfl rfl) (.cons (.blk rfl rfl rfl) (.cons (.loop rfl rfl rfl) (.cons (.kept rfl rfl rfl) .nil)))))))),bS [0,1,2,3,4,6,7,8] rfl (by decide),fun _ _=>rfl⟩,?_⟩
      obtain ⟨x136,hx136,h⟩:=bE h
      refine gG rfl (fun hb=>(dJ rfl rfl (lb rfl) (svB rfl))) <|cAn rfl hx136 <|aB ?_
      refine sR rfl (and_ff hx136) <| aJ <| bM <| aE ?_
      obtain ⟨x137,hx137,h⟩:=bE h
      refine aR (aA rfl (bB rfl rfl (lb rfl) (svI rfl) (sv (d:=.int _ 1) rfl) rfl hx137) <|cI rfl <|bK ?_)
      refine aE ⟨(n1,x137,x132.2.Config.Paths,x132.2.Config.Values.c0.Streams,x132.2.Config.Values.c0.Window,x132.2.Config.Values.c0.Whole,x132.2.Config.Values.c0.Chunk,x132.2.Config.Values.c1.Streams,x132.2.Config.Values.c1.Window,x132.2.Config.Values.c1.Whole,x132.2.Config.Values.c1.Chunk,x132.2.Config.First.c0,x132.2.Config.First.c1,x132.2.seen.c0,x132.2.seen.c1,x132.2.seen.c2,x132.2.seen.c3,x132.2.seen.c4),(fun i=>i),⟨(.sames rfl rfl),(.cons (.loop rfl rfl rfl) (.cons (.kept rfl rfl rfl) (.cons (.blk rfl rfl rfl) (.cons (.blk rfl rfl rfl) (.cons (.blk rfl rfl rfl) (.cons (.blk rfl rfl rfl) (.cons (.blk rfl rfl rfl) (.cons (.blk rfl rfl rfl) .nil)))))))),bS [7,8,0,1,2,4,6,3] rfl (by decide),fun _ _=>rfl⟩,?_,?_⟩
      exact h
      exact Nat.lt_succ_self _
    ·
     replace h:=tH h hc131
     obtain ⟨x138,hx138,h⟩:=bE h
     refine gG rfl (fun hb=>(dJ rfl rfl (lb rfl) (svcB rfl hb))) <|cAn rfl hx138 <|aB ?_
     refine sR rfl (and_cf hx138 (beq_f hc131)) <| aJ <| bM <| aE ?_
     obtain ⟨x139,hx139,h⟩:=bE h
     refine aR (aA rfl (bB rfl rfl (lb rfl) (svI rfl) (sv (d:=.int _ 1) rfl) rfl hx139) <|cI rfl <|bK ?_)
     refine aE ⟨(n1,x139,v90,v91,v92,v93,v94,v95,v96,v97,v98,v99,v100,v101,v102,v103,v104,v105),(fun i=>i),⟨(.sames rfl rfl),(.cons (.loop rfl rfl rfl) (.cons (.kept rfl rfl rfl) (.cons (.blk rfl rfl rfl) (.cons (.blk rfl rfl rfl) (.cons (.blk rfl rfl rfl) (.cons (.blk rfl rfl rfl) (.cons (.blk rfl rfl rfl) (.cons (.blk rfl rfl rfl) .nil)))))))),bS [7,8,0,1,2,4,6,3] rfl (by decide),fun _ _=>rfl⟩,?_,?_⟩
     exact h
     exact Nat.lt_succ_self _
   ·
    refine cC <| aW <| aW <| cD ?_
    refine ⟨.inl rfl,7,8,_,_,_,_,rfl,(by simp),rfl,rfl,⟨[(0,.str a0),(2,.ref 0 0),(3,.ref 1 0),(4,.ref 2 0),(5,.ref 4 0)],[(0,.blk 32 zs0),(1,.blk 3 [.int .i64 0]),(2,.blk 34 [.int .i64 0]),(3,.blk 53 (w64 v90 v91 v92 v93 v94 v95 v96 v97 v98 v99 v100 v101 v102 v103 v104 v105)),(4,.blk 50 [.ref 3 0])]⟩,(fun i=>i),⟨(.sames rfl rfl),(.cons (.blk rfl rfl rfl) (.cons (.blk rfl rfl rfl) (.cons (.blk rfl rfl rfl) (.cons (.blk rfl rfl rfl) (.cons (.blk rfl rfl rfl) .nil))))),bS [0,1,2,3,4] rfl (by decide),fun _ _=>rfl⟩,?_⟩
    refine bM <| aE <| aK ?_
    obtain ⟨x140,hx140,x141,hx141,x142,hx142,h⟩:=edod h
    refine aC (cMv (.str _) rfl <|aA rfl (gF rfl rfl (lb rfl) (sv (d:=.str _) rfl) (sv (d:=.str []) rfl) rfl hx140) <|cB rfl <|gG rfl (fun hb=>(tMv (.str _) rfl)) <|gG rfl (fun hb=>(aL (r:=.bool _) rfl rfl (lb rfl) cl17 (.cons (svc (d:=.str _) rfl hb) (.cons (sv (d:=.str [10]) rfl) .nil)) rfl (tS _ _ _ (gd_t hx141 hb)))) <|gG rfl (fun hb=>(dJ rfl rfl (lb rfl) (svcB rfl hb))) <|cAn rfl hx142 <|aB ?_)
    refine aH h rfl (fun h=>?_) (fun h=>?_)
    ·
     refine aC (aA rfl (aY (cs:=q30) rfl rfl (lb rfl) un32 ti32 pl32 rfl .nil rfl) <|cSt q30 q30 ti32 rfl <|aA rfl (cH (ds':=[.int _ _]) rfl rfl ti3 (svR rfl) rfl (sv (d:=.int _ 0) rfl) rfl rfl rfl (nle rfl) rfl) <|aA rfl (cH (ds':=[.int _ _]) rfl rfl ti34 (svR rfl) rfl (sv (d:=.int _ 3) rfl) rfl rfl rfl (nle rfl) rfl) <|aB ?_)
     refine aI <| aQ ?_
     obtain rfl:=Option.some.inj h
     refine ⟨.inr rfl,(.cons (rva la32 rfl rfl (nle rfl) rfl) (.cons (wR rfl rfl un3 ag3 ti3 (by decide) (nle rfl) rfl) (.cons (wR rfl rfl un34 ag34 ti34 (by decide) (nle rfl) rfl) .nil)))⟩
    ·
     refine aJ <| aE <| aK ?_
     obtain ⟨x144,hx144,h⟩:=bT h
     refine aC (cLd (d:=.ref _ _) Tryz.underlying50 ag50 ti50 rfl <|aA rfl (aS rfl rfl (lb rfl) (svR rfl)) <|cFa 0 un53 rfl ti32 rfl <|cLr q30 la32 rfl <|aA rfl (aL (r:=.int _ _) rfl rfl (lb rfl) cl6 (.cons (svA q30 rfl) .nil) rfl (lD _ _ hx144)) <|cAI rfl <|aB ?_)
     obtain ⟨x145,hx145,h⟩:=bE h
     refine aC (cI rfl <|cCm (b:=0) rfl hx145 <|aB ?_)
     refine aH h rfl (fun h=>?_) (fun h=>?_)
     ·
      refine aC (aA rfl (aY (cs:=q30) rfl rfl (lb rfl) un32 ti32 pl32 rfl .nil rfl) <|cI rfl <|cSt q30 q30 ti32 rfl <|aA rfl (cH (ds':=[.int _ _]) rfl rfl ti3 (svR rfl) rfl (sv (d:=.int _ 0) rfl) rfl rfl rfl (nle rfl) rfl) <|aA rfl (cH (ds':=[.int _ _]) rfl rfl ti34 (svR rfl) rfl (svI rfl) rfl rfl rfl (nle rfl) rfl) <|aB ?_)
      refine aI <| aQ ?_
      obtain rfl:=Option.some.inj h
      refine ⟨.inr rfl,(.cons (rva la32 rfl rfl (nle rfl) rfl) (.cons (wR rfl rfl un3 ag3 ti3 (by decide) (nle rfl) rfl) (.cons (wR rfl rfl un34 ag34 ti34 (by decide) (nle rfl) rfl) .nil)))⟩
     ·
      refine aJ <| aE <| aC (cLd (d:=.ref _ _) Tryz.underlying50 ag50 ti50 rfl <|aA rfl (aS rfl rfl (lb rfl) (svR rfl)) <|cFa 0 un53 rfl ti32 rfl <|cLr q30 la32 rfl <|cSt q30 q30 ti32 rfl <|aA rfl (cH (ds':=[.int _ _]) rfl rfl ti3 (svR rfl) rfl (sv (d:=.int _ 0) rfl) rfl rfl rfl (nle rfl) rfl) <|aA rfl (cH (ds':=[.int _ _]) rfl rfl ti34 (svR rfl) rfl (sv (d:=.int _ 0) rfl) rfl rfl rfl (nle rfl) rfl) <|aB ?_)
      refine aI ?_
      obtain rfl:=Option.some.inj h
      refine ⟨.inr rfl,(.cons (rva la32 rfl rfl (nle rfl) rfl) (.cons (wR rfl rfl un3 ag3 ti3 (by decide) (nle rfl) rfl) (.cons (wR rfl rfl un34 ag34 ti34 (by decide) (nle rfl) rfl) .nil)))⟩

theorem mF (a0 : bF) (r : Int) (h : iI a0 = some r) : bR Tryz.prog 11 [.agg (tv4 a0)] (.int .u32 r):=by
 refine aN (rs:=[.int .u32 r]) Tryz.func11 rfl Tryz.ntmps11 (nle rfl) rfl fun O hO=>?_
 show IWP _ _ _ _ ⟨[(0,.agg (tv4 a0))],[]⟩ _
 unfold iI at h
 refine aC (cBx (cs:=q30) q30 0 rfl <|cAs (.int _ 0) rfl <|aB ?_)
 obtain ⟨x1,hx1,h⟩:=bT h
 refine aC (cLr q30 la32 rfl <|aA rfl (aL (r:=.tuple q53) rfl rfl (lb rfl) cl5 (.cons (svA q30 rfl) .nil) rfl (pP _ _ hx1)) <|cMv (.tuple q53) rfl <|cEx (d:=.str _) (cs:=q53) rfl <|cEx (d:=.int _ _) (cs:=q53) rfl <|cAs (.str _) rfl <|cAI rfl <|aB ?_)
 refine aK ?_
 obtain ⟨x2,hx2,h⟩:=bE h
 refine aC (cI rfl <|cCm (b:=0) rfl hx2 <|aB ?_)
 refine aH h rfl (fun h=>?_) (fun h=>?_)
 ·
  refine aC (cAs (.int _ 0) rfl <|aB ?_)
  refine aI <| aQ ?_
  obtain rfl:=Option.some.inj h
  refine ⟨.inr rfl,(.cons (sv rfl) .nil)⟩
 ·
  refine aJ <| aE <| aC (cAs (.int _ 2166136261) rfl <|aB ?_)
  refine aK <| aC (cMv (.str _) rfl <|aA rfl (qV rfl rfl (lb rfl) un9 un71 un5 (sv (d:=.str _) rfl)) <|aA rfl (dD gI (l:=x1.1) rfl rfl (lb rfl) un71 (svL rfl)) <|cMv (.int _ 0) rfl <|aB ?_)
  refine aU <| cP (α:=Nat × Int × Int) (fun z=>⟨[(5,.int .u32 z.2.1),(16,.slice false (x1.1.map gI.d)),(17,.int .i64 (x1.1.length : Int)),(18,.int .i64 z.2.2)],[]⟩) (fun z=>fJ x1 z.1 z.2.1 z.2.2 = some r) (fun z=>z.1) (fuel,2166136261,0) (fun i=>i) ⟨(.sames rfl rfl),.nil,bS [] rfl (by decide),fun _ _=>rfl⟩ ?_ ?_
  ·exact h
  ·
   rintro ⟨n0,v11,v12⟩ h
   cases n0 with
   | zero=>exact absurd h (by unfold fJ; exact nofun)
   | succ n0 =>
    unfold fJ at h
    obtain ⟨x20,hx20,h⟩:=bE h
    refine aC (cCm rfl hx20 <|aB ?_)
    refine aK <| aH h rfl (fun h=>?_) (fun h=>?_)
    ·
     refine aJ <| aE <| aK <| aU ?_
     obtain ⟨x22,hx22,h⟩:=bT h
     refine aC (aA rfl (cW gI (cs:=[.int _ _]) rfl rfl (lb rfl) un71 ti5 (svL rfl) (svI rfl) hx22 rfl rfl) <|aA rfl (cN rfl rfl (lb rfl) un5 ag5 ti5 (by decide) (sv (d:=.fptr [.int _ _]) rfl) (nle rfl)) <|cAI rfl <|aB ?_)
     obtain ⟨x23,hx23,x24,hx24,h⟩:=edd h
     refine aC (cI rfl <|cI rfl <|aA rfl (eJ rfl rfl (lb rfl) ⟨_,un5⟩ un25 (svI rfl) hx23) <|aA rfl (bB rfl rfl (lb rfl) (svI rfl) (svI rfl) rfl hx24) <|cAI rfl <|aB ?_)
     obtain ⟨x25,hx25,h⟩:=bE h
     refine aR (cI rfl <|aA rfl (bB rfl rfl (lb rfl) (svI rfl) (sv (d:=.int _ 16777619) rfl) rfl hx25) <|cAI rfl <|bK ?_)
     refine bM <| aE ?_
     obtain ⟨x26,hx26,h⟩:=bE h
     refine aR (aA rfl (bB rfl rfl (lb rfl) (svI rfl) (sv (d:=.int _ 1) rfl) rfl hx26) <|cI rfl <|bK ?_)
     refine aE ⟨(n0,x25,x26),(fun i=>i),⟨(.sames rfl rfl),.nil,bS [] rfl (by decide),fun _ _=>rfl⟩,?_,?_⟩
     exact h
     exact Nat.lt_succ_self _
    ·
     refine cC <| aW <| aW <| cD <| aE <| aC (cI rfl <|cAI rfl <|aB ?_)
     refine aI ?_
     obtain rfl:=Option.some.inj h
     refine ⟨.inr rfl,(.cons (sv rfl) .nil)⟩

theorem oZ  (r : Bool) (h : iU = some r) : bR Tryz.prog 7 [] (.bool r):=by
 refine aN (rs:=[.bool r]) Tryz.func7 rfl Tryz.ntmps7 (nle rfl) rfl fun O hO=>?_
 show IWP _ _ _ _ ⟨[],[]⟩ _
 unfold iU at h
 refine aC (cAs (.bool false) rfl <|aB ?_)
 obtain ⟨x1,hx1,h⟩:=bT h
 refine aC (aA rfl (aL (r:=.tuple q56) rfl rfl (lb rfl) cl8 (.cons (sv (d:=.str [35,32,120,10,102,105,114,115,116,32,49,32,52,50,57,52,57,54,55,50,57,53,10,10,112,97,116,104,115,32,51,10]) rfl) .nil) rfl (gO _ _ hx1)) <|cMv (.tuple q56) rfl <|cEx (d:=.agg q30) (cs:=q56) rfl <|cEx (d:=.int _ _) (cs:=q56) rfl <|cEx (d:=.int _ _) (cs:=q56) rfl <|aA rfl (aZ (cs:=q30) (cs':=zs0) 0 rfl rfl (lb rfl) rfl ti32 rfl rfl (.all _)) <|cSt q30 q30 ti32 rfl <|cAI rfl <|cAI rfl <|aB ?_)
 obtain ⟨x2,hx2,h⟩:=bT h
 refine aC (aA rfl (aL (r:=.tuple q56) rfl rfl (lb rfl) cl8 (.cons (sv (d:=.str [112,97,116,104,115,32,51,10,112,97,116,104,115,32,51,10]) rfl) .nil) rfl (gO _ _ hx2)) <|cMv (.tuple q56) rfl <|cEx (d:=.agg q30) (cs:=q56) rfl <|cEx (d:=.int _ _) (cs:=q56) rfl <|cEx (d:=.int _ _) (cs:=q56) rfl <|aA rfl (aZ (cs:=q30) (cs':=zs0) 1 rfl rfl (lb rfl) rfl ti32 rfl rfl (.all _)) <|cSt q30 q30 ti32 rfl <|cAI rfl <|cAI rfl <|aB ?_)
 obtain ⟨x3,hx3,h⟩:=bT h
 refine aC (aA rfl (aL (r:=.tuple q56) rfl rfl (lb rfl) cl8 (.cons (sv (d:=.str [112,97,116,104,32,51,10]) rfl) .nil) rfl (gO _ _ hx3)) <|cMv (.tuple q56) rfl <|cEx (d:=.agg q30) (cs:=q56) rfl <|cEx (d:=.int _ _) (cs:=q56) rfl <|cEx (d:=.int _ _) (cs:=q56) rfl <|aA rfl (aZ (cs:=q30) (cs':=zs0) 2 rfl rfl (lb rfl) rfl ti32 rfl rfl (.all _)) <|cSt q30 q30 ti32 rfl <|cAI rfl <|cAI rfl <|aB ?_)
 obtain ⟨x4,hx4,h⟩:=bT h
 refine aC (aA rfl (aL (r:=.tuple q56) rfl rfl (lb rfl) cl8 (.cons (sv (d:=.str [112,97,116,104,115,32,51]) rfl) .nil) rfl (gO _ _ hx4)) <|cMv (.tuple q56) rfl <|cEx (d:=.agg q30) (cs:=q56) rfl <|cEx (d:=.int _ _) (cs:=q56) rfl <|cEx (d:=.int _ _) (cs:=q56) rfl <|aA rfl (aZ (cs:=q30) (cs':=zs0) 3 rfl rfl (lb rfl) rfl ti32 rfl rfl (.all _)) <|cSt q30 q30 ti32 rfl <|cAI rfl <|cAI rfl <|aB ?_)
 obtain ⟨x5,hx5,h⟩:=bT h
 refine aC (aA rfl (aL (r:=.tuple q56) rfl rfl (lb rfl) cl8 (.cons (sv (d:=.str [118,97,108,117,101,115,32,50,32,49,32,49,32,49,32,49,10]) rfl) .nil) rfl (gO _ _ hx5)) <|cMv (.tuple q56) rfl <|cEx (d:=.agg q30) (cs:=q56) rfl <|cEx (d:=.int _ _) (cs:=q56) rfl <|cEx (d:=.int _ _) (cs:=q56) rfl <|aA rfl (aZ (cs:=q30) (cs':=zs0) 4 rfl rfl (lb rfl) rfl ti32 rfl rfl (.all _)) <|cSt q30 q30 ti32 rfl <|cAI rfl <|cAI rfl <|aB ?_)
 obtain ⟨x6,hx6,x7,hx7,h⟩:=eoo h
 refine aC (aA rfl (aL (r:=.agg q30) rfl rfl (lb rfl) cl14 .nil rfl (tM  _ hx6)) <|aA rfl (aL (r:=.tuple q53) rfl rfl (lb rfl) cl5 (.cons (svA q30 rfl) .nil) rfl (pP _ _ hx7)) <|cMv (.tuple q53) rfl <|cEx (d:=.str _) (cs:=q53) rfl <|cEx (d:=.int _ _) (cs:=q53) rfl <|cAs (.str _) rfl <|cAI rfl <|aB ?_)
 obtain ⟨x8,hx8,h⟩:=bT h
 refine aC (aA rfl (aL (r:=.tuple q56) rfl rfl (lb rfl) cl8 (.cons (sv (d:=.str [112,97,116,104,115,32,53,10]) rfl) .nil) rfl (gO _ _ hx8)) <|cMv (.tuple q56) rfl <|cEx (d:=.agg q30) (cs:=q56) rfl <|cEx (d:=.int _ _) (cs:=q56) rfl <|cEx (d:=.int _ _) (cs:=q56) rfl <|aA rfl (aZ (cs:=q30) (cs':=zs0) 5 rfl rfl (lb rfl) rfl ti32 rfl rfl (.all _)) <|cSt q30 q30 ti32 rfl <|cAI rfl <|cAI rfl <|aB ?_)
 obtain ⟨x9,hx9,x10,hx10,x11,hx11,h⟩:=eddd h
 obtain ⟨x12,hx12,x13,hx13,x14,hx14,h⟩:=eddd h
 obtain ⟨x15,hx15,x16,hx16,x17,hx17,h⟩:=eddd h
 obtain ⟨x18,hx18,x19,hx19,x20,hx20,h⟩:=eddd h
 obtain ⟨x21,hx21,x22,hx22,x23,hx23,h⟩:=eddd h
 obtain ⟨x24,hx24,x25,hx25,x26,hx26,h⟩:=eddd h
 obtain ⟨x27,hx27,x28,hx28,x29,hx29,h⟩:=eddd h
 obtain ⟨x30,hx30,x31,hx31,x32,hx32,h⟩:=eddd h
 obtain ⟨x33,hx33,x34,hx34,x35,hx35,h⟩:=eddd h
 obtain ⟨x36,hx36,x37,hx37,x38,hx38,h⟩:=eddd h
 obtain ⟨x39,hx39,x40,hx40,x41,hx41,h⟩:=eddd h
 obtain ⟨x42,hx42,x43,hx43,x44,hx44,h⟩:=eodd h
 obtain ⟨x45,hx45,x46,hx46,x47,hx47,h⟩:=eodd h
 obtain ⟨x48,hx48,x49,hx49,x50,hx50,h⟩:=eodd h
 obtain ⟨x51,hx51,x52,hx52,x53,hx53,h⟩:=eddd h
 obtain ⟨x54,hx54,h⟩:=bE h
 refine aC (cFa 0 un32 rfl ti3 rfl <|cLd (d:=.int _ _) un3 ag3 ti3 rfl <|cCm (b:=3) rfl hx9 <|cB rfl <|gG rfl (fun hb=>(tFa 9 un32 rfl ti26 rfl)) <|gG rfl (fun hb=>(eT rfl rfl (lb rfl) un26 ti25 (svcR rfl hb) (sv (d:=.int _ 1) rfl) (by decide) (by decide) (off':=10) rfl)) <|gG rfl (fun hb=>(tLc (d:=.int _ _) un25 ag25 ti25 rfl hb)) <|gG rfl (fun hb=>(tCg (b:=4294967295) rfl hb hx10)) <|cAn rfl hx11 <|cB rfl <|gG rfl (fun hb=>(tFa 9 un32 rfl ti26 rfl)) <|gG rfl (fun hb=>(eT rfl rfl (lb rfl) un26 ti25 (svcR rfl hb) (sv (d:=.int _ 0) rfl) (by decide) (by decide) (off':=9) rfl)) <|gG rfl (fun hb=>(tLc (d:=.int _ _) un25 ag25 ti25 rfl hb)) <|gG rfl (fun hb=>(tCg (b:=1) rfl hb hx12)) <|cAn rfl hx13 <|cB rfl <|gG rfl (fun hb=>(tI rfl)) <|gG rfl (fun hb=>(tCg (b:=0) rfl hb hx14)) <|cAn rfl hx15 <|cB rfl <|gG rfl (fun hb=>(tI rfl)) <|gG rfl (fun hb=>(tCg (b:=0) rfl hb hx16)) <|cAn rfl hx17 <|cB rfl <|gG rfl (fun hb=>(tI rfl)) <|gG rfl (fun hb=>(tCg (b:=2) rfl hb hx18)) <|cAn rfl hx19 <|cB rfl <|gG rfl (fun hb=>(tI rfl)) <|gG rfl (fun hb=>(tCg (b:=13) rfl hb hx20)) <|cAn rfl hx21 <|cB rfl <|gG rfl (fun hb=>(tI rfl)) <|gG rfl (fun hb=>(tCg (b:=1) rfl hb hx22)) <|cAn rfl hx23 <|cB rfl <|gG rfl (fun hb=>(tI rfl)) <|gG rfl (fun hb=>(tCg (b:=12) rfl hb hx24)) <|cAn rfl hx25 <|cB rfl <|gG rfl (fun hb=>(tI rfl)) <|gG rfl (fun hb=>(tCg (b:=0) rfl hb hx26)) <|cAn rfl hx27 <|cB rfl <|gG rfl (fun hb=>(tI rfl)) <|gG rfl (fun hb=>(tCg (b:=3) rfl hb hx28)) <|cAn rfl hx29 <|cB rfl <|gG rfl (fun hb=>(tI rfl)) <|gG rfl (fun hb=>(tCg (b:=1) rfl hb hx30)) <|cAn rfl hx31 <|cB rfl <|gG rfl (fun hb=>(tI rfl)) <|gG rfl (fun hb=>(tCg (b:=60) rfl hb hx32)) <|cAn rfl hx33 <|cB rfl <|gG rfl (fun hb=>(tMv (.str _) rfl)) <|gG rfl (fun hb=>(gF rfl rfl (lb rfl) (svc (d:=.str _) rfl hb) (sv (d:=.str [112,97,116,104,115,32,50,10,118,97,108,117,101,115,32,48,32,56,32,50,53,54,32,52,48,57,54,32,51,50,10,118,97,108,117,101,115,32,49,32,56,32,50,53,54,32,52,48,57,54,32,51,50,10,102,105,114,115,116,32,48,32,49,10,102,105,114,115,116,32,49,32,50,10]) rfl) rfl hx34)) <|cAn rfl hx35 <|cB rfl <|gG rfl (fun hb=>(tI rfl)) <|gG rfl (fun hb=>(tCg (b:=0) rfl hb hx36)) <|cAn rfl hx37 <|cB rfl <|gG rfl (fun hb=>(tI rfl)) <|gG rfl (fun hb=>(tCg (b:=0) rfl hb hx38)) <|cAn rfl hx39 <|cB rfl <|gG rfl (fun hb=>(tI rfl)) <|gG rfl (fun hb=>(tCg (b:=8) rfl hb hx40)) <|cAn rfl hx41 <|cB rfl <|gG rfl (fun hb=>(tLr q30 la32 rfl)) <|gG rfl (fun hb=>(aL (r:=.int _ _) rfl rfl (lb rfl) cl11 (.cons (svcA (tv4 x1.1) rfl hb) .nil) rfl (mF _ _ (gd_t hx42 hb)))) <|gG rfl (fun hb=>(tCg (b:=0) rfl hb hx43)) <|cAn rfl hx44 <|cB rfl <|gG rfl (fun hb=>(aY (cs:=q30) rfl rfl (lb rfl) un32 ti32 pl32 rfl .nil rfl)) <|gG rfl (fun hb=>(aL (r:=.int _ _) rfl rfl (lb rfl) cl11 (.cons (svcA zs0 rfl hb) .nil) rfl (mF _ _ (gd_t hx45 hb)))) <|gG rfl (fun hb=>(tCg (b:=0) rfl hb hx46)) <|cAn rfl hx47 <|cB rfl <|gG rfl (fun hb=>(tLr q30 la32 rfl)) <|gG rfl (fun hb=>(aL (r:=.int _ _) rfl rfl (lb rfl) cl6 (.cons (svcA (tv4 x1.1) rfl hb) .nil) rfl (lD _ _ (gd_t hx48 hb)))) <|gG rfl (fun hb=>(tCg (b:=0) rfl hb hx49)) <|cAn rfl hx50 <|cB rfl <|aA rfl (vF rfl rfl (lb rfl) (svB rfl) rfl rfl hx51) <|cB rfl <|aA rfl (vF rfl rfl (lb rfl) (svB rfl) rfl rfl hx52) <|cB rfl <|aA rfl (vF rfl rfl (lb rfl) (svB rfl) rfl rfl hx53) <|cB rfl <|aA rfl (vF rfl rfl (lb rfl) (svB rfl) rfl rfl hx54) <|cAB rfl <|aB ?_)
 refine aI ?_
 obtain rfl:=Option.some.inj h
 refine ⟨.inr rfl,(.cons (sv rfl) .nil)⟩

theorem aDl  (r : cJ) (h : aAq = some r) : bR Tryz.prog 40 [] (.agg (tv7 r)):=by
 refine aN (rs:=[.agg (tv7 r)]) Tryz.func40 rfl Tryz.ntmps40 (nle rfl) rfl fun O hO=>?_
 show IWP _ _ _ _ ⟨[],[]⟩ _
 unfold aAq at h
 refine aC (aA rfl (aZ (cs:=q38) (cs':=zs1) 0 rfl rfl (lb rfl) rfl ti87 rfl rfl (.k (.k (.k (.cons (.nils _) (.cons (.nils _) (.all _))))))) <|aB ?_)
 refine aC (aA rfl (kM (d':=.agg zs1) (aY (cs:=q38) rfl rfl (lb rfl) un87 ti87 pl87 rfl .nil rfl) (.agg (.k (.k (.k (.cons (.nils _) (.cons (.nils _) (.all _)))))))) <|aA rfl (cH (ds':=[.int _ _,.str _,.int _ _,.slice false (([] : List bX).map cS.d),.slice false (([] : List aG).map aF.d),.bool _,.bool _,.bool _,.bool _]) rfl rfl ti87 (svR rfl) rfl (svA q34 rfl) rfl rfl rfl (nle rfl) rfl) <|aB ?_)
 refine aI ?_
 obtain rfl:=Option.some.inj h
 refine ⟨.inr rfl,(.cons (rva la87 rfl rfl (nle rfl) rfl) .nil)⟩

theorem zG  (r : cM) (h : uJ = some r) : bR Tryz.prog 45 [] (.agg (tv16 r)):=by
 refine aN (rs:=[.agg (tv16 r)]) Tryz.func45 rfl Tryz.ntmps45 (nle rfl) rfl fun O hO=>?_
 show IWP _ _ _ _ ⟨[],[]⟩ _
 unfold uJ at h
 refine aC (aA rfl (aZ (cs:=[.int _ _,.str _,.nils]) (cs':=[.int .i64 0,.str [],.slice false (([] : List cE).map cY.d)]) 0 rfl rfl (lb rfl) rfl ti90 rfl rfl (.k (.k (.cons (.nils _) .nil)))) <|aB ?_)
 refine aC (aA rfl (kM (d':=.agg [.int .i64 0,.str [],.slice false (([] : List cE).map cY.d)]) (aY (cs:=[.int _ _,.str _,.nils]) rfl rfl (lb rfl) un90 ti90 pl90 rfl .nil rfl) (.agg (.k (.k (.cons (.nils _) .nil))))) <|aA rfl (cH (ds':=[.int _ _,.str _,.slice false (([] : List cE).map cY.d)]) rfl rfl ti90 (svR rfl) rfl (svA q47 rfl) rfl rfl rfl (nle rfl) rfl) <|aB ?_)
 refine aI ?_
 obtain rfl:=Option.some.inj h
 refine ⟨.inr rfl,(.cons (rva la90 rfl rfl (nle rfl) rfl) .nil)⟩

theorem aDm  (r : eO) (h : aAv = some r) : bR Tryz.prog 41 [] (.agg (tv12 r)):=by
 refine aN (rs:=[.agg (tv12 r)]) Tryz.func41 rfl Tryz.ntmps41 (nle rfl) rfl fun O hO=>?_
 show IWP _ _ _ _ ⟨[],[]⟩ _
 unfold aAv at h
 refine aC (aA rfl (aZ (cs:=[.int _ _,.str _,.nils,.int _ _]) (cs':=[.int .i64 0,.str [],.slice false (([] : List cE).map cY.d),.int .i64 0]) 0 rfl rfl (lb rfl) rfl ti92 rfl rfl (.k (.k (.cons (.nils _) (.all _))))) <|aB ?_)
 obtain ⟨x1,hx1,h⟩:=bT h
 refine aC (aA rfl (aL (r:=.agg q47) rfl rfl (lb rfl) cl45 .nil rfl (zG  _ hx1)) <|aA rfl (aY (cs:=q44) rfl rfl (lb rfl) un92 ti92 pl92 rfl (.cons (svA q47 rfl) (.cons (sv (d:=.int _ (-1)) rfl) .nil)) rfl) <|cSt q44 q44 ti92 rfl <|aB ?_)
 refine aI ?_
 obtain rfl:=Option.some.inj h
 refine ⟨.inr rfl,(.cons (rva la92 rfl rfl (nle rfl) rfl) .nil)⟩

theorem aA4  (r : dM) (h : rB = some r) : bR Tryz.prog 27 [] (.agg (tv3 r)):=by
 refine aN (rs:=[.agg (tv3 r)]) Tryz.func27 rfl Tryz.ntmps27 (nle rfl) rfl fun O hO=>?_
 show IWP _ _ _ _ ⟨[],[]⟩ _
 unfold rB at h
 refine aC (aA rfl (aZ (cs:=q29) (cs':=zs2) 0 rfl rfl (lb rfl) rfl ti96 rfl rfl (.k (.k (.k (.cons (.nils _) (.cons (.nils _) (.k4 (.k (.k (.cons (.nils _) (.all _))))))))))) <|aB ?_)
 obtain ⟨x1,hx1,x2,hx2,h⟩:=eoo h
 refine aC (aA rfl (aL (r:=.agg q34) rfl rfl (lb rfl) cl40 .nil rfl (aDl  _ hx1)) <|aA rfl (aL (r:=.agg q44) rfl rfl (lb rfl) cl41 .nil rfl (aDm  _ hx2)) <|aA rfl (aY (cs:=q27) rfl rfl (lb rfl) un96 ti96 pl96 rfl (.cons (svA q34 rfl) (.cons (svA q44 rfl) .nil)) rfl) <|cSt q27 q27 ti96 rfl <|aB ?_)
 refine aI ?_
 obtain rfl:=Option.some.inj h
 refine ⟨.inr rfl,(.cons (rva la96 rfl rfl (nle rfl) rfl) .nil)⟩

theorem aCd  (r : jO) (h : uN = some r) : bR Tryz.prog 28 [] (.agg (tv2 r)):=by
 refine aN (rs:=[.agg (tv2 r)]) Tryz.func28 rfl Tryz.ntmps28 (nle rfl) rfl fun O hO=>?_
 show IWP _ _ _ _ ⟨[],[]⟩ _
 unfold uN at h
 refine aC (aA rfl (aZ (cs:=q26) (cs':=(w63 false false 0 0 false false 0 0 false false 0 0 false false 0 0 0 ([] : List cR))) 0 rfl rfl (lb rfl) rfl aDZ rfl rfl (.k4 (.k (.k4 (.k (.k4 (.k (.k (.k (.cons (.nils _) .nil)))))))))) <|aB ?_)
 refine aC (aA rfl (kM (d':=.agg (w63 false false 0 0 false false 0 0 false false 0 0 false false 0 0 (-1) ([] : List cR))) (aY (cs:=q26) rfl rfl (lb rfl) Tryz.underlying108 aDZ pl108 rfl (.cons (sv (d:=.int _ (-1)) rfl) .nil) rfl) (.agg (.k4 (.k (.k4 (.k (.k4 (.k (.k (.k (.cons (.nils _) .nil))))))))))) <|aA rfl (cH (ds':=[.bool _,.bool _,.int _ _,.int _ _,.bool _,.bool _,.int _ _,.int _ _,.bool _,.bool _,.int _ _,.int _ _,.bool _,.bool _,.int _ _,.int _ _,.int _ _,.slice false (([] : List cR).map lV.d)]) rfl rfl aDZ (svR rfl) rfl (svA q25 rfl) rfl rfl rfl (nle rfl) rfl) <|aB ?_)
 refine aI ?_
 obtain rfl:=Option.some.inj h
 refine ⟨.inr rfl,(.cons (rva la108 rfl rfl (nle rfl) rfl) .nil)⟩

theorem aCW (a0 : Int) (a1 : Int) (a2 : Int) (r : cF) (h : uG a0 a1 a2 = some r) : bR Tryz.prog 42 [.int .i64 a0,.int .i64 a1,.int .u32 a2] (.agg (tv13 r)):=by
 refine aN (rs:=[.agg (tv13 r)]) Tryz.func42 rfl Tryz.ntmps42 (nle rfl) rfl fun O hO=>?_
 show IWP _ _ _ _ ⟨[(0,.int .i64 a0),(1,.int .i64 a1),(2,.int .u32 a2)],[]⟩ _
 unfold uG at h
 refine aC (aA rfl (aZ (cs:=q42) (cs':=(w72 0 0 0 0 0)) 0 rfl rfl (lb rfl) rfl rP rfl rfl (.all _)) <|aB ?_)
 refine aC (cI rfl <|cI rfl <|cI rfl <|aA rfl (aY (cs:=q42) rfl rfl (lb rfl) xG rP pl110 rfl (.cons (svI rfl) (.cons (svI rfl) (.cons (svI rfl) .nil))) rfl) <|cSt q42 q42 rP rfl <|aB ?_)
 refine aI ?_
 obtain rfl:=Option.some.inj h
 refine ⟨.inr rfl,(.cons (rva xO rfl rfl (nle rfl) rfl) .nil)⟩

theorem uS (a0 : cF) (r : Int) (h : nB a0 = some r) : bR Tryz.prog 43 [.agg (tv13 a0)] (.int .i64 r):=by
 refine aN (rs:=[.int .i64 r]) Tryz.func43 rfl Tryz.ntmps43 (nle rfl) rfl fun O hO=>?_
 show IWP _ _ _ _ ⟨[(0,.agg (tv13 a0))],[]⟩ _
 unfold nB at h
 refine aC (cBx (cs:=q42) q42 0 rfl <|cAs (.int _ 0) rfl <|aB ?_)
 refine aK <| aU <| iT (α:=Bool) (fun z=>⟨[(1,.ref 0 0),(3,.bool z)],[(0,.blk 110 (tv13 a0))]⟩) (fun z=>gM a0 z = some r) ?_ ?_
 ·
  obtain ⟨x16,hx16,h⟩:=bE h
  refine aC (cFa 1 xG rfl ti3 rfl <|cLd (d:=.int _ _) un3 ag3 ti3 rfl <|cCm (b:=0) rfl hx16 <|cAB rfl <|aB ?_)
  refine aH h rfl (fun h=>?_) (fun h=>?_)
  ·
   refine aJ <| aE ⟨x16,(fun i=>i),⟨(.sames rfl rfl),(.cons (.blk rfl rfl rfl) .nil),bS [0] rfl (by decide),fun _ _=>rfl⟩,?_⟩
   exact h
  ·
   obtain ⟨x18,hx18,h⟩:=bE h
   refine aC (cFa 1 xG rfl ti3 rfl <|cLd (d:=.int _ _) un3 ag3 ti3 rfl <|cCm (b:=4) rfl hx18 <|cAB rfl <|aB ?_)
   refine aH h rfl (fun h=>?_) (fun h=>?_)
   ·
    refine aJ <| aE ⟨x18,(fun i=>i),⟨(.sames rfl rfl),(.cons (.blk rfl rfl rfl) .nil),bS [0] rfl (by decide),fun _ _=>rfl⟩,?_⟩
    exact h
   ·
    obtain ⟨x20,hx20,h⟩:=bE h
    refine aC (cFa 2 xG rfl ti3 rfl <|cLd (d:=.int _ _) un3 ag3 ti3 rfl <|cCm (b:=0) rfl hx20 <|cAB rfl <|aB ?_)
    refine aH h rfl (fun h=>?_) (fun h=>?_)
    ·
     refine aJ <| aE ⟨x20,(fun i=>i),⟨(.sames rfl rfl),(.cons (.blk rfl rfl rfl) .nil),bS [0] rfl (by decide),fun _ _=>rfl⟩,?_⟩
     exact h
    ·
     obtain ⟨x22,hx22,h⟩:=bE h
     refine aR (cFa 2 xG rfl ti3 rfl <|cLd (d:=.int _ _) un3 ag3 ti3 rfl <|cCm (b:=65535) rfl hx22 <|cAB rfl <|bK ?_)
     refine aE ⟨x22,(fun i=>i),⟨(.sames rfl rfl),(.cons (.blk rfl rfl rfl) .nil),bS [0] rfl (by decide),fun _ _=>rfl⟩,?_⟩
     exact h
 ·
  rintro v8 h
  unfold gM at h
  refine aH h rfl (fun h=>?_) (fun h=>?_)
  ·
   refine aC (cAs (.int _ 8) rfl <|aB ?_)
   refine aI <| bJ <| aQ ?_
   obtain rfl:=Option.some.inj h
   refine ⟨.inr rfl,(.cons (sv rfl) .nil)⟩
  ·
   obtain ⟨x10,hx10,h⟩:=bE h
   refine aC (cFa 0 xG rfl ti5 rfl <|cLd (d:=.int _ _) un5 ag5 ti5 rfl <|cCm (b:=4) rfl hx10 <|cAB rfl <|aB ?_)
   refine aH h rfl (fun h=>?_) (fun h=>?_)
   ·
    refine aC (cAs (.int _ 12) rfl <|aB ?_)
    refine aI <| bJ <| aQ ?_
    obtain rfl:=Option.some.inj h
    refine ⟨.inr rfl,(.cons (sv rfl) .nil)⟩
   ·
    obtain ⟨x12,hx12,x13,hx13,x14,hx14,h⟩:=eddd h
    refine aC (cFa 0 xG rfl ti5 rfl <|cLd (d:=.int _ _) un5 ag5 ti5 rfl <|cCm (b:=2) rfl hx12 <|cB rfl <|gG rfl (fun hb=>(tFa 4 xG rfl ti25 rfl)) <|gG rfl (fun hb=>(tLc (d:=.int _ _) un25 ag25 ti25 rfl hb)) <|gG rfl (fun hb=>(tCg (b:=0) rfl hb hx13)) <|cAn rfl hx14 <|cAB rfl <|aB ?_)
    refine aH h rfl (fun h=>?_) (fun h=>?_)
    ·
     refine aC (cAs (.int _ 4) rfl <|aB ?_)
     refine aI <| bJ <| aQ ?_
     obtain rfl:=Option.some.inj h
     refine ⟨.inr rfl,(.cons (sv rfl) .nil)⟩
    ·
     refine aJ <| bM <| aE <| aC (cAs (.int _ 0) rfl <|aB ?_)
     refine aI ?_
     obtain rfl:=Option.some.inj h
     refine ⟨.inr rfl,(.cons (sv rfl) .nil)⟩

theorem aCY  (r : dZ) (h : yS = some r) : bR Tryz.prog 44 [] (.agg (tv10 r)):=by
 refine aN (rs:=[.agg (tv10 r)]) Tryz.func44 rfl Tryz.ntmps44 (nle rfl) rfl fun O hO=>?_
 show IWP _ _ _ _ ⟨[],[]⟩ _
 unfold yS at h
 refine aC (aA rfl (aZ (cs:=[.int _ _,.str _,.int _ _,.nils,.nils]) (cs':=zs3) 0 rfl rfl (lb rfl) rfl aFw rfl rfl (.k (.k (.k (.cons (.nils _) (.cons (.nils _) .nil)))))) <|aB ?_)
 refine aC (aA rfl (kM (d':=.agg zs3) (aY (cs:=[.int _ _,.str _,.int _ _,.nils,.nils]) rfl rfl (lb rfl) Tryz.underlying113 aFw pl113 rfl .nil rfl) (.agg (.k (.k (.k (.cons (.nils _) (.cons (.nils _) .nil))))))) <|aA rfl (cH (ds':=[.int _ _,.str _,.int _ _,.slice false (([] : List iM).map jP.d),.slice false (([] : List aG).map aF.d)]) rfl rfl aFw (svR rfl) rfl (svA q40 rfl) rfl rfl rfl (nle rfl) rfl) <|aB ?_)
 refine aI ?_
 obtain rfl:=Option.some.inj h
 refine ⟨.inr rfl,(.cons (rva la113 rfl rfl (nle rfl) rfl) .nil)⟩

theorem aEs  (r : eU) (h : aCR = some r) : bR Tryz.prog 46 [] (.agg (tv18 r)):=by
 refine aN (rs:=[.agg (tv18 r)]) Tryz.func46 rfl Tryz.ntmps46 (nle rfl) rfl fun O hO=>?_
 show IWP _ _ _ _ ⟨[],[]⟩ _
 unfold aCR at h
 refine aC (aA rfl (aZ (cs:=q45) (cs':=[.int .i64 0,.int .i64 0,.bool false,.int .i64 0]) 0 rfl rfl (lb rfl) rfl aFv rfl rfl (.all _)) <|aB ?_)
 refine aC (aA rfl (aY (cs:=q45) rfl rfl (lb rfl) Tryz.underlying115 aFv pl115 rfl .nil rfl) <|cSt q45 q45 aFv rfl <|aB ?_)
 refine aI ?_
 obtain rfl:=Option.some.inj h
 refine ⟨.inr rfl,(.cons (rva la115 rfl rfl (nle rfl) rfl) .nil)⟩

theorem aDo  (r : eQ) (h : aBT = some r) : bR Tryz.prog 47 [] (.agg (tv21 r)):=by
 refine aN (rs:=[.agg (tv21 r)]) Tryz.func47 rfl Tryz.ntmps47 (nle rfl) rfl fun O hO=>?_
 show IWP _ _ _ _ ⟨[],[]⟩ _
 unfold aBT at h
 refine aC (aA rfl (aZ (cs:=q48) (cs':=[.int .i64 0,.int .i64 0,.int .i64 0]) 0 rfl rfl (lb rfl) rfl aFu rfl rfl (.all _)) <|aB ?_)
 refine aC (aA rfl (aY (cs:=q48) rfl rfl (lb rfl) Tryz.underlying117 aFu pl117 rfl (.cons (sv (d:=.int _ 96) rfl) (.cons (sv (d:=.int _ 1024) rfl) .nil)) rfl) <|cSt q48 q48 aFu rfl <|aB ?_)
 refine aI ?_
 obtain rfl:=Option.some.inj h
 refine ⟨.inr rfl,(.cons (rva la117 rfl rfl (nle rfl) rfl) .nil)⟩

theorem aDn (a0 : Int) (a1 : Int) (a2 : Int) (r : (bI × Int)) (h : uM a0 a1 a2 = some r) : bR Tryz.prog 29 [.int .i64 a0,.int .i64 a1,.int .u32 a2] (retD [.agg (tv0 r.1),.int .i64 r.2]):=by
 refine aN (rs:=[.agg (tv0 r.1),.int .i64 r.2]) Tryz.func29 rfl Tryz.ntmps29 (nle rfl) rfl fun O hO=>?_
 show IWP _ _ _ _ ⟨[(0,.int .i64 a0),(1,.int .i64 a1),(2,.int .u32 a2)],[]⟩ _
 unfold uM at h
 refine aC (aA rfl (aZ (cs:=q24) (cs':=zs4) 0 rfl rfl (lb rfl) rfl tP rfl rfl (.k4 (.k4 (.cons (.nils _) (.cons (.nils _) (.k (.k (.cons (.nils _) (.all _))))))))) <|cAs (.int _ 0) rfl <|aB ?_)
 obtain ⟨x1,hx1,h⟩:=bT h
 refine aC (cI rfl <|cI rfl <|cI rfl <|aA rfl (aL (r:=.agg q42) rfl rfl (lb rfl) cl42 (.cons (svI rfl) (.cons (svI rfl) (.cons (svI rfl) .nil))) rfl (aCW _ _ _ _ hx1)) <|aA rfl (aZ (cs:=q42) (cs':=(w72 0 0 0 0 0)) 1 rfl rfl (lb rfl) rfl rP rfl rfl (.all _)) <|cSt q42 q42 rP rfl <|aB ?_)
 refine aK ?_
 obtain ⟨x2,hx2,h⟩:=bT h
 refine aC (cLr q42 xO rfl <|aA rfl (aL (r:=.int _ _) rfl rfl (lb rfl) cl43 (.cons (svA q42 rfl) .nil) rfl (uS _ _ hx2)) <|cAI rfl <|aB ?_)
 obtain ⟨x3,hx3,h⟩:=bE h
 refine aC (cI rfl <|cCm (b:=0) rfl hx3 <|aB ?_)
 refine aH h rfl (fun h=>?_) (fun h=>?_)
 ·
  refine aC (aA rfl (kM (d':=.agg zs4) (aY (cs:=q24) rfl rfl (lb rfl) aBZ tP pl119 rfl .nil rfl) (.agg (.k4 (.k4 (.cons (.nils _) (.cons (.nils _) (.k (.k (.cons (.nils _) (.all _)))))))))) <|cI rfl <|aA rfl (cH (ds':=[.int _ _,.int _ _,.int _ _,.int _ _,.int _ _,.int _ _,.str _,.int _ _,.slice false (([] : List iM).map jP.d),.slice false (([] : List aG).map aF.d),.int _ _,.str _,.slice false (([] : List cE).map cY.d),.int _ _,.int _ _,.bool _,.int _ _,.int _ _,.int _ _,.int _ _,.int _ _,.int _ _,.int _ _,.int _ _,.int _ _,.bool _]) rfl rfl tP (svR rfl) rfl (svA q23 rfl) rfl rfl rfl (nle rfl) rfl) <|cAI rfl <|aB ?_)
  refine aI <| aQ ?_
  obtain rfl:=Option.some.inj h
  refine ⟨.inr rfl,(.cons (rva aDr rfl rfl (nle rfl) rfl) (.cons (sv rfl) .nil))⟩
 ·
  refine aJ <| aE ?_
  obtain ⟨x5,hx5,x6,hx6,x7,hx7,h⟩:=eooo h
  obtain ⟨x8,hx8,h⟩:=bT h
  refine eI rfl [nd2 [8] [1] 20 (.agg (tv13 x1)),nd1 [] 21 (.agg (tv10 x5)),nd1 [] 22 (.agg (tv16 x6)),nd1 [] 23 (.agg (tv18 x7)),nd1 [] 24 (.agg (tv21 x8)),nd1 [20,21,22,23,24] 25 (.agg (w61 x1.Stage x1.Path x1.Epoch x1.Mine x1.Hers x5.Base x5.Data x5.Next x5.Flight x5.Came x6.Base x6.Ready x6.Parts x7.Smooth x7.Var x7.Known x7.Shift x8.Win x8.Thresh x8.Part 4096 0 0 0 0 false)),⟨[6,25],[0],[],[(0,.blk 119 (w61 x1.Stage x1.Path x1.Epoch x1.Mine x1.Hers x5.Base x5.Data x5.Next x5.Flight x5.Came x6.Base x6.Ready x6.Parts x7.Smooth x7.Var x7.Known x7.Shift x8.Win x8.Thresh x8.Part 4096 0 0 0 0 false))]⟩,nd1 [] 7 (.int .i64 0)] rfl ?_ (by kernel_rfl) ?_
  ·refine .cons (dLa xG ag110 rP rfl) <| .cons (lop rfl rfl fun S hA=>(aL (r:=.agg q40) rfl rfl (lb rfl) cl44 .nil rfl (aCY  _ hx5))) <| .cons (lop rfl rfl fun S hA=>(aL (r:=.agg q47) rfl rfl (lb rfl) cl45 .nil rfl (zG  _ hx6))) <| .cons (lop rfl rfl fun S hA=>(aL (r:=.agg q45) rfl rfl (lb rfl) cl46 .nil rfl (aEs  _ hx7))) <| .cons (lop rfl rfl fun S hA=>(aL (r:=.agg q48) rfl rfl (lb rfl) cl47 .nil rfl (aDo  _ hx8))) <| .cons (lop rfl rfl fun S hA=>(aY (cs:=q23) rfl rfl (lb rfl) aBZ tP pl119 rfl (.cons (svaA q42 hA rfl rfl) (.cons (svaA q40 hA rfl rfl) (.cons (svaA q47 hA rfl rfl) (.cons (svaA q45 hA rfl rfl) (.cons (svaA q48 hA rfl rfl) (.cons (sv (d:=.int _ 4096) rfl) .nil)))))) rfl)) <| .cons (dSt q23 tP rfl) <| .cons (lop rfl rfl fun S hA=>(tAs (.int _ 0) rfl)) ?_
   exact .nil
  refine aI ?_
  obtain rfl:=Option.some.inj h
  refine ⟨.inr rfl,(.cons (rva aDr rfl rfl (nle rfl) rfl) (.cons (sv rfl) .nil))⟩

theorem xJ (a0 : cF) (a1 : Int) (r : cF) (h : nI a0 a1 = some r) : bR Tryz.prog 60 [.agg (tv13 a0),.int .u8 a1] (.agg (tv13 r)):=by
 refine aN (rs:=[.agg (tv13 r)]) Tryz.func60 rfl Tryz.ntmps60 (nle rfl) rfl fun O hO=>?_
 show IWP _ _ _ _ ⟨[(0,.agg (tv13 a0)),(1,.int .u8 a1)],[]⟩ _
 unfold nI at h
 refine aC (cBx (cs:=q42) q42 0 rfl <|aA rfl (aZ (cs:=q42) (cs':=(w72 0 0 0 0 0)) 1 rfl rfl (lb rfl) rfl rP rfl rfl (.all _)) <|aB ?_)
 refine aK ?_
 obtain ⟨x1,hx1,x2,hx2,h⟩:=eod h
 refine aC (cLr q42 xO rfl <|aA rfl (aL (r:=.int _ _) rfl rfl (lb rfl) cl43 (.cons (svA q42 rfl) .nil) rfl (uS _ _ hx1)) <|cCm (b:=0) rfl hx2 <|aB ?_)
 refine aH h rfl (fun h=>?_) (fun h=>?_)
 ·
  refine aR (cI rfl <|cFa 0 xG rfl ti5 rfl <|aA rfl (cH (ds':=q42) rfl rfl ti5 (svR rfl) rfl (svI rfl) rfl rfl rfl (nle rfl) rfl) <|bK ?_)
  refine aE <| aC (cLr q42 xO rfl <|cSt q42 q42 rP rfl <|aB ?_)
  refine aI ?_
  obtain rfl:=Option.some.inj h
  refine ⟨.inr rfl,(.cons (rva xO rfl rfl (nle rfl) rfl) .nil)⟩
 ·
  refine aJ <| aE <| aC (cLr q42 xO rfl <|cSt q42 q42 rP rfl <|aB ?_)
  refine aI ?_
  obtain rfl:=Option.some.inj h
  refine ⟨.inr rfl,(.cons (rva xO rfl rfl (nle rfl) rfl) .nil)⟩

theorem aCX (a0 : cF) (r : cF) (h : rS a0 = some r) : bR Tryz.prog 48 [.agg (tv13 a0)] (.agg (tv13 r)):=by
 refine aN (rs:=[.agg (tv13 r)]) Tryz.func48 rfl Tryz.ntmps48 (nle rfl) rfl fun O hO=>?_
 show IWP _ _ _ _ ⟨[(0,.agg (tv13 a0))],[]⟩ _
 unfold rS at h
 refine aC (cBx (cs:=q42) q42 0 rfl <|aA rfl (aZ (cs:=q42) (cs':=(w72 0 0 0 0 0)) 1 rfl rfl (lb rfl) rfl rP rfl rfl (.all _)) <|aB ?_)
 refine aK ?_
 obtain ⟨x1,hx1,h⟩:=bE h
 refine aC (cFa 0 xG rfl ti5 rfl <|cLd (d:=.int _ _) un5 ag5 ti5 rfl <|cCm (b:=0) rfl hx1 <|aB ?_)
 refine aH h rfl (fun h=>?_) (fun h=>?_)
 ·
  refine aC (cLr q42 xO rfl <|cSt q42 q42 rP rfl <|aB ?_)
  refine aI <| aQ ?_
  obtain rfl:=Option.some.inj h
  refine ⟨.inr rfl,(.cons (rva xO rfl rfl (nle rfl) rfl) .nil)⟩
 ·
  refine aJ <| aE ?_
  obtain ⟨x3,hx3,h⟩:=bT h
  refine aC (cLr q42 xO rfl <|aA rfl (aL (r:=.agg q42) rfl rfl (lb rfl) cl60 (.cons (svA q42 rfl) (.cons (sv (d:=.int _ 1) rfl) .nil)) rfl (xJ _ _ _ hx3)) <|cSt q42 q42 rP rfl <|aB ?_)
  refine aI ?_
  obtain rfl:=Option.some.inj h
  refine ⟨.inr rfl,(.cons (rva xO rfl rfl (nle rfl) rfl) .nil)⟩

theorem aCc (a0 : bI) (r : bI) (h : rU a0 = some r) : bR Tryz.prog 30 [.agg (tv0 a0)] (.agg (tv0 r)):=by
 refine aN (rs:=[.agg (tv0 r)]) Tryz.func30 rfl Tryz.ntmps30 (nle rfl) rfl fun O hO=>?_
 show IWP _ _ _ _ ⟨[(0,.agg (tv0 a0))],[]⟩ _
 unfold rU at h
 refine aC (cBx (cs:=q23) q23 0 rfl <|aA rfl (aZ (cs:=q24) (cs':=zs4) 1 rfl rfl (lb rfl) rfl tP rfl rfl (.k4 (.k4 (.cons (.nils _) (.cons (.nils _) (.k (.k (.cons (.nils _) (.all _))))))))) <|aB ?_)
 refine aK ?_
 obtain ⟨x1,hx1,h⟩:=bE h
 refine aC (cFa 0 aBZ rfl rP rfl <|cFa 0 xG rfl ti5 rfl <|cLd (d:=.int _ _) un5 ag5 ti5 rfl <|cCm (b:=0) rfl hx1 <|aB ?_)
 refine aH h rfl (fun h=>?_) (fun h=>?_)
 ·
  obtain ⟨x3,hx3,h⟩:=bT h
  refine aC (cFa 0 aBZ rfl rP rfl <|cLr q42 xO rfl <|aA rfl (aL (r:=.agg q42) rfl rfl (lb rfl) cl48 (.cons (svA q42 rfl) .nil) rfl (aCX _ _ hx3)) <|cFa 0 aBZ rfl rP rfl <|cSt q42 q23 rP rfl <|aB ?_)
  refine aR (cFa 21 aBZ rfl ti3 rfl <|cLd (d:=.int _ _) un3 ag3 ti3 rfl <|cFa 22 aBZ rfl ti3 rfl <|aA rfl (cH (ds':=q23) rfl rfl ti3 (svR rfl) rfl (svI rfl) rfl rfl rfl (nle rfl) rfl) <|bK ?_)
  refine aE <| aC (cLr q23 aDr rfl <|cSt q23 q23 tP rfl <|aB ?_)
  refine aI ?_
  obtain rfl:=Option.some.inj h
  refine ⟨.inr rfl,(.cons (rva aDr rfl rfl (nle rfl) rfl) .nil)⟩
 ·
  refine aJ <| aE <| aC (cLr q23 aDr rfl <|cSt q23 q23 tP rfl <|aB ?_)
  refine aI ?_
  obtain rfl:=Option.some.inj h
  refine ⟨.inr rfl,(.cons (rva aDr rfl rfl (nle rfl) rfl) .nil)⟩

theorem oX (a0 : Int) (a1 : Int) (a2 : Int) (r : Bool) (h : qN a0 a1 a2 = some r) : bR Tryz.prog 74 [.int .i64 a0,.int .i64 a1,.int .i64 a2] (.bool r):=by
 refine aN (rs:=[.bool r]) Tryz.func74 rfl Tryz.ntmps74 (nle rfl) rfl fun O hO=>?_
 show IWP _ _ _ _ ⟨[(0,.int .i64 a0),(1,.int .i64 a1),(2,.int .i64 a2)],[]⟩ _
 unfold qN at h
 refine aC (cAs (.bool false) rfl <|aB ?_)
 obtain ⟨x1,hx1,x2,hx2,x3,hx3,h⟩:=eddd h
 refine aC (cI rfl <|cI rfl <|cCm rfl hx1 <|cB rfl <|gG rfl (fun hb=>(tI rfl)) <|gG rfl (fun hb=>(tI rfl)) <|gG rfl (fun hb=>(tCh rfl hb hx2)) <|cAn rfl hx3 <|cAB rfl <|aB ?_)
 refine aI ?_
 obtain rfl:=Option.some.inj h
 refine ⟨.inr rfl,(.cons (sv rfl) .nil)⟩

theorem wB (a0 : dF) (a1 : Int) (r : Bool) (h : uE a0 a1 = some r) : bR Tryz.prog 75 [.agg (tv5 a0),.int .i64 a1] (.bool r):=by
 refine aN (rs:=[.bool r]) Tryz.func75 rfl Tryz.ntmps75 (nle rfl) rfl fun O hO=>?_
 show IWP _ _ _ _ ⟨[(0,.agg (tv5 a0)),(1,.int .i64 a1)],[]⟩ _
 unfold uE at h
 refine aC (cBx (cs:=q33) q33 0 rfl <|cAs (.bool false) rfl <|aB ?_)
 obtain ⟨x1,hx1,x2,hx2,x3,hx3,h⟩:=eddd h
 obtain ⟨x4,hx4,x5,hx5,h⟩:=edd h
 refine aC (cI rfl <|cCm (b:=0) rfl hx1 <|cB rfl <|gG rfl (fun hb=>(tI rfl)) <|gG rfl (fun hb=>(bB rfl rfl (lb rfl) (svcI rfl hb) (sv (d:=.int _ 1) rfl) rfl hx2)) <|gG rfl (fun hb=>(tCg (b:=1) rfl hb hx3)) <|gG rfl (fun hb=>(tFa 0 un98 rfl ti4 rfl)) <|gG rfl (fun hb=>(tLc (d:=.bool _) un4 ag4 ti4 rfl hb)) <|gG rfl (fun hb=>(aGQ rfl rfl (lb rfl) un4 (svcB rfl hb) (svcB rfl hb) hx4)) <|cAn rfl hx5 <|cAB rfl <|aB ?_)
 refine aI ?_
 obtain rfl:=Option.some.inj h
 refine ⟨.inr rfl,(.cons (sv rfl) .nil)⟩

theorem tA (a0 : dF) (r : Bool) (h : lZ a0 = some r) : bR Tryz.prog 61 [.agg (tv5 a0)] (.bool r):=by
 refine aN (rs:=[.bool r]) Tryz.func61 rfl Tryz.ntmps61 (nle rfl) rfl fun O hO=>?_
 show IWP _ _ _ _ ⟨[(0,.agg (tv5 a0))],[]⟩ _
 unfold lZ at h
 refine aC (cBx (cs:=q33) q33 0 rfl <|cAs (.bool false) rfl <|aB ?_)
 refine aK ?_
 obtain ⟨x1,hx1,x2,hx2,x3,hx3,h⟩:=eood h
 obtain ⟨x4,hx4,x5,hx5,x6,hx6,h⟩:=eodo h
 obtain ⟨x7,hx7,h⟩:=bE h
 refine aC (cFa 1 un98 rfl ti3 rfl <|cLd (d:=.int _ _) un3 ag3 ti3 rfl <|aA rfl (aL (r:=.bool _) rfl rfl (lb rfl) cl74 (.cons (svI rfl) (.cons (sv (d:=.int _ 1) rfl) (.cons (sv (d:=.int _ 1048578) rfl) .nil))) rfl (oX _ _ _ _ hx1)) <|aA rfl (dJ rfl rfl (lb rfl) (svB rfl)) <|cB rfl <|gG rfl (fun hb=>(tLr q33 la98 rfl)) <|gG rfl (fun hb=>(tFa 1 un98 rfl ti3 rfl)) <|gG rfl (fun hb=>(tLc (d:=.int _ _) un3 ag3 ti3 rfl hb)) <|gG rfl (fun hb=>(aL (r:=.bool _) rfl rfl (lb rfl) cl75 (.cons (svcA (tv5 a0) rfl hb) (.cons (svcI rfl hb) .nil)) rfl (wB _ _ _ (gd_t hx2 hb)))) <|gG rfl (fun hb=>(dJ rfl rfl (lb rfl) (svcB rfl hb))) <|cOr rfl hx3 <|cB rfl <|gG rfl (fun hb=>(tFa 2 un98 rfl ti3 rfl)) <|gG rfl (fun hb=>(tLc (d:=.int _ _) un3 ag3 ti3 rfl hb)) <|gG rfl (fun hb=>(aL (r:=.bool _) rfl rfl (lb rfl) cl74 (.cons (svcI rfl hb) (.cons (sv (d:=.int _ 0) rfl) (.cons (sv (d:=.int _ 1048576) rfl) .nil))) rfl (oX _ _ _ _ (gd_t hx4 hb)))) <|gG rfl (fun hb=>(dJ rfl rfl (lb rfl) (svcB rfl hb))) <|cOr rfl hx5 <|cB rfl <|gG rfl (fun hb=>(tLr q33 la98 rfl)) <|gG rfl (fun hb=>(tFa 2 un98 rfl ti3 rfl)) <|gG rfl (fun hb=>(tLc (d:=.int _ _) un3 ag3 ti3 rfl hb)) <|gG rfl (fun hb=>(aL (r:=.bool _) rfl rfl (lb rfl) cl75 (.cons (svcA (tv5 a0) rfl hb) (.cons (svcI rfl hb) .nil)) rfl (wB _ _ _ (gd_t hx6 hb)))) <|cOr rfl hx7 <|aB ?_)
 refine aH h rfl (fun h=>?_) (fun h=>?_)
 ·
  refine aC (cAs (.bool false) rfl <|aB ?_)
  refine aI <| aQ ?_
  obtain rfl:=Option.some.inj h
  refine ⟨.inr rfl,(.cons (sv rfl) .nil)⟩
 ·
  refine aJ <| aE ?_
  obtain ⟨x9,hx9,x10,hx10,x11,hx11,h⟩:=eood h
  refine aC (cFa 7 un98 rfl ti3 rfl <|cLd (d:=.int _ _) un3 ag3 ti3 rfl <|aA rfl (aL (r:=.bool _) rfl rfl (lb rfl) cl74 (.cons (svI rfl) (.cons (sv (d:=.int _ (-1)) rfl) (.cons (sv (d:=.int _ 1048576) rfl) .nil))) rfl (oX _ _ _ _ hx9)) <|cB rfl <|gG rfl (fun hb=>(tFa 8 un98 rfl ti3 rfl)) <|gG rfl (fun hb=>(tLc (d:=.int _ _) un3 ag3 ti3 rfl hb)) <|gG rfl (fun hb=>(aL (r:=.bool _) rfl rfl (lb rfl) cl74 (.cons (svcI rfl hb) (.cons (sv (d:=.int _ (-1)) rfl) (.cons (sv (d:=.int _ 1048576) rfl) .nil))) rfl (oX _ _ _ _ (gd_t hx10 hb)))) <|cAn rfl hx11 <|cAB rfl <|aB ?_)
  obtain ⟨x12,hx12,x13,hx13,x14,hx14,h⟩:=eodo h
  obtain ⟨x15,hx15,h⟩:=bE h
  refine aC (cB rfl <|cB rfl <|gG rfl (fun hb=>(tFa 5 un98 rfl ti3 rfl)) <|gG rfl (fun hb=>(tLc (d:=.int _ _) un3 ag3 ti3 rfl hb)) <|gG rfl (fun hb=>(aL (r:=.bool _) rfl rfl (lb rfl) cl74 (.cons (svcI rfl hb) (.cons (sv (d:=.int _ 0) rfl) (.cons (sv (d:=.int _ 8) rfl) .nil))) rfl (oX _ _ _ _ (gd_t hx12 hb)))) <|cAn rfl hx13 <|cB rfl <|gG rfl (fun hb=>(tFa 6 un98 rfl ti3 rfl)) <|gG rfl (fun hb=>(tLc (d:=.int _ _) un3 ag3 ti3 rfl hb)) <|gG rfl (fun hb=>(aL (r:=.bool _) rfl rfl (lb rfl) cl74 (.cons (svcI rfl hb) (.cons (sv (d:=.int _ 0) rfl) (.cons (sv (d:=.int _ 8) rfl) .nil))) rfl (oX _ _ _ _ (gd_t hx14 hb)))) <|cAn rfl hx15 <|cAB rfl <|aB ?_)
  refine aI ?_
  obtain rfl:=Option.some.inj h
  refine ⟨.inr rfl,(.cons (sv rfl) .nil)⟩

theorem pI (a0 : dF) (a1 : Int) (r : Bool) (h : lJ a0 a1 = some r) : bR Tryz.prog 76 [.agg (tv5 a0),.int .i64 a1] (.bool r):=by
 refine aN (rs:=[.bool r]) Tryz.func76 rfl Tryz.ntmps76 (nle rfl) rfl fun O hO=>?_
 show IWP _ _ _ _ ⟨[(0,.agg (tv5 a0)),(1,.int .i64 a1)],[]⟩ _
 unfold lJ at h
 refine aC (cBx (cs:=q33) q33 0 rfl <|cAs (.bool false) rfl <|aB ?_)
 refine aK ?_
 obtain ⟨x1,hx1,h⟩:=bT h
 refine aC (cLr q33 la98 rfl <|cI rfl <|aA rfl (aL (r:=.bool _) rfl rfl (lb rfl) cl75 (.cons (svA q33 rfl) (.cons (svI rfl) .nil)) rfl (wB _ _ _ hx1)) <|aB ?_)
 refine aH h rfl (fun h=>?_) (fun h=>?_)
 ·
  obtain ⟨x3,hx3,h⟩:=bE h
  refine aC (cI rfl <|cFa 1 un98 rfl ti3 rfl <|cLd (d:=.int _ _) un3 ag3 ti3 rfl <|cCm rfl hx3 <|cAB rfl <|aB ?_)
  refine aI <| aQ ?_
  obtain rfl:=Option.some.inj h
  refine ⟨.inr rfl,(.cons (sv rfl) .nil)⟩
 ·
  refine aJ <| aE ?_
  obtain ⟨x4,hx4,h⟩:=bT h
  refine aC (cI rfl <|cFa 2 un98 rfl ti3 rfl <|cLd (d:=.int _ _) un3 ag3 ti3 rfl <|aA rfl (aL (r:=.bool _) rfl rfl (lb rfl) cl74 (.cons (svI rfl) (.cons (sv (d:=.int _ 1) rfl) (.cons (svI rfl) .nil))) rfl (oX _ _ _ _ hx4)) <|cAB rfl <|aB ?_)
  refine aI ?_
  obtain rfl:=Option.some.inj h
  refine ⟨.inr rfl,(.cons (sv rfl) .nil)⟩

theorem uQ (a0 : dF) (r : Bool) (h : nZ a0 = some r) : bR Tryz.prog 62 [.agg (tv5 a0)] (.bool r):=by
 refine aN (rs:=[.bool r]) Tryz.func62 rfl Tryz.ntmps62 (nle rfl) rfl fun O hO=>?_
 show IWP _ _ _ _ ⟨[(0,.agg (tv5 a0))],[]⟩ _
 unfold nZ at h
 refine aC (cBx (cs:=q33) q33 0 rfl <|cAs (.bool false) rfl <|aB ?_)
 refine aK ?_
 obtain ⟨x1,hx1,h⟩:=bE h
 refine aC (cFa 3 un98 rfl ti72 rfl <|aA rfl (lrL la72 rfl rfl rfl rfl rfl (nle rfl) rfl) <|aA rfl (dD (eInt .i64) (l:=a0.Live) rfl rfl (lb rfl) un72 (svL rfl)) <|cCm (b:=16) rfl hx1 <|aB ?_)
 refine aH h rfl (fun h=>?_) (fun h=>?_)
 ·
  refine aC (cAs (.bool false) rfl <|aB ?_)
  refine aI <| aQ ?_
  obtain rfl:=Option.some.inj h
  refine ⟨.inr rfl,(.cons (sv rfl) .nil)⟩
 ·
  refine aJ <| aE <| aC (cAs (.int _ 0) rfl <|aB ?_)
  refine aK <| aC (cFa 3 un98 rfl ti72 rfl <|aA rfl (lrL la72 rfl rfl rfl rfl rfl (nle rfl) rfl) <|aA rfl (dD (eInt .i64) (l:=a0.Live) rfl rfl (lb rfl) un72 (svL rfl)) <|cMv (.int _ 0) rfl <|aB ?_)
  refine aU <| cP (α:=Nat × Int × Int) (fun z=>⟨[(1,.ref 0 0),(3,.int .i64 z.2.1),(11,.slice false (a0.Live.map (eInt .i64).d)),(12,.int .i64 (a0.Live.length : Int)),(13,.int .i64 z.2.2)],[(0,.blk 98 (tv5 a0))]⟩) (fun z=>gU a0 z.1 z.2.1 z.2.2 = some r) (fun z=>z.1) (fuel,0,0) (fun i=>i) ⟨(.sames rfl rfl),(.cons (.blk rfl rfl rfl) .nil),bS [0] rfl (by decide),fun _ _=>rfl⟩ ?_ ?_
  ·exact h
  ·
   rintro ⟨n0,v11,v12⟩ h
   cases n0 with
   | zero=>exact absurd h (by unfold gU; exact nofun)
   | succ n0 =>
    unfold gU at h
    obtain ⟨x21,hx21,h⟩:=bE h
    refine aC (cCm rfl hx21 <|aB ?_)
    refine aK <| aH h rfl (fun h=>?_) (fun h=>?_)
    ·
     refine aJ <| aE <| aK <| aU ?_
     obtain ⟨x23,hx23,h⟩:=bT h
     refine aC (aA rfl (cW (eInt .i64) (cs:=[.int _ _]) rfl rfl (lb rfl) un72 ti3 (svL rfl) (svI rfl) hx23 rfl rfl) <|aA rfl (cN rfl rfl (lb rfl) un3 ag3 ti3 (by decide) (sv (d:=.fptr [.int _ _]) rfl) (nle rfl)) <|cAI rfl <|aB ?_)
     refine aK ?_
     obtain ⟨x24,hx24,x25,hx25,x26,hx26,h⟩:=edod h
     refine aC (cI rfl <|cI rfl <|cCm rfl hx24 <|cB rfl <|gG rfl (fun hb=>(tLr q33 la98 rfl)) <|gG rfl (fun hb=>(tI rfl)) <|gG rfl (fun hb=>(aL (r:=.bool _) rfl rfl (lb rfl) cl76 (.cons (svcA (tv5 a0) rfl hb) (.cons (svcI rfl hb) .nil)) rfl (pI _ _ _ (gd_t hx25 hb)))) <|gG rfl (fun hb=>(dJ rfl rfl (lb rfl) (svcB rfl hb))) <|cOr rfl hx26 <|aB ?_)
     refine aH h rfl (fun h=>?_) (fun h=>?_)
     ·
      refine aC (cAs (.bool false) rfl <|aB ?_)
      refine aI <| aQ <| bJ <| aQ <| aQ <| bJ <| aQ ?_
      obtain rfl:=Option.some.inj h
      refine ⟨.inr rfl,(.cons (sv rfl) .nil)⟩
     ·
      refine aJ <| aE <| aR (cI rfl <|cAI rfl <|bK ?_)
      refine bM <| aE ?_
      obtain ⟨x28,hx28,h⟩:=bE h
      refine aR (aA rfl (bB rfl rfl (lb rfl) (svI rfl) (sv (d:=.int _ 1) rfl) rfl hx28) <|cI rfl <|bK ?_)
      refine aE ⟨(n0,x23,x28),(fun i=>i),⟨(.sames rfl rfl),(.cons (.blk rfl rfl rfl) .nil),bS [0] rfl (by decide),fun _ _=>rfl⟩,?_,?_⟩
      exact h
      exact Nat.lt_succ_self _
    ·
     refine cC <| aW <| aW <| cD <| aE <| aC (cAs (.bool true) rfl <|aB ?_)
     refine aI ?_
     obtain rfl:=Option.some.inj h
     refine ⟨.inr rfl,(.cons (sv rfl) .nil)⟩

set_option maxRecDepth 8000 in
set_option maxHeartbeats 4000000 in
theorem pO (a0 : Int) (r : List Int) (h : mA a0 = some r) : FnH Tryz.prog 94 [.nils,.int .i64 a0] [] (.osl 0 (eInt .i64).sz r.length) [(0,.blk 3 (D.flat (r.map (eInt .i64).d)))]:=by
 replace h : aGX 8 a0 = some r:=h
 obtain ⟨n,rfl,hm,hb,rfl⟩:=growS_e h
 refine iZ (rs:=[.osl 0 (eInt .i64).sz 0]) Tryz.func94 rfl Tryz.ntmps94 (nle rfl) fun O hO=>?_
 show IWP _ _ _ _ ⟨[(0,.nils),(1,.int .i64 (n : Int))],[]⟩ _
 have w1 : IntKind.wrap .i64 ((n : Int) - 0) = (n : Int):=wS (b:=0) (Nat.zero_le _) hm
 refine aC (cAs (.nils) rfl <| aB ?_)
 refine aK <| aC (cI rfl <| cCm (b:=0) rfl rfl <| aB ?_)
 refine sR rfl (decide_eq_false (by omega)) <| aJ <| aE <| aK <| aC (cI rfl <| cMv (.nils) rfl <| aA rfl (xC rfl rfl (lb rfl) un72 (sv (d:=.nils) rfl) rfl) <|cMv (.nils) rfl <| aA rfl (dD (eInt .i64) (l:=[]) (b:=false) rfl rfl (lb rfl) un72 (svn rfl)) <|aA rfl (bB rfl rfl (lb rfl) (sv (d:=.int _ 0) rfl) (sv (d:=.int _ 0) rfl) rfl (c':=0) rfl) <| aA rfl (bB rfl rfl (lb rfl) (svI rfl) (sv (d:=.int _ 0) rfl) rfl w1) <|cAI rfl <| aB ?_)
 refine aC (cI rfl <| cCm (b:=0) rfl rfl <| aB ?_)
 refine gE (b:=_) rfl (fun h1=>?_) (fun h1=>?_)
 ·have h2:=of_decide_eq_true h1
  have hn : 0 < n:=by omega
  refine aR (cMv (.nils) rfl <| cMv (.nils) rfl <| aA rfl (xC rfl rfl (lb rfl) un72 (sv (d:=.nils) rfl) rfl) <|aA rfl (zT rfl rfl (lb rfl) un72 ti3 (sv (d:=.nils) rfl) (sv (d:=.int _ 0) rfl)) <| cI rfl <|aA rfl (xQ (k:=n) 0 rfl rfl (lb rfl) un72 un3 ti3 rfl (eInt .i64).pos (sv (d:=.nils) rfl) rfl (svI rfl) rfl hn hm hb) <|cMv (.nils) rfl <| aA rfl (dD (eInt .i64) (l:=[]) (b:=false) rfl rfl (lb rfl) un72 (svn rfl)) <|aA rfl (aDt rfl rfl (lb rfl) un72 ti3 (sv (d:=.osl _ _ _) rfl) rfl (sv (d:=.int _ 0) rfl)) <|cAs (.osl _ _ _) rfl <| bK ?_)
  refine aE <| aC (cMv (.osl _ _ _) rfl <| cAs (.osl _ _ _) rfl <| aB ?_)
  refine aI ?_
  refine ⟨.inr rfl,(fun i=>i),⟨.nil,(.cons (EntW.lst rfl) .nil),bS [0] rfl (by decide),fun _ _=>rfl⟩,(.cons (sv rfl) .nil),rfl⟩
 ·refine aJ <| aE <| aC (cMv (.nils) rfl <| cAs (.nils) rfl <| aB ?_)
  refine aI ?_
  refine ⟨.inr rfl,(fun i=>if i = 0 then 50 else i),⟨.nil,(.cons (.nilb rfl) .nil),bS [50] rfl (by decide),(fun i hi=>by first | rfl | (show (if _ then _ else _) = _; (repeat' split) <;> omega))⟩,(.cons (svno rfl) .nil),rfl⟩

theorem qR (a0 : (List (List Int))) (r : (List Int)) (h : kE a0 = some r) : bR Tryz.prog 77 [.slice false (a0.map (eLst (eInt .i64)).d)] (.slice false (r.map (eInt .i64).d)):=by
 refine lQ (rs:=[.slice false (r.map (eInt .i64).d)]) Tryz.func77 rfl Tryz.ntmps77 (nle rfl) rfl fun O hO=>?_
 show IWP _ _ _ _ ⟨[(0,.slice false (a0.map (eLst (eInt .i64)).d))],[]⟩ _
 unfold kE at h
 refine aC (cAs (.nils) rfl <|aB ?_)
 refine aC (cAs (.int _ 0) rfl <|aB ?_)
 refine aK <| aC (aA rfl (mvL rfl rfl rfl rfl) <|aA rfl (dD (eLst (eInt .i64)) (l:=a0) rfl rfl (lb rfl) aEG (svL rfl)) <|cMv (.int _ 0) rfl <|aB ?_)
 refine aU <| cP (α:=Nat × Int × Int) (fun z=>⟨[(0,.slice false (a0.map (eLst (eInt .i64)).d)),(3,.int .i64 z.2.1),(9,.slice false (a0.map (eLst (eInt .i64)).d)),(10,.int .i64 (a0.length : Int)),(11,.int .i64 z.2.2)],[]⟩) (fun z=>eW a0 z.1 z.2.1 z.2.2 = some r) (fun z=>z.1) (fuel,0,0) (fun i=>i) ⟨(.sames rfl rfl),.nil,bS [] rfl (by decide),fun _ _=>rfl⟩ ?_ ?_
 ·exact h
 ·
  rintro ⟨n0,v8,v9⟩ h
  cases n0 with
  | zero=>exact absurd h (by unfold eW; exact nofun)
  | succ n0 =>
   unfold eW at h
   obtain ⟨x17,hx17,h⟩:=bE h
   refine aC (cCm rfl hx17 <|aB ?_)
   refine aK <| aH h rfl (fun h=>?_) (fun h=>?_)
   ·
    refine aJ <| aE <| aK <| aU ?_
    obtain ⟨x19,hx19,h⟩:=bT h
    refine aC (aA rfl (cW (eLst (eInt .i64)) (cs:=[.slice _ _]) rfl rfl (lb rfl) aEG ti72 (svL rfl) (svI rfl) hx19 rfl rfl) <|aA rfl (cN rfl rfl (lb rfl) un72 ag72 ti72 (by decide) (sv (d:=.fptr [.slice _ _]) rfl) (nle rfl)) <|aA rfl (bV rfl rfl (lb rfl) (svL rfl)) <|aB ?_)
    obtain ⟨x20,hx20,h⟩:=bE h
    refine aC (cI rfl <|aA rfl (mvL rfl rfl rfl rfl) <|aA rfl (dD (eInt .i64) (l:=x19) rfl rfl (lb rfl) un72 (svL rfl)) <|aA rfl (bB rfl rfl (lb rfl) (svI rfl) (svI rfl) rfl hx20) <|cAI rfl <|aB ?_)
    obtain ⟨x21,hx21,h⟩:=bE h
    refine aC (cI rfl <|cCm (b:=0) rfl hx21 <|aB ?_)
    refine aH h rfl (fun h=>?_) (fun h=>?_)
    ·
     cases h
    ·
     refine aJ <| bM <| aE ?_
     obtain ⟨x23,hx23,h⟩:=bE h
     refine aR (aA rfl (bB rfl rfl (lb rfl) (svI rfl) (sv (d:=.int _ 1) rfl) rfl hx23) <|cI rfl <|bK ?_)
     refine aE ⟨(n0,x20,x23),(fun i=>i),⟨(.sames rfl rfl),.nil,bS [] rfl (by decide),fun _ _=>rfl⟩,?_,?_⟩
     exact h
     exact Nat.lt_succ_self _
   ·
    refine cC <| aW <| aW <| cD <| aE ?_
    obtain ⟨x24,hx24,h⟩:=bT h
    refine aC (cI rfl <|aA rfl (fQ (r':=.osl 0 (eInt .i64).sz x24.length) (H1':=[(0,.blk 3 (D.flat (x24.map (eInt .i64).d)))]) 0 [] rfl rfl (lb rfl) cl94 (.cons (sv (d:=.nils) rfl) (.cons (svI rfl) .nil)) rfl rfl ⟨rfl,rfl,by decide,rfl,List.forall_mem_nil _⟩ (pO _ _ hx24) rfl rfl (List.forall_mem_cons.2 ⟨⟨rfl,(aDF (eInt .i64))⟩,List.forall_mem_nil _⟩) (by simp only [List.map_cons,List.map_nil,Ent.ren,iV,jL]; rfl)) <|cAs (.osl _ _ _) rfl <|aB ?_)
    refine aK <| aC (aA rfl (mvL rfl rfl rfl rfl) <|aA rfl (dD (eLst (eInt .i64)) (l:=a0) rfl rfl (lb rfl) aEG (svL rfl)) <|cMv (.int _ 0) rfl <|aB ?_)
    refine aU <| cP (α:=Nat × (List Int) × Int) (fun z=>⟨[(6,.osl 0 (eInt .i64).sz z.2.1.length),(25,.slice false (a0.map (eLst (eInt .i64)).d)),(26,.int .i64 (a0.length : Int)),(27,.int .i64 z.2.2)],[(0,.blk 3 (D.flat (z.2.1.map (eInt .i64).d)))]⟩) (fun z=>eV a0 z.1 z.2.1 z.2.2 = some r) (fun z=>z.1) (fuel,x24,0) (fun i=>i) ⟨(.sames rfl rfl),(.cons (EntW.lst rfl) .nil),bS [0] rfl (by decide),fun _ _=>rfl⟩ ?_ ?_
    ·exact h
    ·
     rintro ⟨n1,v30,v31⟩ h
     cases n1 with
     | zero=>exact absurd h (by unfold eV; exact nofun)
     | succ n1 =>
      unfold eV at h
      obtain ⟨x37,hx37,h⟩:=bE h
      refine aC (cCm rfl hx37 <|aB ?_)
      refine aK <| aH h rfl (fun h=>?_) (fun h=>?_)
      ·
       refine aJ <| aE <| aK <| aU ?_
       obtain ⟨x39,hx39,h⟩:=bT h
       refine aC (aA rfl (cW (eLst (eInt .i64)) (cs:=[.slice _ _]) rfl rfl (lb rfl) aEG ti72 (svL rfl) (svI rfl) hx39 rfl rfl) <|aA rfl (cN rfl rfl (lb rfl) un72 ag72 ti72 (by decide) (sv (d:=.fptr [.slice _ _]) rfl) (nle rfl)) <|aA rfl (bV rfl rfl (lb rfl) (svL rfl)) <|aB ?_)
       obtain ⟨x40,hx40,h⟩:=bT h
       refine aR (cMv (.osl _ _ _) rfl <|aA rfl (mvL rfl rfl rfl rfl) <|aA rfl (sW (eInt .i64).toEnc0 1 rfl rfl (lb rfl) un72 ti3 rfl rfl rfl rfl rfl (aFy (eInt .i64) (ys:=x39) (svL rfl)) hx40) <|cAs (.osl _ _ _) rfl <|bK ?_)
       refine bM <| aE ?_
       obtain ⟨x41,hx41,h⟩:=bE h
       refine aR (aA rfl (bB rfl rfl (lb rfl) (svI rfl) (sv (d:=.int _ 1) rfl) rfl hx41) <|cI rfl <|bK ?_)
       refine aE ⟨(n1,x40,x41),(fun i=>if i = 0 then 1 else i),⟨(.sames rfl rfl),(.cons (EntW.lst rfl) .nil),bS [1] rfl (by decide),(fun i hi=>by first | rfl | (show (if _ then _ else _) = _; (repeat' split) <;> omega))⟩,?_,?_⟩
       exact h
       exact Nat.lt_succ_self _
      ·
       refine cC <| aW <| aW <| cD <| aE <| aC (cMv (.osl _ _ _) rfl <|cAs (.osl _ _ _) rfl <|aB ?_)
       refine aI ?_
       obtain rfl:=Option.some.inj h
       refine ⟨.inr rfl,_,(.cons (sv rfl) .nil),(.cons (FDT (eInt .i64) rfl rfl) .nil)⟩

theorem uR (a0 : dF) (r : Bool) (h : oA a0 = some r) : bR Tryz.prog 63 [.agg (tv5 a0)] (.bool r) := by
 refine aN (rs:=[.bool r]) Tryz.func63 rfl Tryz.ntmps63 (nle rfl) rfl fun O hO=>?_
 show IWP _ _ _ _ ⟨[(0,.agg (tv5 a0))],[]⟩ _
 unfold oA at h
 refine aC (cBx (cs:=q33) q33 0 rfl <|cAs (.bool false) rfl <|aB ?_)
 refine aE6 <| aK ?_
 obtain ⟨x1,hx1,h⟩:=bE h
 refine aC (cFa 4 un98 rfl ti72 rfl <|aA rfl (lrL la72 rfl rfl rfl rfl rfl (nle rfl) rfl) <|aA rfl (dD (eInt .i64) (l:=a0.Cut) rfl rfl (lb rfl) un72 (svL rfl)) <|cCm (b:=8) rfl hx1 <|aB ?_)
 refine aH h rfl (fun h=>?_) (fun h=>?_)
 ·
  refine aC (cAs (.bool false) rfl <|aB ?_)
  refine aI <| aQ <| aAp ?_
  obtain rfl:=Option.some.inj h
  refine ⟨.inr rfl,(.cons (sv rfl) .nil)⟩
 ·
  refine aJ <| aE <| aC (cAs (.bool true) rfl <|aB ?_)
  refine aK <| aE7 <| aE <| aK <| aC (cFa 4 un98 rfl ti72 rfl <|aA rfl (lrL la72 rfl rfl rfl rfl rfl (nle rfl) rfl) <|aA rfl (dD (eInt .i64) (l:=a0.Cut) rfl rfl (lb rfl) un72 (svL rfl)) <|cMv (.int _ 0) rfl <|aB ?_)
  refine aU <| cP (α:=Nat × Bool × Int) (fun z=>⟨[(1,.ref 0 0),(3,.bool z.2.1),(13,.slice false (a0.Cut.map (eInt .i64).d)),(14,.int .i64 (a0.Cut.length : Int)),(15,.int .i64 z.2.2)],[(0,.blk 98 (tv5 a0))]⟩) (fun z=>fP a0 z.1 z.2.1 z.2.2 = some r) (fun z=>z.1) (fuel,true,0) (fun i=>i) ⟨(.sames rfl rfl),(.cons (.blk rfl rfl rfl) .nil),bS [0] rfl (by decide),fun _ _=>rfl⟩ ?_ ?_
  ·exact h
  ·
   rintro ⟨n0,v30,v31⟩ h
   cases n0 with
   | zero=>exact absurd h (by unfold fP; exact nofun)
   | succ n0 =>
    unfold fP at h
    obtain ⟨x59,hx59,h⟩:=bE h
    refine aC (cCm rfl hx59 <|aB ?_)
    refine aK <| aH h rfl (fun h=>?_) (fun h=>?_)
    ·
     refine aJ <| aE <| aK <| aU ?_
     obtain ⟨x61,hx61,h⟩:=bT h
     refine aC (cI rfl <|aA rfl (cW (eInt .i64) (cs:=[.int _ _]) rfl rfl (lb rfl) un72 ti3 (svL rfl) (svI rfl) hx61 rfl rfl) <|aA rfl (cN rfl rfl (lb rfl) un3 ag3 ti3 (by decide) (sv (d:=.fptr [.int _ _]) rfl) (nle rfl)) <|cAI rfl <|cAI rfl <|aB ?_)
     refine aK ?_
     obtain ⟨x62,hx62,x63,hx63,h⟩:=eoo h
     refine eI rfl [nd1 [1] 20 (.ref 0 3),nd2 [20] [0] 21 (.slice false (a0.Live.map (eInt .i64).d)),nd1 [1] 22 (.ref 0 4),nd2 [22] [0] 23 (.slice false (a0.Cut.map (eInt .i64).d)),nd1 [4] 24 (.int .i64 v31),nd1 [23,24] 25 (.slice false (x62.map (eInt .i64).d)),⟨[21,25],[1],[(26,.gsl 1 (eLst (eInt .i64)).sz (([a0.Live,x62] : (List (List Int))).map (eLst (eInt .i64)).d))],[(1,.tail 72 (eLst (eInt .i64)).sz ([a0.Live,x62] : (List (List Int))).length)]⟩,nd1 [26] 27 (.slice false (x63.map (eInt .i64).d)),nd1 [27] 28 (.int .i64 (x63.length : Int)),nd1 [] 29 (.int .i64 0)] rfl ?_ (by kernel_rfl) ?_
     ·refine .cons (dFa 3 un98 rfl ti72 rfl) <| .cons (dLd un72 ag72 ti72 rfl) <| .cons (dFa 4 un98 rfl ti72 rfl) <| .cons (dLd un72 ag72 ti72 rfl) <| .cons (dMv rfl) <| .cons (lop rfl rfl fun S hA=>(aBG (eInt .i64) rfl rfl (lb rfl) un72 ti3 (svaL hA rfl rfl) rfl ⟨_,(svaI hA rfl rfl)⟩ hx62)) <| .cons (lop rfl rfl fun S hA=>(mM (eLst (eInt .i64)) ([a0.Live,x62] : (List (List Int))) 1 rfl rfl (lb rfl) aEG ti72 (agi hA rfl rfl) (.cons (svaL hA rfl rfl) (.cons (svaL hA rfl rfl) .nil)) rfl rfl (by decide))) <| .cons (lop rfl rfl fun S hA=>(aL (r:=.slice _ _) rfl rfl (lb rfl) cl77 (.cons (svg (agr hA rfl rfl)) .nil) rfl (qR _ _ hx63))) <| .cons (lop rfl rfl fun S hA=>(dD (eInt .i64) (l:=x63) rfl rfl (lb rfl) un72 (svaL hA rfl rfl))) <| .cons (lop rfl rfl fun S hA=>(tMv (.int _ 0) rfl)) ?_
      exact .nil
     refine aU <| cP (α:=Nat × Int) (fun z=>⟨[(1,.ref 0 0),(3,.bool v30),(13,.slice false (a0.Cut.map (eInt .i64).d)),(14,.int .i64 (a0.Cut.length : Int)),(15,.int .i64 v31),(5,.int .i64 x61),(27,.slice false (x63.map (eInt .i64).d)),(28,.int .i64 (x63.length : Int)),(29,.int .i64 z.2)],[(0,.blk 98 (tv5 a0))]⟩) (fun z=>gV a0 v30 v31 (fP a0 n0) x61 x63 z.1 z.2 = some r) (fun z=>z.1) (fuel,0) (fun i=>i) ⟨(.sames rfl rfl),(.cons (.blk rfl rfl rfl) .nil),bS [0] rfl (by decide),fun _ _=>rfl⟩ ?_ ?_
     ·exact h
     ·
      rintro ⟨n1,v70⟩ h
      cases n1 with
      | zero=>exact absurd h (by unfold gV; exact nofun)
      | succ n1 =>
       unfold gV at h
       obtain ⟨x77,hx77,h⟩:=bE h
       refine aC (cCm rfl hx77 <|aB ?_)
       refine aK <| aH h rfl (fun h=>?_) (fun h=>?_)
       ·
        refine aJ <| aE <| aK <| aU ?_
        obtain ⟨x79,hx79,h⟩:=bT h
        refine aC (aA rfl (cW (eInt .i64) (cs:=[.int _ _]) rfl rfl (lb rfl) un72 ti3 (svL rfl) (svI rfl) hx79 rfl rfl) <|aA rfl (cN rfl rfl (lb rfl) un3 ag3 ti3 (by decide) (sv (d:=.fptr [.int _ _]) rfl) (nle rfl)) <|cAI rfl <|aB ?_)
        obtain ⟨x80,hx80,h⟩:=bE h
        refine aC (cI rfl <|cI rfl <|cCm rfl hx80 <|aB ?_)
        refine aH h rfl (fun h=>?_) (fun h=>?_)
        ·
         refine aC (cAs (.bool false) rfl <|aB ?_)
         refine cC <| cA rfl <| aW <| aW <| cA rfl <| aW <| cA rfl <| aW <| aW <| cD <| aE <| aC (cB rfl <|cAB rfl <|aB ?_)
         refine aI <| aAp ?_
         obtain rfl:=Option.some.inj h
         refine ⟨.inr rfl,(.cons (sv rfl) .nil)⟩
        ·
         refine aJ <| bM <| aE ?_
         obtain ⟨x82,hx82,h⟩:=bE h
         refine aR (aA rfl (bB rfl rfl (lb rfl) (svI rfl) (sv (d:=.int _ 1) rfl) rfl hx82) <|cI rfl <|bK ?_)
         refine aE ⟨(n1,x82),(fun i=>i),⟨(.sames rfl rfl),(.cons (.blk rfl rfl rfl) .nil),bS [0] rfl (by decide),fun _ _=>rfl⟩,?_,?_⟩
         exact h
         exact Nat.lt_succ_self _
       ·
        refine cC <| aW <| aW <| cD <| aE ?_
        obtain ⟨x83,hx83,x84,hx84,h⟩:=eod h
        refine aR (cB rfl <|cB rfl <|gG rfl (fun hb=>(tLr q33 la98 rfl)) <|gG rfl (fun hb=>(tI rfl)) <|gG rfl (fun hb=>(aL (r:=.bool _) rfl rfl (lb rfl) cl76 (.cons (svcA (tv5 a0) rfl hb) (.cons (svcI rfl hb) .nil)) rfl (pI _ _ _ (gd_t hx83 hb)))) <|cAn rfl hx84 <|cAB rfl <|bK ?_)
        refine bM <| aE ?_
        obtain ⟨x85,hx85,h⟩:=bE h
        refine aR (aA rfl (bB rfl rfl (lb rfl) (svI rfl) (sv (d:=.int _ 1) rfl) rfl hx85) <|cI rfl <|bK ?_)
        refine aE ⟨(n0,x84,x85),(fun i=>i),⟨(.sames rfl rfl),(.cons (.blk rfl rfl rfl) .nil),bS [0] rfl (by decide),fun _ _=>rfl⟩,?_,?_⟩
        exact h
        exact Nat.lt_succ_self _
    ·
     refine cC <| aW <| aW <| cD <| aE <| aC (cB rfl <|cAB rfl <|aB ?_)
     refine aI <| aAp ?_
     obtain rfl:=Option.some.inj h
     refine ⟨.inr rfl,(.cons (sv rfl) .nil)⟩

theorem aBl (a0 : dF) (r : Int) (h : vW a0 = some r) : bR Tryz.prog 49 [.agg (tv5 a0)] (.int .i64 r):=by
 refine aN (rs:=[.int .i64 r]) Tryz.func49 rfl Tryz.ntmps49 (nle rfl) rfl fun O hO=>?_
 show IWP _ _ _ _ ⟨[(0,.agg (tv5 a0))],[]⟩ _
 unfold vW at h
 refine aC (cBx (cs:=q33) q33 0 rfl <|cAs (.int _ 0) rfl <|aB ?_)
 refine aK <| aU ?_
 obtain ⟨x1,hx1,h⟩:=bT h
 refine aC (cLr q33 la98 rfl <|aA rfl (aL (r:=.bool _) rfl rfl (lb rfl) cl61 (.cons (svA q33 rfl) .nil) rfl (tA _ _ hx1)) <|aA rfl (dJ rfl rfl (lb rfl) (svB rfl)) <|cAB rfl <|aB ?_)
 refine aH h rfl (fun h=>?_) (fun h=>?_)
 ·
  refine aC (cAs (.int _ 8) rfl <|aB ?_)
  refine aI <| bJ <| aQ ?_
  obtain rfl:=Option.some.inj h
  refine ⟨.inr rfl,(.cons (sv rfl) .nil)⟩
 ·
  obtain ⟨x3,hx3,h⟩:=bT h
  refine aC (cLr q33 la98 rfl <|aA rfl (aL (r:=.bool _) rfl rfl (lb rfl) cl62 (.cons (svA q33 rfl) .nil) rfl (uQ _ _ hx3)) <|aA rfl (dJ rfl rfl (lb rfl) (svB rfl)) <|cAB rfl <|aB ?_)
  refine aH h rfl (fun h=>?_) (fun h=>?_)
  ·
   refine aC (cAs (.int _ 4) rfl <|aB ?_)
   refine aI <| bJ <| aQ ?_
   obtain rfl:=Option.some.inj h
   refine ⟨.inr rfl,(.cons (sv rfl) .nil)⟩
  ·
   obtain ⟨x5,hx5,h⟩:=bT h
   refine aC (cLr q33 la98 rfl <|aA rfl (aL (r:=.bool _) rfl rfl (lb rfl) cl63 (.cons (svA q33 rfl) .nil) rfl (uR _ _ hx5)) <|aA rfl (dJ rfl rfl (lb rfl) (svB rfl)) <|cAB rfl <|aB ?_)
   refine aH h rfl (fun h=>?_) (fun h=>?_)
   ·
    refine aC (cAs (.int _ 10) rfl <|aB ?_)
    refine aI <| bJ <| aQ ?_
    obtain rfl:=Option.some.inj h
    refine ⟨.inr rfl,(.cons (sv rfl) .nil)⟩
   ·
    refine aJ <| bM <| aE <| aC (cAs (.int _ 0) rfl <|aB ?_)
    refine aI ?_
    obtain rfl:=Option.some.inj h
    refine ⟨.inr rfl,(.cons (sv rfl) .nil)⟩

theorem aDk (a0 : Bool) (a1 : Int) (a2 : Int) (r : (dF × Int)) (h : uF a0 a1 a2 = some r) : bR Tryz.prog 31 [.bool a0,.int .i64 a1,.int .i64 a2] (retD [.agg (tv5 r.1),.int .i64 r.2]):=by
 refine aN (rs:=[.agg (tv5 r.1),.int .i64 r.2]) Tryz.func31 rfl Tryz.ntmps31 (nle rfl) rfl fun O hO=>?_
 show IWP _ _ _ _ ⟨[(0,.bool a0),(1,.int .i64 a1),(2,.int .i64 a2)],[]⟩ _
 unfold uF at h
 refine aC (aA rfl (aZ (cs:=q36) (cs':=zs5) 0 rfl rfl (lb rfl) rfl ti98 rfl rfl (.k (.k (.k (.cons (.nils _) (.cons (.nils _) (.all _))))))) <|cAs (.int _ 0) rfl <|aB ?_)
 refine aC (cB rfl <|cI rfl <|cI rfl <|aA rfl (kM (d':=.agg (w65 a0 1 0 ([] : List Int) ([] : List Int) a1 a2 (-1) (-1))) (aY (cs:=q36) rfl rfl (lb rfl) un98 ti98 pl98 rfl (.cons (svB rfl) (.cons (sv (d:=.int _ 1) rfl) (.cons (svI rfl) (.cons (svI rfl) (.cons (sv (d:=.int _ (-1)) rfl) (.cons (sv (d:=.int _ (-1)) rfl) .nil)))))) rfl) (.agg (.k (.k (.k (.cons (.nils _) (.cons (.nils _) (.all _)))))))) <|aA rfl (aZ (cs:=q36) (cs':=zs5) 1 rfl rfl (lb rfl) rfl ti98 rfl rfl (.k (.k (.k (.cons (.nils _) (.cons (.nils _) (.all _))))))) <|aA rfl (cH (ds':=[.bool _,.int _ _,.int _ _,.slice false (([] : List Int).map (eInt .i64).d),.slice false (([] : List Int).map (eInt .i64).d),.int _ _,.int _ _,.int _ _,.int _ _]) rfl rfl ti98 (svR rfl) rfl (svA q33 rfl) rfl rfl rfl (nle rfl) rfl) <|aB ?_)
 refine iT (α:=Int) (fun z=>⟨[(6,.ref 0 0),(8,.ref 1 0)],[(0,.blk 98 zs5),(1,.blk 98 (w65 a0 z 0 ([] : List Int) ([] : List Int) a1 a2 (-1) (-1)))]⟩) (fun z=>qO a0 a1 a2 z = some r) ?_ ?_
 ·
  refine aC (cB rfl <|aA rfl (dJ rfl rfl (lb rfl) (svB rfl)) <|aB ?_)
  refine aH h rfl (fun h=>?_) (fun h=>?_)
  ·
   obtain ⟨x8,hx8,h⟩:=bE h
   refine aR (cFa 1 un98 rfl ti3 rfl <|cLd (d:=.int _ _) un3 ag3 ti3 rfl <|aA rfl (bB rfl rfl (lb rfl) (svI rfl) (sv (d:=.int _ 1) rfl) rfl hx8) <|cFa 1 un98 rfl ti3 rfl <|aA rfl (cH (ds':=[.bool _,.int _ _,.int _ _,.slice false (([] : List Int).map (eInt .i64).d),.slice false (([] : List Int).map (eInt .i64).d),.int _ _,.int _ _,.int _ _,.int _ _]) rfl rfl ti3 (svR rfl) rfl (svI rfl) rfl rfl rfl (nle rfl) rfl) <|bK ?_)
   refine aE ⟨x8,(fun i=>i),⟨(.sames rfl rfl),(.cons (.blk rfl rfl rfl) (.cons (.blk rfl rfl rfl) .nil)),bS [0,1] rfl (by decide),fun _ _=>rfl⟩,?_⟩
   exact h
  ·
   refine aJ <| aE ⟨1,(fun i=>i),⟨(.sames rfl rfl),(.cons (.blk rfl rfl rfl) (.cons (.blk rfl rfl rfl) .nil)),bS [0,1] rfl (by decide),fun _ _=>rfl⟩,?_⟩
   exact h
 ·
  rintro v3 h
  unfold qO at h
  refine aK ?_
  obtain ⟨x4,hx4,h⟩:=bT h
  refine aC (cLr q33 la98 rfl <|aA rfl (aL (r:=.int _ _) rfl rfl (lb rfl) cl49 (.cons (svA q33 rfl) .nil) rfl (aBl _ _ hx4)) <|cAI rfl <|aB ?_)
  obtain ⟨x5,hx5,h⟩:=bE h
  refine aC (cI rfl <|cCm (b:=0) rfl hx5 <|aB ?_)
  refine aH h rfl (fun h=>?_) (fun h=>?_)
  ·
   refine aC (aA rfl (kM (d':=.agg zs5) (aY (cs:=q36) rfl rfl (lb rfl) un98 ti98 pl98 rfl .nil rfl) (.agg (.k (.k (.k (.cons (.nils _) (.cons (.nils _) (.all _)))))))) <|cI rfl <|aA rfl (cH (ds':=[.bool _,.int _ _,.int _ _,.slice false (([] : List Int).map (eInt .i64).d),.slice false (([] : List Int).map (eInt .i64).d),.int _ _,.int _ _,.int _ _,.int _ _]) rfl rfl ti98 (svR rfl) rfl (svA q33 rfl) rfl rfl rfl (nle rfl) rfl) <|cAI rfl <|aB ?_)
   refine aI <| aQ ?_
   obtain rfl:=Option.some.inj h
   refine ⟨.inr rfl,(.cons (rva la98 rfl rfl (nle rfl) rfl) (.cons (sv rfl) .nil))⟩
  ·
   refine aJ <| aE <| aC (cLr q33 la98 rfl <|aA rfl (cH (ds':=[.bool _,.int _ _,.int _ _,.slice false (([] : List Int).map (eInt .i64).d),.slice false (([] : List Int).map (eInt .i64).d),.int _ _,.int _ _,.int _ _,.int _ _]) rfl rfl ti98 (svR rfl) rfl (svA q33 rfl) rfl rfl rfl (nle rfl) rfl) <|cAs (.int _ 0) rfl <|aB ?_)
   refine aI ?_
   obtain rfl:=Option.some.inj h
   refine ⟨.inr rfl,(.cons (rva la98 rfl rfl (nle rfl) rfl) (.cons (sv rfl) .nil))⟩

theorem aAY (a0 : Int) (a1 : Int) (a2 : Int) (r : Bool) (h : sP a0 a1 a2 = some r) : bR Tryz.prog 50 [.int .i64 a0,.int .i64 a1,.int .i64 a2] (.bool r):=by
 refine aN (rs:=[.bool r]) Tryz.func50 rfl Tryz.ntmps50 (nle rfl) rfl fun O hO=>?_
 show IWP _ _ _ _ ⟨[(0,.int .i64 a0),(1,.int .i64 a1),(2,.int .i64 a2)],[]⟩ _
 unfold sP at h
 refine aC (cAs (.bool false) rfl <|aB ?_)
 obtain ⟨x1,hx1,x2,hx2,x3,hx3,h⟩:=eddd h
 refine aC (cI rfl <|cI rfl <|cCm rfl hx1 <|cB rfl <|gG rfl (fun hb=>(tI rfl)) <|gG rfl (fun hb=>(tI rfl)) <|gG rfl (fun hb=>(tCh rfl hb hx2)) <|cAn rfl hx3 <|cAB rfl <|aB ?_)
 refine aI ?_
 obtain rfl:=Option.some.inj h
 refine ⟨.inr rfl,(.cons (sv rfl) .nil)⟩

theorem aAL (a0 : eP) (r : Int) (h : pL a0 = some r) : bR Tryz.prog 52 [.agg (tv17 a0)] (.int .i64 r):=by
 refine aN (rs:=[.int .i64 r]) Tryz.func52 rfl Tryz.ntmps52 (nle rfl) rfl fun O hO=>?_
 show IWP _ _ _ _ ⟨[(0,.agg (tv17 a0))],[]⟩ _
 unfold pL at h
 refine aC (cBx (cs:=q43) q43 0 rfl <|cAs (.int _ 0) rfl <|aB ?_)
 obtain ⟨x1,hx1,x2,hx2,x3,hx3,h⟩:=eddd h
 obtain ⟨x4,hx4,x5,hx5,x6,hx6,h⟩:=eddd h
 obtain ⟨x7,hx7,h⟩:=bE h
 refine aC (cFa 3 xF rfl ti3 rfl <|cLd (d:=.int _ _) un3 ag3 ti3 rfl <|aA rfl (fF rfl rfl (lb rfl) (sv (d:=.int _ 0) rfl) (svI rfl) rfl hx1) <|cB rfl <|gG rfl (fun hb=>(tFa 3 xF rfl ti3 rfl)) <|gG rfl (fun hb=>(tLc (d:=.int _ _) un3 ag3 ti3 rfl hb)) <|gG rfl (fun hb=>(tFa 2 xF rfl ti3 rfl)) <|gG rfl (fun hb=>(tLc (d:=.int _ _) un3 ag3 ti3 rfl hb)) <|gG rfl (fun hb=>(tCh rfl hb hx2)) <|cAn rfl hx3 <|cB rfl <|gG rfl (fun hb=>(tFa 2 xF rfl ti3 rfl)) <|gG rfl (fun hb=>(tLc (d:=.int _ _) un3 ag3 ti3 rfl hb)) <|gG rfl (fun hb=>(tFa 1 xF rfl ti3 rfl)) <|gG rfl (fun hb=>(tLc (d:=.int _ _) un3 ag3 ti3 rfl hb)) <|gG rfl (fun hb=>(tCh rfl hb hx4)) <|cAn rfl hx5 <|cB rfl <|gG rfl (fun hb=>(tFa 1 xF rfl ti3 rfl)) <|gG rfl (fun hb=>(tLc (d:=.int _ _) un3 ag3 ti3 rfl hb)) <|gG rfl (fun hb=>(tCg (b:=1099511627776) rfl hb hx6)) <|cAn rfl hx7 <|cAB rfl <|aB ?_)
 refine aK ?_
 obtain ⟨x8,hx8,x9,hx9,x10,hx10,h⟩:=eddd h
 obtain ⟨x11,hx11,h⟩:=bE h
 refine aC (cB rfl <|aA rfl (dJ rfl rfl (lb rfl) (svB rfl)) <|cB rfl <|gG rfl (fun hb=>(tFa 0 xF rfl ti3 rfl)) <|gG rfl (fun hb=>(tLc (d:=.int _ _) un3 ag3 ti3 rfl hb)) <|gG rfl (fun hb=>(tCg (b:=1) rfl hb hx8)) <|cOr rfl hx9 <|cB rfl <|gG rfl (fun hb=>(tFa 0 xF rfl ti3 rfl)) <|gG rfl (fun hb=>(tLc (d:=.int _ _) un3 ag3 ti3 rfl hb)) <|gG rfl (fun hb=>(tCg (b:=1048576) rfl hb hx10)) <|cOr rfl hx11 <|aB ?_)
 refine aH h rfl (fun h=>?_) (fun h=>?_)
 ·
  refine aC (cAs (.int _ 8) rfl <|aB ?_)
  refine aI <| aQ ?_
  obtain rfl:=Option.some.inj h
  refine ⟨.inr rfl,(.cons (sv rfl) .nil)⟩
 ·
  refine aJ <| aE <| aC (cAs (.int _ 0) rfl <|aB ?_)
  refine aI ?_
  obtain rfl:=Option.some.inj h
  refine ⟨.inr rfl,(.cons (sv rfl) .nil)⟩

theorem pJ (a0 : Int) (r : (eP × Int)) (h : kX a0 = some r) : bR Tryz.prog 33 [.int .i64 a0] (retD [.agg (tv17 r.1),.int .i64 r.2]):=by
 refine aN (rs:=[.agg (tv17 r.1),.int .i64 r.2]) Tryz.func33 rfl Tryz.ntmps33 (nle rfl) rfl fun O hO=>?_
 show IWP _ _ _ _ ⟨[(0,.int .i64 a0)],[]⟩ _
 unfold kX at h
 refine aC (aA rfl (aZ (cs:=q43) (cs':=(w73 0 0 0 0)) 0 rfl rfl (lb rfl) rfl rH rfl rfl (.all _)) <|cAs (.int _ 0) rfl <|aB ?_)
 refine aC (cI rfl <|cI rfl <|aA rfl (aY (cs:=q43) rfl rfl (lb rfl) xF rH pl123 rfl (.cons (svI rfl) (.cons (svI rfl) .nil)) rfl) <|aA rfl (aZ (cs:=q43) (cs':=(w73 0 0 0 0)) 1 rfl rfl (lb rfl) rfl rH rfl rfl (.all _)) <|cSt q43 q43 rH rfl <|aB ?_)
 refine aK ?_
 obtain ⟨x1,hx1,h⟩:=bT h
 refine aC (cLr q43 aGH rfl <|aA rfl (aL (r:=.int _ _) rfl rfl (lb rfl) cl52 (.cons (svA q43 rfl) .nil) rfl (aAL _ _ hx1)) <|cAI rfl <|aB ?_)
 obtain ⟨x2,hx2,h⟩:=bE h
 refine aC (cI rfl <|cCm (b:=0) rfl hx2 <|aB ?_)
 refine aH h rfl (fun h=>?_) (fun h=>?_)
 ·
  refine aC (aA rfl (aY (cs:=q43) rfl rfl (lb rfl) xF rH pl123 rfl .nil rfl) <|cI rfl <|cSt q43 q43 rH rfl <|cAI rfl <|aB ?_)
  refine aI <| aQ ?_
  obtain rfl:=Option.some.inj h
  refine ⟨.inr rfl,(.cons (rva aGH rfl rfl (nle rfl) rfl) (.cons (sv rfl) .nil))⟩
 ·
  refine aJ <| aE <| aC (cLr q43 aGH rfl <|cSt q43 q43 rH rfl <|cAs (.int _ 0) rfl <|aB ?_)
  refine aI ?_
  obtain rfl:=Option.some.inj h
  refine ⟨.inr rfl,(.cons (rva aGH rfl rfl (nle rfl) rfl) (.cons (sv rfl) .nil))⟩

theorem aBk (a0 : bL) (r : (List aT)) (h : sM a0 = some r) : bR Tryz.prog 55 [.agg (tv14 a0)] (.slice false (r.map bA.d)):=by
 refine aN (rs:=[.slice false (r.map bA.d)]) Tryz.func55 rfl Tryz.ntmps55 (nle rfl) rfl fun O hO=>?_
 show IWP _ _ _ _ ⟨[(0,.agg (tv14 a0))],[]⟩ _
 unfold sM at h
 refine aC (cBx (cs:=q43) q43 0 rfl <|cAs (.nils) rfl <|aB ?_)
 refine aC (cAs (.nils) rfl <|aB ?_)
 refine aK ?_
 obtain ⟨x1,hx1,h⟩:=bT h
 refine aC (cLr q43 la29 rfl <|aA rfl (aL (r:=.agg q43) rfl rfl (lb rfl) cl20 (.cons (svA q43 rfl) .nil) rfl (nD _ _ hx1)) <|cMv (.int _ 0) rfl <|aB ?_)
 refine aU <| cP (α:=Nat × (List aT) × Int) (fun z=>⟨[(3,.gsl 21 bA.sz (z.2.1.map bA.d)),(7,.agg (tv20 x1)),(8,.int .i64 z.2.2)],[(21,.tail 180 bA.sz z.2.1.length)]⟩) (fun z=>lX x1 z.1 z.2.1 z.2.2 = some r) (fun z=>z.1) (fuel,([] : (List aT)),0) (fun i=>if i = 21 then 72 else i) ⟨(.cons (.nils rfl) (.sames rfl rfl)),(.cons (.nils rfl) .nil),bS [72] rfl (by decide),(fun i hi=>by first | rfl | (show (if _ then _ else _) = _; (repeat' split) <;> omega))⟩ ?_ ?_
 ·exact h
 ·
  rintro ⟨n0,v7,v8⟩ h
  cases n0 with
  | zero=>exact absurd h (by unfold lX; exact nofun)
  | succ n0 =>
   unfold lX at h
   obtain ⟨x15,hx15,h⟩:=bE h
   refine aC (cCm (b:=4) rfl hx15 <|aB ?_)
   refine aK <| aH h rfl (fun h=>?_) (fun h=>?_)
   ·
    refine aJ <| aE <| aK <| aU ?_
    obtain ⟨x17,hx17,h⟩:=bT h
    refine aC (cI rfl <|aA rfl (sD (eInt .i64) (d:=.int _ _) rfl rfl (lb rfl) un75 un3 ag3 ti3 (svA q43 rfl) (svI rfl) hx17 rfl ⟨rfl,⟨rfl,⟨rfl,⟨rfl,trivial⟩⟩⟩⟩ rfl) <|cAI rfl <|cAI rfl <|aB ?_)
    obtain ⟨x18,hx18,x19,hx19,h⟩:=edo h
    refine aR (cMv (.gsl _ _ _) rfl <|cI rfl <|aA rfl (bB rfl rfl (lb rfl) (svI rfl) (sv (d:=.int _ 1) rfl) rfl hx18) <|cI rfl <|aA rfl (aY (cs:=q52) rfl rfl (lb rfl) uA oS pl180 rfl (.cons (svI rfl) (.cons (svI rfl) .nil)) rfl) <|aA rfl (mM bA ([(⟨x18,x17⟩ : aT)] : (List aT)) 22 rfl rfl (lb rfl) pS oS rfl (.cons (svA q52 rfl) .nil) rfl rfl (by decide)) <|aA rfl (oK bA 23 rfl rfl (lb rfl) pS oS rfl rfl rfl rfl (svg rfl) hx19) <|cAs (.gsl _ _ _) rfl <|bK ?_)
    refine bM <| aE ?_
    obtain ⟨x20,hx20,h⟩:=bE h
    refine aR (aA rfl (bB rfl rfl (lb rfl) (svI rfl) (sv (d:=.int _ 1) rfl) rfl hx20) <|cI rfl <|bK ?_)
    refine aE ⟨(n0,x19,x20),(fun i=>if i = 21 then 23 else i),⟨(.sames rfl rfl),(.cons (.tail rfl) .nil),bS [23] rfl (by decide),(fun i hi=>by first | rfl | (show (if _ then _ else _) = _; (repeat' split) <;> omega))⟩,?_,?_⟩
    exact h
    exact Nat.lt_succ_self _
   ·
    refine cC <| aW <| aW <| cD <| aE <| aC (cMv (.gsl _ _ _) rfl <|cAs (.gsl _ _ _) rfl <|aB ?_)
    refine aI ?_
    obtain rfl:=Option.some.inj h
    refine ⟨.inr rfl,(.cons (yL rfl rfl) .nil)⟩

theorem zB (a0 : bL) (a1 : bL) (r : (List aT)) (h : pU a0 a1 = some r) : bR Tryz.prog 35 [.agg (tv14 a0),.agg (tv14 a1)] (.slice false (r.map bA.d)):=by
 refine aN (rs:=[.slice false (r.map bA.d)]) Tryz.func35 rfl Tryz.ntmps35 (nle rfl) rfl fun O hO=>?_
 show IWP _ _ _ _ ⟨[(0,.agg (tv14 a0)),(1,.agg (tv14 a1))],[]⟩ _
 unfold pU at h
 refine aC (cBx (cs:=q43) q43 0 rfl <|cBx (cs:=q43) q43 1 rfl <|cAs (.nils) rfl <|aB ?_)
 refine aK ?_
 obtain ⟨x1,hx1,x2,hx2,x3,hx3,h⟩:=eodo h
 obtain ⟨x4,hx4,x5,hx5,h⟩:=edd h
 refine aC (cLr q43 la29 rfl <|aA rfl (aL (r:=.int _ _) rfl rfl (lb rfl) cl13 (.cons (svA q43 rfl) .nil) rfl (pH _ _ hx1)) <|cCm (b:=0) rfl hx2 <|cB rfl <|gG rfl (fun hb=>(tLr q43 la29 rfl)) <|gG rfl (fun hb=>(aL (r:=.int _ _) rfl rfl (lb rfl) cl13 (.cons (svcA (tv14 a1) rfl hb) .nil) rfl (pH _ _ (gd_t hx3 hb)))) <|gG rfl (fun hb=>(tCg (b:=0) rfl hb hx4)) <|cOr rfl hx5 <|aB ?_)
 refine aH h rfl (fun h=>?_) (fun h=>?_)
 ·
  refine aC (cAs (.nils) rfl <|aB ?_)
  refine aI <| aQ ?_
  obtain rfl:=Option.some.inj h
  refine ⟨.inr rfl,(.cons (yK rfl rfl) .nil)⟩
 ·
  refine aJ <| aE ?_
  obtain ⟨x7,hx7,h⟩:=bT h
  refine aC (cLr q43 la29 rfl <|aA rfl (aL (r:=.agg q43) rfl rfl (lb rfl) cl20 (.cons (svA q43 rfl) .nil) rfl (nD _ _ hx7)) <|aA rfl (aZ (cs:=q43) (cs':=(w73 0 0 0 0)) 2 rfl rfl (lb rfl) rfl ti75 rfl rfl (.all _)) <|cSt q43 q43 ti75 rfl <|aB ?_)
  refine aC (cAs (.nils) rfl <|aB ?_)
  refine aK ?_
  obtain ⟨x8,hx8,h⟩:=bT h
  refine aC (cLr q43 la29 rfl <|aA rfl (aL (r:=.slice _ _) rfl rfl (lb rfl) cl55 (.cons (svA q43 rfl) .nil) rfl (aBk _ _ hx8)) <|aA rfl (dD bA (l:=x8) rfl rfl (lb rfl) pS (svL rfl)) <|cMv (.int _ 0) rfl <|aB ?_)
  refine aU <| cP (α:=Nat × (List aT) × Int) (fun z=>⟨[(5,.ref 2 0),(6,.gsl 24 bA.sz (z.2.1.map bA.d)),(20,.slice false (x8.map bA.d)),(21,.int .i64 (x8.length : Int)),(22,.int .i64 z.2.2)],[(2,.blk 75 (tv20 x7)),(24,.tail 180 bA.sz z.2.1.length)]⟩) (fun z=>hG x7 x8 z.1 z.2.1 z.2.2 = some r) (fun z=>z.1) (fuel,([] : (List aT)),0) (fun i=>if i = 24 then 77 else i) ⟨(.s rfl rfl (.cons (.nils rfl) (.sames rfl rfl))),(.cons (.blk rfl rfl rfl) (.cons (.nils rfl) .nil)),bS [2,77] rfl (by decide),(fun i hi=>by first | rfl | (show (if _ then _ else _) = _; (repeat' split) <;> omega))⟩ ?_ ?_
  ·exact h
  ·
   rintro ⟨n0,v20,v21⟩ h
   cases n0 with
   | zero=>exact absurd h (by unfold hG; exact nofun)
   | succ n0 =>
    unfold hG at h
    obtain ⟨x33,hx33,h⟩:=bE h
    refine aC (cCm rfl hx33 <|aB ?_)
    refine aK <| aH h rfl (fun h=>?_) (fun h=>?_)
    ·
     refine aJ <| aE <| aK <| aU ?_
     obtain ⟨x35,hx35,h⟩:=bT h
     refine aC (aA rfl (cW bA (cs:=q52) rfl rfl (lb rfl) pS oS (svL rfl) (svI rfl) hx35 rfl rfl) <|aA rfl (fD (cs:=q52) rfl rfl (lb rfl) uA aD7 oS (by decide) (sv (d:=.fptr q52) rfl) (nle rfl) rfl) <|aA rfl (aZ (cs:=q52) (cs':=[.int .i64 0,.int .i64 0]) 25 rfl rfl (lb rfl) rfl oS rfl rfl (.all _)) <|cSt q52 q52 oS rfl <|aB ?_)
     obtain ⟨x36,hx36,h⟩:=bE h
     obtain ⟨hk37,h⟩:=tF h
     obtain ⟨x38,hx38,x39,hx39,h⟩:=eod h
     refine eI rfl [nd1 [8] 26 (.ref 25 0),nd2 [26] [25] 27 (.int .i64 x35.ID),nd1 [27] 28 (.int .i64 x36),nd1 [5,28] 29 (.ref 2 (0 + (x36 : Int).toNat * 1 + 0)),nd2 [29] [2] 30 (.int .i64 x38),nd1 [8] 31 (.ref 25 1),nd2 [31] [25] 32 (.int .i64 x35.Value),nd1 [30,32] 33 (.bool x39)] rfl ?_ (by kernel_rfl) ?_
     ·refine .cons (dFa 0 uA rfl ti3 rfl) <| .cons (dLd un3 ag3 ti3 rfl) <| .cons (lop rfl rfl fun S hA=>(bB rfl rfl (lb rfl) (svaI hA rfl rfl) (sv (d:=.int _ 1) rfl) rfl hx36)) <| .cons (lop rfl rfl fun S hA=>(fE rfl rfl (lb rfl) un75 ti3 (svaR hA rfl rfl) (svaI hA rfl rfl) hk37)) <| .cons (lop rfl rfl fun S hA=>(lF (eInt .i64) (b:=0) (k:=0) (sz:=1) (d:=.int _ _) rfl rfl (lb rfl) un3 ag3 ti3 (svaR hA rfl rfl) (agi hA rfl rfl) hx38 ⟨rfl,⟨rfl,⟨rfl,⟨rfl,trivial⟩⟩⟩⟩ rfl)) <| .cons (dFa 1 uA rfl ti3 rfl) <| .cons (dLd un3 ag3 ti3 rfl) <| .cons (lop rfl rfl fun S hA=>(fF rfl rfl (lb rfl) (svaI hA rfl rfl) (svaI hA rfl rfl) rfl hx39)) ?_
      exact .nil
     refine aH h rfl (fun h=>?_) (fun h=>?_)
     ·
      obtain ⟨x41,hx41,h⟩:=bT h
      refine aR (cMv (.gsl _ _ _) rfl <|cLr q52 la180 rfl <|aA rfl (mM bA ([x35] : (List aT)) 26 rfl rfl (lb rfl) pS oS rfl (.cons (svA q52 rfl) .nil) rfl rfl (by decide)) <|aA rfl (oK bA 27 rfl rfl (lb rfl) pS oS rfl rfl rfl rfl (svg rfl) hx41) <|cAs (.gsl _ _ _) rfl <|bK ?_)
      refine bM <| aE ?_
      obtain ⟨x42,hx42,h⟩:=bE h
      refine aR (aA rfl (bB rfl rfl (lb rfl) (svI rfl) (sv (d:=.int _ 1) rfl) rfl hx42) <|cI rfl <|bK ?_)
      refine aE ⟨(n0,x41,x42),(fun i=>if i = 24 then 27 else i),⟨(.sames rfl rfl),(.cons (.blk rfl rfl rfl) (.cons (.tail rfl) .nil)),bS [2,27] rfl (by decide),(fun i hi=>by first | rfl | (show (if _ then _ else _) = _; (repeat' split) <;> omega))⟩,?_,?_⟩
      exact h
      exact Nat.lt_succ_self _
     ·
      refine aJ <| bM <| aE ?_
      obtain ⟨x43,hx43,h⟩:=bE h
      refine aR (aA rfl (bB rfl rfl (lb rfl) (svI rfl) (sv (d:=.int _ 1) rfl) rfl hx43) <|cI rfl <|bK ?_)
      refine aE ⟨(n0,v20,x43),(fun i=>i),⟨(.sames rfl rfl),(.cons (.blk rfl rfl rfl) (.cons (.tail rfl) .nil)),bS [2,24] rfl (by decide),fun _ _=>rfl⟩,?_,?_⟩
      exact h
      exact Nat.lt_succ_self _
    ·
     refine cC <| aW <| aW <| cD <| aE <| aC (cMv (.gsl _ _ _) rfl <|cAs (.gsl _ _ _) rfl <|aB ?_)
     refine aI ?_
     obtain rfl:=Option.some.inj h
     refine ⟨.inr rfl,(.cons (yL rfl rfl) .nil)⟩

theorem zI (a0 : Int) (r : Bool) (h : sB a0 = some r) : bR Tryz.prog 153 [.int .i64 a0] (.bool r):=by
 refine aN (rs:=[.bool r]) Tryz.func153 rfl Tryz.ntmps153 (nle rfl) rfl fun O hO=>?_
 show IWP _ _ _ _ ⟨[(0,.int .i64 a0)],[]⟩ _
 unfold sB at h
 refine aC (cAs (.bool false) rfl <|aB ?_)
 obtain ⟨x1,hx1,x2,hx2,x3,hx3,h⟩:=eddd h
 refine aC (cI rfl <|cCm (b:=0) rfl hx1 <|cB rfl <|gG rfl (fun hb=>(tI rfl)) <|gG rfl (fun hb=>(tCg (b:=4611686018427387903) rfl hb hx2)) <|cAn rfl hx3 <|cAB rfl <|aB ?_)
 refine aI ?_
 obtain rfl:=Option.some.inj h
 refine ⟨.inr rfl,(.cons (sv rfl) .nil)⟩

theorem oC (a0 : aG) (r : Bool) (h : iS a0 = some r) : bR Tryz.prog 144 [.agg [.int .i64 a0.From,.int .i64 a0.To]] (.bool r):=by
 refine aN (rs:=[.bool r]) Tryz.func144 rfl Tryz.ntmps144 (nle rfl) rfl fun O hO=>?_
 show IWP _ _ _ _ ⟨[(0,.agg [.int .i64 a0.From,.int .i64 a0.To])],[]⟩ _
 unfold iS at h
 refine aC (cBx (cs:=q52) q52 0 rfl <|cAs (.bool false) rfl <|aB ?_)
 obtain ⟨x1,hx1,x2,hx2,x3,hx3,h⟩:=eood h
 refine aC (cFa 0 nY rfl ti3 rfl <|cLd (d:=.int _ _) un3 ag3 ti3 rfl <|aA rfl (aL (r:=.bool _) rfl rfl (lb rfl) cl153 (.cons (svI rfl) .nil) rfl (zI _ _ hx1)) <|cB rfl <|gG rfl (fun hb=>(tFa 1 nY rfl ti3 rfl)) <|gG rfl (fun hb=>(tLc (d:=.int _ _) un3 ag3 ti3 rfl hb)) <|gG rfl (fun hb=>(aL (r:=.bool _) rfl rfl (lb rfl) cl153 (.cons (svcI rfl hb) .nil) rfl (zI _ _ (gd_t hx2 hb)))) <|cAn rfl hx3 <|cAB rfl <|aB ?_)
 refine aI ?_
 obtain rfl:=Option.some.inj h
 refine ⟨.inr rfl,(.cons (sv rfl) .nil)⟩

theorem zJ (a0 : aG) (r : Bool) (h : mJ a0 = some r) : bR Tryz.prog 143 [.agg [.int .i64 a0.From,.int .i64 a0.To]] (.bool r):=by
 refine aN (rs:=[.bool r]) Tryz.func143 rfl Tryz.ntmps143 (nle rfl) rfl fun O hO=>?_
 show IWP _ _ _ _ ⟨[(0,.agg [.int .i64 a0.From,.int .i64 a0.To])],[]⟩ _
 unfold mJ at h
 refine aC (cBx (cs:=q52) q52 0 rfl <|cAs (.bool false) rfl <|aB ?_)
 obtain ⟨x1,hx1,h⟩:=bT h
 refine aC (cLr q52 xN rfl <|aA rfl (aL (r:=.bool _) rfl rfl (lb rfl) cl144 (.cons (svA q52 rfl) .nil) rfl (oC _ _ hx1)) <|aA rfl (dJ rfl rfl (lb rfl) (svB rfl)) <|cAB rfl <|aB ?_)
 refine aI ?_
 obtain rfl:=Option.some.inj h
 refine ⟨.inr rfl,(.cons (sv rfl) .nil)⟩

theorem iQ (a0 : (List aG)) (r : Int) (h : dS a0 = some r) : bR Tryz.prog 152 [.slice false (a0.map aF.d),.fn 143 []] (.int .i64 r):=by
 refine aN (rs:=[.int .i64 r]) Tryz.func152 rfl Tryz.ntmps152 (nle rfl) rfl fun O hO=>?_
 show IWP _ _ _ _ ⟨[(0,.slice false (a0.map aF.d)),(1,.fn 143 [])],[]⟩ _
 unfold dS at h
 refine aC (cAs (.int _ 0) rfl <|aB ?_)
 refine aK <| aC (aA rfl (mvL rfl rfl rfl rfl) <|aA rfl (dD aF (l:=a0) rfl rfl (lb rfl) un85 (svL rfl)) <|cMv (.int _ 0) rfl <|aB ?_)
 refine aU <| cP (α:=Nat × Int) (fun z=>⟨[(0,.slice false (a0.map aF.d)),(1,.fn 143 []),(7,.int .i64 (a0.length : Int)),(8,.int .i64 z.2)],[]⟩) (fun z=>bN a0 z.1 z.2 = some r) (fun z=>z.1) (fuel,0) (fun i=>i) ⟨(.sames rfl rfl),.nil,bS [] rfl (by decide),fun _ _=>rfl⟩ ?_ ?_
 ·exact h
 ·
  rintro ⟨n0,v7⟩ h
  cases n0 with
  | zero=>exact absurd h (by unfold bN; exact nofun)
  | succ n0 =>
   unfold bN at h
   obtain ⟨x14,hx14,h⟩:=bE h
   refine aC (cCm rfl hx14 <|aB ?_)
   refine aK <| aH h rfl (fun h=>?_) (fun h=>?_)
   ·
    refine aJ <| aE <| aK <| aU <| aC (cI rfl <|cAI rfl <|aB ?_)
    obtain ⟨x16,hx16,x17,hx17,h⟩:=eoo h
    refine aC (cMv (.fn 143 []) rfl <|aA rfl (mvL rfl rfl rfl rfl) <|cI rfl <|aA rfl (cW aF (cs:=q52) rfl rfl (lb rfl) un85 jC (svL rfl) (svI rfl) hx16 rfl rfl) <|aA rfl (fD (cs:=q52) rfl rfl (lb rfl) nY aCK jC (by decide) (sv (d:=.fptr q52) rfl) (nle rfl) rfl) <|aA rfl (zY (r:=.bool _) rfl rfl (lb rfl) cl143 (sv (d:=.fn 143 []) rfl) (.cons (svA q52 rfl) .nil) rfl (zJ _ _ hx17)) <|aB ?_)
    refine aH h rfl (fun h=>?_) (fun h=>?_)
    ·
     refine aC (cI rfl <|cAI rfl <|aB ?_)
     refine aI <| bJ <| aQ <| aQ <| bJ <| aQ ?_
     obtain rfl:=Option.some.inj h
     refine ⟨.inr rfl,(.cons (sv rfl) .nil)⟩
    ·
     refine aJ <| bM <| aE ?_
     obtain ⟨x19,hx19,h⟩:=bE h
     refine aR (aA rfl (bB rfl rfl (lb rfl) (svI rfl) (sv (d:=.int _ 1) rfl) rfl hx19) <|cI rfl <|bK ?_)
     refine aE ⟨(n0,x19),(fun i=>i),⟨(.sames rfl rfl),.nil,bS [] rfl (by decide),fun _ _=>rfl⟩,?_,?_⟩
     exact h
     exact Nat.lt_succ_self _
   ·
    refine cC <| aW <| aW <| cD <| aE <| aC (cAs (.int _ (-1)) rfl <|aB ?_)
    refine aI ?_
    obtain rfl:=Option.some.inj h
    refine ⟨.inr rfl,(.cons (sv rfl) .nil)⟩

theorem gZ (a0 : (List aG)) (r : Bool) (h : cZ a0 = some r) : bR Tryz.prog 142 [.slice false (a0.map aF.d),.fn 143 []] (.bool r):=by
 refine aN (rs:=[.bool r]) Tryz.func142 rfl Tryz.ntmps142 (nle rfl) rfl fun O hO=>?_
 show IWP _ _ _ _ ⟨[(0,.slice false (a0.map aF.d)),(1,.fn 143 [])],[]⟩ _
 unfold cZ at h
 refine aC (cAs (.bool false) rfl <|aB ?_)
 obtain ⟨x1,hx1,x2,hx2,h⟩:=eod h
 refine aC (aA rfl (mvL rfl rfl rfl rfl) <|cMv (.fn 143 []) rfl <|aA rfl (aL (r:=.int _ _) rfl rfl (lb rfl) cl152 (.cons (svL rfl) (.cons (sv (d:=.fn 143 []) rfl) .nil)) rfl (iQ _ _ hx1)) <|cCm (b:=0) rfl hx2 <|cAB rfl <|aB ?_)
 refine aI ?_
 obtain rfl:=Option.some.inj h
 refine ⟨.inr rfl,(.cons (sv rfl) .nil)⟩

theorem kR (a0 : aG) (r : Bool) (h : gW a0 = some r) : bR Tryz.prog 145 [.agg [.int .i64 a0.From,.int .i64 a0.To]] (.bool r):=by
 refine aN (rs:=[.bool r]) Tryz.func145 rfl Tryz.ntmps145 (nle rfl) rfl fun O hO=>?_
 show IWP _ _ _ _ ⟨[(0,.agg [.int .i64 a0.From,.int .i64 a0.To])],[]⟩ _
 unfold gW at h
 refine aC (cBx (cs:=q52) q52 0 rfl <|cAs (.bool false) rfl <|aB ?_)
 obtain ⟨x1,hx1,h⟩:=bE h
 refine aC (cFa 1 nY rfl ti3 rfl <|cLd (d:=.int _ _) un3 ag3 ti3 rfl <|cFa 0 nY rfl ti3 rfl <|cLd (d:=.int _ _) un3 ag3 ti3 rfl <|cCm rfl hx1 <|cAB rfl <|aB ?_)
 refine aI ?_
 obtain rfl:=Option.some.inj h
 refine ⟨.inr rfl,(.cons (sv rfl) .nil)⟩

theorem jD (a0 : (List aG)) (r : Int) (h : eB a0 = some r) : bR Tryz.prog 152 [.slice false (a0.map aF.d),.fn 145 []] (.int .i64 r):=by
 refine aN (rs:=[.int .i64 r]) Tryz.func152 rfl Tryz.ntmps152 (nle rfl) rfl fun O hO=>?_
 show IWP _ _ _ _ ⟨[(0,.slice false (a0.map aF.d)),(1,.fn 145 [])],[]⟩ _
 unfold eB at h
 refine aC (cAs (.int _ 0) rfl <|aB ?_)
 refine aK <| aC (aA rfl (mvL rfl rfl rfl rfl) <|aA rfl (dD aF (l:=a0) rfl rfl (lb rfl) un85 (svL rfl)) <|cMv (.int _ 0) rfl <|aB ?_)
 refine aU <| cP (α:=Nat × Int) (fun z=>⟨[(0,.slice false (a0.map aF.d)),(1,.fn 145 []),(7,.int .i64 (a0.length : Int)),(8,.int .i64 z.2)],[]⟩) (fun z=>bQ a0 z.1 z.2 = some r) (fun z=>z.1) (fuel,0) (fun i=>i) ⟨(.sames rfl rfl),.nil,bS [] rfl (by decide),fun _ _=>rfl⟩ ?_ ?_
 ·exact h
 ·
  rintro ⟨n0,v7⟩ h
  cases n0 with
  | zero=>exact absurd h (by unfold bQ; exact nofun)
  | succ n0 =>
   unfold bQ at h
   obtain ⟨x14,hx14,h⟩:=bE h
   refine aC (cCm rfl hx14 <|aB ?_)
   refine aK <| aH h rfl (fun h=>?_) (fun h=>?_)
   ·
    refine aJ <| aE <| aK <| aU <| aC (cI rfl <|cAI rfl <|aB ?_)
    obtain ⟨x16,hx16,x17,hx17,h⟩:=eoo h
    refine aC (cMv (.fn 145 []) rfl <|aA rfl (mvL rfl rfl rfl rfl) <|cI rfl <|aA rfl (cW aF (cs:=q52) rfl rfl (lb rfl) un85 jC (svL rfl) (svI rfl) hx16 rfl rfl) <|aA rfl (fD (cs:=q52) rfl rfl (lb rfl) nY aCK jC (by decide) (sv (d:=.fptr q52) rfl) (nle rfl) rfl) <|aA rfl (zY (r:=.bool _) rfl rfl (lb rfl) aGg (sv (d:=.fn 145 []) rfl) (.cons (svA q52 rfl) .nil) rfl (kR _ _ hx17)) <|aB ?_)
    refine aH h rfl (fun h=>?_) (fun h=>?_)
    ·
     refine aC (cI rfl <|cAI rfl <|aB ?_)
     refine aI <| bJ <| aQ <| aQ <| bJ <| aQ ?_
     obtain rfl:=Option.some.inj h
     refine ⟨.inr rfl,(.cons (sv rfl) .nil)⟩
    ·
     refine aJ <| bM <| aE ?_
     obtain ⟨x19,hx19,h⟩:=bE h
     refine aR (aA rfl (bB rfl rfl (lb rfl) (svI rfl) (sv (d:=.int _ 1) rfl) rfl hx19) <|cI rfl <|bK ?_)
     refine aE ⟨(n0,x19),(fun i=>i),⟨(.sames rfl rfl),.nil,bS [] rfl (by decide),fun _ _=>rfl⟩,?_,?_⟩
     exact h
     exact Nat.lt_succ_self _
   ·
    refine cC <| aW <| aW <| cD <| aE <| aC (cAs (.int _ (-1)) rfl <|aB ?_)
    refine aI ?_
    obtain rfl:=Option.some.inj h
    refine ⟨.inr rfl,(.cons (sv rfl) .nil)⟩

theorem iR (a0 : (List aG)) (r : Bool) (h : dE a0 = some r) : bR Tryz.prog 142 [.slice false (a0.map aF.d),.fn 145 []] (.bool r):=by
 refine aN (rs:=[.bool r]) Tryz.func142 rfl Tryz.ntmps142 (nle rfl) rfl fun O hO=>?_
 show IWP _ _ _ _ ⟨[(0,.slice false (a0.map aF.d)),(1,.fn 145 [])],[]⟩ _
 unfold dE at h
 refine aC (cAs (.bool false) rfl <|aB ?_)
 obtain ⟨x1,hx1,x2,hx2,h⟩:=eod h
 refine aC (aA rfl (mvL rfl rfl rfl rfl) <|cMv (.fn 145 []) rfl <|aA rfl (aL (r:=.int _ _) rfl rfl (lb rfl) cl152 (.cons (svL rfl) (.cons (sv (d:=.fn 145 []) rfl) .nil)) rfl (jD _ _ hx1)) <|cCm (b:=0) rfl hx2 <|cAB rfl <|aB ?_)
 refine aI ?_
 obtain rfl:=Option.some.inj h
 refine ⟨.inr rfl,(.cons (sv rfl) .nil)⟩

theorem qS (a0 : (List aG)) (r : Int) (h : lO a0 = some r) : bR Tryz.prog 124 [.slice false (a0.map aF.d)] (.int .i64 r):=by
 refine aN (rs:=[.int .i64 r]) Tryz.func124 rfl Tryz.ntmps124 (nle rfl) rfl fun O hO=>?_
 show IWP _ _ _ _ ⟨[(0,.slice false (a0.map aF.d))],[]⟩ _
 unfold lO at h
 refine aC (cAs (.int _ 0) rfl <|aB ?_)
 refine aK <| aU ?_
 obtain ⟨x1,hx1,h⟩:=bT h
 refine aC (aA rfl (mvL rfl rfl rfl rfl) <|aA rfl (aL (r:=.bool _) rfl rfl (lb rfl) cl142 (.cons (svL rfl) (.cons (sv (d:=.fn 143 []) rfl) .nil)) rfl (gZ _ _ hx1)) <|cAB rfl <|aB ?_)
 refine aH h rfl (fun h=>?_) (fun h=>?_)
 ·
  refine aC (cAs (.int _ 8) rfl <|aB ?_)
  refine aI <| bJ <| aQ ?_
  obtain rfl:=Option.some.inj h
  refine ⟨.inr rfl,(.cons (sv rfl) .nil)⟩
 ·
  obtain ⟨x3,hx3,h⟩:=bT h
  refine aC (aA rfl (mvL rfl rfl rfl rfl) <|aA rfl (aL (r:=.bool _) rfl rfl (lb rfl) cl142 (.cons (svL rfl) (.cons (sv (d:=.fn 145 []) rfl) .nil)) rfl (iR _ _ hx3)) <|cAB rfl <|aB ?_)
  refine aH h rfl (fun h=>?_) (fun h=>?_)
  ·
   refine aC (cAs (.int _ 4) rfl <|aB ?_)
   refine aI <| bJ <| aQ ?_
   obtain rfl:=Option.some.inj h
   refine ⟨.inr rfl,(.cons (sv rfl) .nil)⟩
  ·
   refine aJ <| bM <| aE <| aK <| aC (cAs (.int _ 1) rfl <|aB ?_)
   refine aU <| cP (α:=Nat × Int) (fun z=>⟨[(0,.slice false (a0.map aF.d)),(3,.int .i64 z.2)],[]⟩) (fun z=>fT a0 z.1 z.2 = some r) (fun z=>z.1) (fuel,1) (fun i=>i) ⟨(.sames rfl rfl),.nil,bS [] rfl (by decide),fun _ _=>rfl⟩ ?_ ?_
   ·exact h
   ·
    rintro ⟨n0,v13⟩ h
    cases n0 with
    | zero=>exact absurd h (by unfold fT; exact nofun)
    | succ n0 =>
     unfold fT at h
     refine aK ?_
     obtain ⟨x22,hx22,h⟩:=bE h
     refine aC (cI rfl <|aA rfl (mvL rfl rfl rfl rfl) <|aA rfl (dD aF (l:=a0) rfl rfl (lb rfl) un85 (svL rfl)) <|cCm rfl hx22 <|aB ?_)
     refine aH h rfl (fun h=>?_) (fun h=>?_)
     ·
      refine aJ <| aE <| aK <| aU ?_
      obtain ⟨x24,hx24,x25,hx25,x26,hx26,h⟩:=eodo h
      obtain ⟨x27,hx27,h⟩:=bE h
      refine eI rfl [nd1 [0] 16 (.slice false (a0.map aF.d)),nd1 [3] 17 (.int .i64 v13),nd1 [16,17] 18 (.fptr [.int .i64 x24.From,.int .i64 x24.To]),nd1 [18] 19 (.fptr [.int .i64 x24.From]),nd1 [19] 20 (.int .i64 x24.From),nd1 [0] 21 (.slice false (a0.map aF.d)),nd1 [3] 22 (.int .i64 v13),nd1 [22] 23 (.int .i64 x25),nd1 [21,23] 24 (.fptr [.int .i64 x26.From,.int .i64 x26.To]),nd1 [24] 25 (.fptr [.int .i64 x26.To]),nd1 [25] 26 (.int .i64 x26.To),nd1 [20,26] 27 (.bool x27)] rfl ?_ (by kernel_rfl) ?_
      ·refine .cons (dMv rfl) <| .cons (dMv rfl) <| .cons (lop rfl rfl fun S hA=>(cW aF (cs:=q52) rfl rfl (lb rfl) un85 jC (svaL hA rfl rfl) (svaI hA rfl rfl) hx24 rfl rfl)) <| .cons (lop rfl rfl fun S hA=>(gH (cs':=[.int _ _]) rfl rfl (lb rfl) nY rfl ti3 (by decide) (sv (d:=.fptr q52) (agr hA rfl rfl)) rfl)) <| .cons (lop rfl rfl fun S hA=>(cN rfl rfl (lb rfl) un3 ag3 ti3 (by decide) (sv (d:=.fptr [.int _ _]) (agr hA rfl rfl)) (nle rfl))) <| .cons (dMv rfl) <| .cons (dMv rfl) <| .cons (lop rfl rfl fun S hA=>(bB rfl rfl (lb rfl) (svaI hA rfl rfl) (sv (d:=.int _ 1) rfl) rfl hx25)) <| .cons (lop rfl rfl fun S hA=>(cW aF (cs:=q52) rfl rfl (lb rfl) un85 jC (svaL hA rfl rfl) (svaI hA rfl rfl) hx26 rfl rfl)) <| .cons (lop rfl rfl fun S hA=>(gH (cs':=[.int _ _]) rfl rfl (lb rfl) nY rfl ti3 (by decide) (sv (d:=.fptr q52) (agr hA rfl rfl)) rfl)) <| .cons (lop rfl rfl fun S hA=>(cN rfl rfl (lb rfl) un3 ag3 ti3 (by decide) (sv (d:=.fptr [.int _ _]) (agr hA rfl rfl)) (nle rfl))) <| .cons (lop rfl rfl fun S hA=>(fF rfl rfl (lb rfl) (svaI hA rfl rfl) (svaI hA rfl rfl) rfl hx27)) ?_
       exact .nil
      refine aH h rfl (fun h=>?_) (fun h=>?_)
      ·
       refine aC (cAs (.int _ 10) rfl <|aB ?_)
       refine aI <| bJ <| aQ <| aQ <| bJ <| aQ ?_
       obtain rfl:=Option.some.inj h
       refine ⟨.inr rfl,(.cons (sv rfl) .nil)⟩
      ·
       refine aJ <| bM <| aE ?_
       obtain ⟨x29,hx29,h⟩:=bE h
       refine aR (cI rfl <|aA rfl (bB rfl rfl (lb rfl) (svI rfl) (sv (d:=.int _ 1) rfl) rfl hx29) <|cAI rfl <|bK ?_)
       refine aE ⟨(n0,x29),(fun i=>i),⟨(.sames rfl rfl),.nil,bS [] rfl (by decide),fun _ _=>rfl⟩,?_,?_⟩
       exact h
       exact Nat.lt_succ_self _
     ·
      refine cC <| aW <| aW <| cD <| aE <| aC (cAs (.int _ 0) rfl <|aB ?_)
      refine aI ?_
      obtain rfl:=Option.some.inj h
      refine ⟨.inr rfl,(.cons (sv rfl) .nil)⟩

theorem wC (a0 : cJ) (r : Bool) (h : kG a0 = some r) : bR Tryz.prog 108 [.agg (tv7 a0)] (.bool r):=by
 refine aN (rs:=[.bool r]) Tryz.func108 rfl Tryz.ntmps108 (nle rfl) rfl fun O hO=>?_
 show IWP _ _ _ _ ⟨[(0,.agg (tv7 a0))],[]⟩ _
 unfold kG at h
 refine aC (cBx (cs:=q34) q34 0 rfl <|cAs (.bool false) rfl <|aB ?_)
 refine aK ?_
 obtain ⟨x1,hx1,x2,hx2,h⟩:=eod h
 refine aC (cFa 4 un87 rfl ti85 rfl <|aA rfl (lrL la85 rfl rfl rfl rfl rfl (nle rfl) rfl) <|aA rfl (aL (r:=.int _ _) rfl rfl (lb rfl) cl124 (.cons (svL rfl) .nil) rfl (qS _ _ hx1)) <|cCm (b:=0) rfl hx2 <|aB ?_)
 refine aH h rfl (fun h=>?_) (fun h=>?_)
 ·
  refine aC (cAs (.bool false) rfl <|aB ?_)
  refine aI <| aQ ?_
  obtain rfl:=Option.some.inj h
  refine ⟨.inr rfl,(.cons (sv rfl) .nil)⟩
 ·
  refine aJ <| aE ?_
  obtain ⟨x4,hx4,x5,hx5,x6,hx6,h⟩:=edod h
  obtain ⟨x7,hx7,x8,hx8,x9,hx9,h⟩:=edod h
  obtain ⟨x10,hx10,x11,hx11,h⟩:=edd h
  refine eI rfl [nd1 [1] 7 (.ref 0 4),nd2 [7] [0] 8 (.slice false (a0.Lost.map aF.d)),nd1 [8] 9 (.int .i64 (a0.Lost.length : Int)),nd1 [9] 10 (.bool x4),nd1 [10] 11 (.bool x4),nd1 [1,11] 12 (.cnd (x4 == false) (.ref 0 4)),nd2 [11,12] [0] 13 (.cnd (x4 == false) (.slice false (a0.Lost.map aF.d))),nd1 [11,13] 14 (.cnd (x4 == false) (.fptr [.int .i64 x5.From,.int .i64 x5.To])),nd1 [11,14] 15 (.cnd (x4 == false) (.fptr [.int .i64 x5.From])),nd1 [11,15] 16 (.cnd (x4 == false) (.int .i64 x5.From)),nd1 [1,11] 17 (.cnd (x4 == false) (.ref 0 0)),nd2 [11,17] [0] 18 (.cnd (x4 == false) (.int .i64 a0.Base)),nd1 [11,16,18] 19 (.cnd (x4 == false) (.bool x6)),nd1 [11,19] 20 (.cnd (x4 == false) (.bool x6)),nd1 [1,20] 21 (.cnd (((x4 == false) && (x6 == true))) (.ref 0 4)),nd2 [20,21] [0] 22 (.cnd (((x4 == false) && (x6 == true))) (.slice false (a0.Lost.map aF.d))),nd1 [1,20] 23 (.cnd (((x4 == false) && (x6 == true))) (.ref 0 4)),nd2 [20,23] [0] 24 (.cnd (((x4 == false) && (x6 == true))) (.slice false (a0.Lost.map aF.d))),nd1 [20,24] 25 (.cnd (((x4 == false) && (x6 == true))) (.int .i64 (a0.Lost.length : Int))),nd1 [20,25] 26 (.cnd (((x4 == false) && (x6 == true))) (.int .i64 x7)),nd1 [20,22,26] 27 (.cnd (((x4 == false) && (x6 == true))) (.fptr [.int .i64 x8.From,.int .i64 x8.To])),nd1 [20,27] 28 (.cnd (((x4 == false) && (x6 == true))) (.fptr [.int .i64 x8.To])),nd1 [20,28] 29 (.cnd (((x4 == false) && (x6 == true))) (.int .i64 x8.To)),nd1 [1,20] 30 (.cnd (((x4 == false) && (x6 == true))) (.ref 0 2)),nd2 [20,30] [0] 31 (.cnd (((x4 == false) && (x6 == true))) (.int .i64 a0.Next)),nd1 [20,29,31] 32 (.cnd (((x4 == false) && (x6 == true))) (.bool x9)),nd1 [11,20,32] 33 (.cnd (x4 == false) (.bool x10)),nd1 [11,33] 34 (.bool x11),nd1 [34] 2 (.bool x11)] rfl ?_ (by kernel_rfl) ?_
  ·refine .cons (dFa 4 un87 rfl ti85 rfl) <| .cons (dLd un85 ag85 ti85 rfl) <| .cons (lop rfl rfl fun S hA=>(dD aF (l:=a0.Lost) rfl rfl (lb rfl) un85 (svaL hA rfl rfl))) <| .cons (lop rfl rfl fun S hA=>(fF rfl rfl (lb rfl) (svaI hA rfl rfl) (sv (d:=.int _ 0) rfl) rfl hx4)) <| .cons (dMv rfl) <| .cons (gD rfl (fun S hA hb=>(cX rfl rfl (lb rfl) un87 rfl ti85 (by decide) (svaR hA rfl rfl) (off':=4) rfl))) <| .cons (gD rfl (fun S hA hb=>(eC (d:=.slice _ _) rfl rfl (lb rfl) un85 ag85 ti85 (by decide) (svc (d:=.ref _ _) (agr hA rfl rfl) hb) (agi hA rfl rfl) (nle rfl) rfl))) <| .cons (gD rfl (fun S hA hb=>(cW aF (cs:=q52) rfl rfl (lb rfl) un85 jC (svc (d:=.slice _ _) (agr hA rfl rfl) hb) (sv (d:=.int _ 0) rfl) (gd_t hx5 hb) rfl rfl))) <| .cons (gD rfl (fun S hA hb=>(gH (cs':=[.int _ _]) rfl rfl (lb rfl) nY rfl ti3 (by decide) (svc (d:=.fptr q52) (agr hA rfl rfl) hb) rfl))) <| .cons (gD rfl (fun S hA hb=>(cN rfl rfl (lb rfl) un3 ag3 ti3 (by decide) (svc (d:=.fptr [.int _ _]) (agr hA rfl rfl) hb) (nle rfl)))) <| .cons (gD rfl (fun S hA hb=>(cX rfl rfl (lb rfl) un87 rfl ti3 (by decide) (svaR hA rfl rfl) (off':=0) rfl))) <| .cons (gD rfl (fun S hA hb=>(eC (d:=.int _ _) rfl rfl (lb rfl) un3 ag3 ti3 (by decide) (svc (d:=.ref _ _) (agr hA rfl rfl) hb) (agi hA rfl rfl) (nle rfl) rfl))) <| .cons (gD rfl (fun S hA hb=>(fF rfl rfl (lb rfl) (svc (d:=.int _ _) (agr hA rfl rfl) hb) (svc (d:=.int _ _) (agr hA rfl rfl) hb) rfl hx6))) <| .cons (gD rfl (fun S hA hb=>(dR rfl rfl (lb rfl) (svc (d:=.bool _) (agr hA rfl rfl) hb)))) <| .cons (lopg rfl rfl rfl rfl (by decide) (fun S hA=>grd2 hA rfl rfl) (fun S hA hb=>(cX rfl rfl (lb rfl) un87 rfl ti85 (by decide) (svaR hA rfl rfl) (off':=4) rfl))) <| .cons (lopg rfl rfl rfl rfl (by decide) (fun S hA=>grd2 hA rfl rfl) (fun S hA hb=>(eC (d:=.slice _ _) rfl rfl (lb rfl) un85 ag85 ti85 (by decide) (svc (d:=.ref _ _) (agr hA rfl rfl) hb) (agi hA rfl rfl) (nle rfl) rfl))) <| .cons (lopg rfl rfl rfl rfl (by decide) (fun S hA=>grd2 hA rfl rfl) (fun S hA hb=>(cX rfl rfl (lb rfl) un87 rfl ti85 (by decide) (svaR hA rfl rfl) (off':=4) rfl))) <| .cons (lopg rfl rfl rfl rfl (by decide) (fun S hA=>grd2 hA rfl rfl) (fun S hA hb=>(eC (d:=.slice _ _) rfl rfl (lb rfl) un85 ag85 ti85 (by decide) (svc (d:=.ref _ _) (agr hA rfl rfl) hb) (agi hA rfl rfl) (nle rfl) rfl))) <| .cons (lopg rfl rfl rfl rfl (by decide) (fun S hA=>grd2 hA rfl rfl) (fun S hA hb=>(dD aF (l:=a0.Lost) rfl rfl (lb rfl) un85 (svc (d:=.slice _ _) (agr hA rfl rfl) hb)))) <| .cons (lopg rfl rfl rfl rfl (by decide) (fun S hA=>grd2 hA rfl rfl) (fun S hA hb=>(bB rfl rfl (lb rfl) (svc (d:=.int _ _) (agr hA rfl rfl) hb) (sv (d:=.int _ 1) rfl) rfl hx7))) <| .cons (lopg rfl rfl rfl rfl (by decide) (fun S hA=>grd2 hA rfl rfl) (fun S hA hb=>(cW aF (cs:=q52) rfl rfl (lb rfl) un85 jC (svc (d:=.slice _ _) (agr hA rfl rfl) hb) (svc (d:=.int _ _) (agr hA rfl rfl) hb) (gd_t hx8 hb) rfl rfl))) <| .cons (lopg rfl rfl rfl rfl (by decide) (fun S hA=>grd2 hA rfl rfl) (fun S hA hb=>(gH (cs':=[.int _ _]) rfl rfl (lb rfl) nY rfl ti3 (by decide) (svc (d:=.fptr q52) (agr hA rfl rfl) hb) rfl))) <| .cons (lopg rfl rfl rfl rfl (by decide) (fun S hA=>grd2 hA rfl rfl) (fun S hA hb=>(cN rfl rfl (lb rfl) un3 ag3 ti3 (by decide) (svc (d:=.fptr [.int _ _]) (agr hA rfl rfl) hb) (nle rfl)))) <| .cons (lopg rfl rfl rfl rfl (by decide) (fun S hA=>grd2 hA rfl rfl) (fun S hA hb=>(cX rfl rfl (lb rfl) un87 rfl ti3 (by decide) (svaR hA rfl rfl) (off':=2) rfl))) <| .cons (lopg rfl rfl rfl rfl (by decide) (fun S hA=>grd2 hA rfl rfl) (fun S hA hb=>(eC (d:=.int _ _) rfl rfl (lb rfl) un3 ag3 ti3 (by decide) (svc (d:=.ref _ _) (agr hA rfl rfl) hb) (agi hA rfl rfl) (nle rfl) rfl))) <| .cons (lopg rfl rfl rfl rfl (by decide) (fun S hA=>grd2 hA rfl rfl) (fun S hA hb=>(fF rfl rfl (lb rfl) (svc (d:=.int _ _) (agr hA rfl rfl) hb) (svc (d:=.int _ _) (agr hA rfl rfl) hb) rfl hx9))) <| .cons (gD rfl (fun S hA hb=>(qE rfl rfl (lb rfl) hb (svc (d:=.bool _) (agr hA rfl rfl) hb) (agr hA rfl rfl) rfl hx10))) <| .cons (lop rfl rfl fun S hA=>(aBA rfl rfl (lb rfl) (svaB hA rfl rfl) rfl (agr hA rfl rfl) hx11)) <| .cons (lop rfl rfl fun S hA=>(bV rfl rfl (lb rfl) (svaB hA rfl rfl))) ?_
   exact .nil
  refine aI ?_
  obtain rfl:=Option.some.inj h
  refine ⟨.inr rfl,(.cons (sv rfl) .nil)⟩

theorem aCZ (a0 : Int) (r : Bool) (h : uH a0 = some r) : bR Tryz.prog 125 [.int .i64 a0] (.bool r):=by
 refine aN (rs:=[.bool r]) Tryz.func125 rfl Tryz.ntmps125 (nle rfl) rfl fun O hO=>?_
 show IWP _ _ _ _ ⟨[(0,.int .i64 a0)],[]⟩ _
 unfold uH at h
 refine aC (cAs (.bool false) rfl <|aB ?_)
 obtain ⟨x1,hx1,x2,hx2,x3,hx3,h⟩:=eddd h
 refine aC (cI rfl <|cCm (b:=0) rfl hx1 <|cB rfl <|gG rfl (fun hb=>(tI rfl)) <|gG rfl (fun hb=>(tCg (b:=4) rfl hb hx2)) <|cAn rfl hx3 <|cAB rfl <|aB ?_)
 refine aI ?_
 obtain rfl:=Option.some.inj h
 refine ⟨.inr rfl,(.cons (sv rfl) .nil)⟩

theorem qA (a0 : bX) (r : aG) (h : kI a0 = some r) : bR Tryz.prog 128 [.agg (tv19 a0)] (.agg [.int .i64 r.From,.int .i64 r.To]):=by
 refine aN (rs:=[.agg [.int .i64 r.From,.int .i64 r.To]]) Tryz.func128 rfl Tryz.ntmps128 (nle rfl) rfl fun O hO=>?_
 show IWP _ _ _ _ ⟨[(0,.agg (tv19 a0))],[]⟩ _
 unfold kI at h
 refine aC (cBx (cs:=q46) q46 0 rfl <|aA rfl (aZ (cs:=q52) (cs':=[.int .i64 0,.int .i64 0]) 1 rfl rfl (lb rfl) rfl jC rfl rfl (.all _)) <|aB ?_)
 refine aC (cFa 0 rO rfl ti3 rfl <|cLd (d:=.int _ _) un3 ag3 ti3 rfl <|cFa 1 rO rfl ti3 rfl <|cLd (d:=.int _ _) un3 ag3 ti3 rfl <|aA rfl (aY (cs:=q52) rfl rfl (lb rfl) nY jC pl249 rfl (.cons (svI rfl) (.cons (svI rfl) .nil)) rfl) <|cSt q52 q52 jC rfl <|aB ?_)
 refine aI ?_
 obtain rfl:=Option.some.inj h
 refine ⟨.inr rfl,(.cons (rva xN rfl rfl (nle rfl) rfl) .nil)⟩

theorem lB (a0 : (List aG)) (r : (List aG)) (h : dK a0 = some r) : FnH Tryz.prog 123 [.slice false (a0.map aF.d)] [] (.osl 0 aF.sz r.length) [(0,.blk 249 (D.flat (r.map aF.d)))]:=by
 refine iZ (rs:=[.osl 0 aF.sz r.length]) Tryz.func123 rfl Tryz.ntmps123 (nle rfl) fun O hO=>?_
 show IWP _ _ _ _ ⟨[(0,.slice false (a0.map aF.d))],[]⟩ _
 unfold dK at h
 refine aC (cAs (.nils) rfl <|aB ?_)
 refine aK <| aC (aA rfl (mvL rfl rfl rfl rfl) <|aAB rfl rfl rfl (by decide) un85 (svL rfl) rfl <| fun bn1 hbn1 =>
  aB ?_)
 refine gE (b:=_) rfl (fun hc2=>?_) (fun hc2=>?_)
 ·
  replace h:=aCt h (mapE (hbn1 hc2))
  refine aC (cAs (.nils) rfl <|aB ?_)
  refine aI <| aQ ?_
  obtain rfl:=Option.some.inj h
  refine ⟨.inr rfl,(fun i=>if i = 0 then 50 else i),⟨.nil,(.cons (.nilb rfl) .nil),bS [50] rfl (by decide),(fun i hi=>by first | rfl | (show (if _ then _ else _) = _; (repeat' split) <;> omega))⟩,(.cons (svno rfl) .nil),rfl⟩
 ·
  replace h:=aCu h
  refine aJ <| aE ?_
  obtain ⟨x3,hx3,h⟩:=bT h
  refine aC (aA rfl (nF aF.toEnc0 ([] : (List aG)) 0 rfl rfl (lb rfl) un85 jC rfl .nil rfl rfl (by decide)) <|aA rfl (mvL rfl rfl rfl rfl) <|aA rfl (sW aF.toEnc0 1 rfl rfl (lb rfl) un85 jC rfl rfl rfl rfl rfl (aFy aF (ys:=a0) (svL rfl)) hx3) <|cAs (.osl _ _ _) rfl <|aB ?_)
  refine aI ?_
  obtain rfl:=Option.some.inj h
  refine ⟨.inr rfl,(fun i=>if i = 0 then 1 else i),⟨.nil,(.cons (EntW.lst rfl) .nil),bS [1] rfl (by decide),(fun i hi=>by first | rfl | (show (if _ then _ else _) = _; (repeat' split) <;> omega))⟩,(.cons (sv rfl) .nil),rfl⟩

theorem aCe (a0 : (List aG)) (a1 : aG) (r : (List aG)) (h : sC a0 a1 = some r) : bR Tryz.prog 147 [.slice false (a0.map aF.d), .agg [.int .i64 a1.From, .int .i64 a1.To]] (.slice false (r.map aF.d)) := by
 refine lQ (rs:=[.slice false (r.map aF.d)]) Tryz.func147 rfl Tryz.ntmps147 (nle rfl) rfl fun O hO=>?_
 show IWP _ _ _ _ ⟨[(0,.slice false (a0.map aF.d)),(1,.agg [.int .i64 a1.From,.int .i64 a1.To])],[]⟩ _
 unfold sC at h
 refine aC (cBx (cs:=q52) q52 0 rfl <|cAs (.nils) rfl <|aB ?_)
 refine aK ?_
 obtain ⟨x1,hx1,x2,hx2,x3,hx3,h⟩:=eood h
 obtain ⟨x4,hx4,x5,hx5,x6,hx6,h⟩:=eodd h
 refine aC (cLr q52 xN rfl <|aA rfl (aL (r:=.bool _) rfl rfl (lb rfl) cl144 (.cons (svA q52 rfl) .nil) rfl (oC _ _ hx1)) <|aA rfl (dJ rfl rfl (lb rfl) (svB rfl)) <|cB rfl <|gG rfl (fun hb=>(tLr q52 xN rfl)) <|gG rfl (fun hb=>(aL (r:=.bool _) rfl rfl (lb rfl) aGg (.cons (svc (d:=.agg [.int .i64 a1.From,.int .i64 a1.To]) rfl hb) .nil) rfl (kR _ _ (gd_t hx2 hb)))) <|cOr rfl hx3 <|cB rfl <|gG rfl (fun hb=>(mvL rfl rfl rfl rfl)) <|gG rfl (fun hb=>(aL (r:=.int _ _) rfl rfl (lb rfl) cl124 (.cons (svcL rfl hb) .nil) rfl (qS _ _ (gd_t hx4 hb)))) <|gG rfl (fun hb=>(tCg (b:=0) rfl hb hx5)) <|cOr rfl hx6 <|aB ?_)
 refine aH h rfl (fun h=>?_) (fun h=>?_)
 ·
  obtain ⟨x8,hx8,h⟩:=bT h
  refine aC (aA rfl (mvL rfl rfl rfl rfl) <|aA rfl (fQ (r':=.osl 1 aF.sz x8.length) (H1':=[(1,.blk 249 (D.flat (x8.map aF.d)))]) 1 [] rfl rfl (lb rfl) cl123 (.cons (svL rfl) .nil) rfl rfl ⟨rfl,rfl,by decide,rfl,List.forall_mem_nil _⟩ (lB _ _ hx8) rfl rfl (List.forall_mem_cons.2 ⟨⟨rfl,(aDF aF)⟩,List.forall_mem_nil _⟩) (by simp only [List.map_cons,List.map_nil,Ent.ren,iV,jL]; rfl)) <|cAs (.osl _ _ _) rfl <|aB ?_)
  refine aI <| aQ ?_
  obtain rfl:=Option.some.inj h
  refine ⟨.inr rfl,_,(.cons (sv rfl) .nil),(.cons (FDT aF rfl rfl) .nil)⟩
 ·
  refine aJ <| aE <| aC (aA rfl (aZ (cs:=[.nils]) (cs':=[.nils]) 1 rfl rfl (lb rfl) rfl ti85 rfl rfl (.all _)) <|aB ?_)
  refine aK <| aC (aA rfl (mvL rfl rfl rfl rfl) <|cLr q52 xN rfl <|?_)
  refine vJ (S':=⟨[(5,.ref 1 0),(21,.slice false (a0.map aF.d)),(22,.agg [.int .i64 a1.From,.int .i64 a1.To])],[(1,.blk 85 [.nils])]⟩) (fun i=>i) ⟨(.sames rfl rfl),(.cons (.blk rfl rfl rfl) .nil),bS [1] rfl (by decide),fun _ _=>rfl⟩ <| aCl 1 2 rfl rfl rfl (by decide) cl154 Tryz.func154 rfl (.cons (svL rfl) (.cons (svA q52 rfl) .nil)) Tryz.ntmps154 (nle rfl) rfl hO fun O1 hO1=>?_
  show IWP _ _ _ _ ⟨[(0,.slice false (a0.map aF.d)),(1,.agg [.int .i64 a1.From,.int .i64 a1.To])],[(2,.kept 1 [.dead,.dead,.dead,.dead,.dead,.ref 1 0,.dead,.dead,.dead,.dead,.dead,.dead,.dead,.dead,.dead,.dead,.dead,.dead,.dead,.dead,.dead,.slice false (a0.map aF.d),.agg [.int .i64 a1.From,.int .i64 a1.To],.dead,.dead,.dead,.dead,.dead,.dead,.dead]),(1,.blk 85 [.nils])]⟩ _
  refine aC (aA rfl (sV (cs:=[.slice _ _]) 3 rfl rfl (lb rfl) rfl (svL rfl) rfl rfl) <|cBx (cs:=q52) q52 4 rfl <|cAs (.nilf) rfl <|aB ?_)
  refine aC (aA rfl (xA rfl rfl (lb rfl) (.cons (svR rfl) (.cons (svR rfl) .nil))) <|cAs (.fn 156 [.ref _ _,.ref _ _]) rfl <|aB ?_)
  refine aI ?_
  refine ⟨.inr rfl,2,_,[.fn 156 [.ref 3 0,.ref 4 0]],(.cons (sv rfl) .nil),rfl,rfl,⟨[(5,.ref 1 0),(23,.fn 156 [.ref 3 0,.ref 4 0])],[(1,.blk 85 [.nils]),(3,.blk 85 [.slice false (a0.map aF.d)]),(4,.blk 249 [.int .i64 a1.From,.int .i64 a1.To])]⟩,(fun i=>i),⟨(.sames rfl rfl),(.cons (.blk rfl rfl rfl) (.cons (.blk rfl rfl rfl) (.cons (.blk rfl rfl rfl) .nil))),bS [1,3,4] rfl (by decide),fun _ _=>rfl⟩,?_⟩
  refine aB <| aU <| xW (S':=⟨[(5,.ref 1 0),(23,.fn 156 [.ref 3 0,.ref 4 0])],[(1,.blk 85 [.nils]),(3,.blk 85 [.slice false (a0.map aF.d)]),(4,.blk 249 [.int .i64 a1.From,.int .i64 a1.To])]⟩) (fun i=>i) ⟨(.sames rfl rfl),(.cons (.blk rfl rfl rfl) (.cons (.blk rfl rfl rfl) (.cons (.blk rfl rfl rfl) .nil))),bS [1,3,4] rfl (by decide),fun _ _=>rfl⟩ <| aBw 1 5 6 (sv (d:=.fn 156 [.ref _ _,.ref _ _]) rfl) cl156 Tryz.func156 rfl rfl Tryz.ntmps156 (nle rfl) rfl rfl hO fun O1 hO1 hlc1=>?_
  show IWP _ _ _ _ ⟨[(0,.yld 5),(1,.ref 3 0),(2,.ref 4 0)],[(6,.kept 1 [.dead,.dead,.dead,.dead,.dead,.ref 1 0,.dead,.dead,.dead,.dead,.dead,.dead,.dead,.dead,.dead,.dead,.dead,.dead,.dead,.dead,.dead,.dead,.dead,.fn 156 [.ref 3 0,.ref 4 0],.dead,.dead,.dead,.dead,.dead,.dead]),(5,.loop 1 [.dead,.dead,.dead,.dead,.dead,.ref 1 0,.dead,.dead,.dead,.dead,.dead,.dead,.dead,.dead,.dead,.dead,.dead,.dead,.dead,.dead,.dead,.dead,.dead,.fn 156 [.ref 3 0,.ref 4 0],.dead,.dead,.dead,.dead,.dead,.dead] .ready none),(1,.blk 85 [.nils]),(3,.blk 85 [.slice false (a0.map aF.d)]),(4,.blk 249 [.int .i64 a1.From,.int .i64 a1.To])]⟩ _
  refine aC (aA rfl (lrL la85 rfl rfl rfl rfl rfl (nle rfl) rfl) <|aA rfl (dD aF (l:=a0) rfl rfl (lb rfl) un85 (svL rfl)) <|cMv (.int _ 0) rfl <|aB ?_)
  refine aU <| cP (α:=Nat × Int × (List aG)) (fun z=>⟨[(0,.yld 5),(2,.ref 4 0),(8,.slice false (a0.map aF.d)),(9,.int .i64 (a0.length : Int)),(10,.int .i64 z.2.1)],[(5,.loop 1 [.dead,.dead,.dead,.dead,.dead,.ref 1 0,.dead,.dead,.dead,.dead,.dead,.dead,.dead,.dead,.dead,.dead,.dead,.dead,.dead,.dead,.dead,.dead,.dead,.fn 156 [.ref 3 0,.ref 4 0],.dead,.dead,.dead,.dead,.dead,.dead] .ready none),(4,.blk 249 [.int .i64 a1.From,.int .i64 a1.To]),(6,.kept 1 [.dead,.dead,.dead,.dead,.dead,.ref 1 0,.dead,.dead,.dead,.dead,.dead,.dead,.dead,.dead,.dead,.dead,.dead,.dead,.dead,.dead,.dead,.dead,.dead,.fn 156 [.ref 3 0,.ref 4 0],.dead,.dead,.dead,.dead,.dead,.dead]),(1,.blk 85 [.osl 28 aF.sz z.2.2.length]),(3,.blk 85 [.slice false (a0.map aF.d)]),(28,.blk 249 (D.flat (z.2.2.map aF.d)))]⟩) (fun z=>iB a0 a1 z.1 z.2.1 z.2.2 = some r) (fun z=>z.1) (fuel,0,([] : (List aG))) (fun i=>if i = 28 then 85 else i) ⟨(.sames rfl rfl),(.cons (.loop rfl rfl rfl) (.cons (.blk rfl rfl rfl) (.cons (.kept rfl rfl rfl) (.cons (.sub rfl (.nilo .nil) rfl) (.cons (.blk rfl rfl rfl) (.cons (.nilb rfl) .nil)))))),bS [5,4,6,1,3,85] rfl (by decide),(fun i hi=>by first | rfl | (show (if _ then _ else _) = _; (repeat' split) <;> omega))⟩ ?_ ?_
  ·exact h
  ·
   rintro ⟨n0,v52,v53⟩ h
   cases n0 with
   | zero=>exact absurd h (by unfold iB; exact nofun)
   | succ n0 =>
    unfold iB at h
    obtain ⟨x97,hx97,h⟩:=bE h
    refine aC (cCm rfl hx97 <|aB ?_)
    refine aK <| aH h rfl (fun h=>?_) (fun h=>?_)
    ·
     refine aJ <| aE <| aK <| aU ?_
     obtain ⟨x99,hx99,h⟩:=bT h
     refine aC (aA rfl (cW aF (cs:=q52) rfl rfl (lb rfl) un85 jC (svL rfl) (svI rfl) hx99 rfl rfl) <|aA rfl (fD (cs:=q52) rfl rfl (lb rfl) nY aCK jC (by decide) (sv (d:=.fptr q52) rfl) (nle rfl) rfl) <|aA rfl (aZ (cs:=q52) (cs':=[.int .i64 0,.int .i64 0]) 29 rfl rfl (lb rfl) rfl jC rfl rfl (.all _)) <|cSt q52 q52 jC rfl <|aB ?_)
     obtain ⟨x100,hx100,x101,hx101,h⟩:=edd h
     refine aC (cFa 0 nY rfl ti3 rfl <|cLd (d:=.int _ _) un3 ag3 ti3 rfl <|cFa 1 nY rfl ti3 rfl <|cLd (d:=.int _ _) un3 ag3 ti3 rfl <|cFa 0 nY rfl ti3 rfl <|cLd (d:=.int _ _) un3 ag3 ti3 rfl <|aA rfl (sT rfl rfl (lb rfl) (svI rfl) (svI rfl) hx100) <|aA rfl (aY (cs:=q52) rfl rfl (lb rfl) nY jC pl249 rfl (.cons (svI rfl) (.cons (svI rfl) .nil)) rfl) <|cFa 0 nY rfl ti3 rfl <|cLd (d:=.int _ _) un3 ag3 ti3 rfl <|cFa 1 nY rfl ti3 rfl <|cLd (d:=.int _ _) un3 ag3 ti3 rfl <|aA rfl (xX rfl rfl (lb rfl) (svI rfl) (svI rfl) hx101) <|cFa 1 nY rfl ti3 rfl <|cLd (d:=.int _ _) un3 ag3 ti3 rfl <|aA rfl (aY (cs:=q52) rfl rfl (lb rfl) nY jC pl249 rfl (.cons (svI rfl) (.cons (svI rfl) .nil)) rfl) <|aA rfl (iY (cs:=q43) rfl rfl (lb rfl) Tryz.underlying283 ti283 jC rfl (.cons (svA q52 rfl) (.cons (svA q52 rfl) .nil)) rfl) <|cMv (.int _ 0) rfl <|aB ?_)
     refine aU <| cP (α:=Nat × Int × (List aG)) (fun z=>⟨[(0,.yld 5),(2,.ref 4 0),(8,.slice false (a0.map aF.d)),(9,.int .i64 (a0.length : Int)),(10,.int .i64 v52),(30,.agg (w73 x99.From x100 x101 x99.To)),(31,.int .i64 z.2.1)],[(5,.loop 1 [.dead,.dead,.dead,.dead,.dead,.ref 1 0,.dead,.dead,.dead,.dead,.dead,.dead,.dead,.dead,.dead,.dead,.dead,.dead,.dead,.dead,.dead,.dead,.dead,.fn 156 [.ref 3 0,.ref 4 0],.dead,.dead,.dead,.dead,.dead,.dead] .ready none),(4,.blk 249 [.int .i64 a1.From,.int .i64 a1.To]),(6,.kept 1 [.dead,.dead,.dead,.dead,.dead,.ref 1 0,.dead,.dead,.dead,.dead,.dead,.dead,.dead,.dead,.dead,.dead,.dead,.dead,.dead,.dead,.dead,.dead,.dead,.fn 156 [.ref 3 0,.ref 4 0],.dead,.dead,.dead,.dead,.dead,.dead]),(1,.blk 85 [.osl 28 aF.sz z.2.2.length]),(3,.blk 85 [.slice false (a0.map aF.d)]),(28,.blk 249 (D.flat (z.2.2.map aF.d)))]⟩) (fun z=>fH v52 (iB a0 a1 n0) x99 x100 x101 z.1 z.2.1 z.2.2 = some r) (fun z=>z.1) (fuel,0,v53) (fun i=>i) ⟨(.sames rfl rfl),(.cons (.loop rfl rfl rfl) (.cons (.blk rfl rfl rfl) (.cons (.kept rfl rfl rfl) (.cons (.blk rfl rfl rfl) (.cons (.blk rfl rfl rfl) (.cons (EntW.lst rfl) .nil)))))),bS [5,4,6,1,3,28] rfl (by decide),fun _ _=>rfl⟩ ?_ ?_
     ·exact h
     ·
      rintro ⟨n1,v113,v114⟩ h
      cases n1 with
      | zero=>exact absurd h (by unfold fH; exact nofun)
      | succ n1 =>
       unfold fH at h
       obtain ⟨x127,hx127,h⟩:=bE h
       refine aC (cCm (b:=2) rfl hx127 <|aB ?_)
       refine aK <| aH h rfl (fun h=>?_) (fun h=>?_)
       ·
        refine aJ <| aE <| aK <| aU ?_
        obtain ⟨x129,hx129,h⟩:=bT h
        refine aC (aA rfl (sE aF (ds:=q52) rfl rfl (lb rfl) Tryz.underlying283 nY aCK jC (by decide) (svA q43 rfl) (svI rfl) hx129 rfl ⟨rfl,⟨rfl,trivial⟩⟩ rfl rfl) <|aA rfl (aZ (cs:=q52) (cs':=[.int .i64 0,.int .i64 0]) 29 rfl rfl (lb rfl) rfl jC rfl rfl (.all _)) <|cSt q52 q52 jC rfl <|aB ?_)
        obtain ⟨x130,hx130,h⟩:=bT h
        refine aC (cLr q52 xN rfl <|aA rfl (aL (r:=.bool _) rfl rfl (lb rfl) aGg (.cons (svA q52 rfl) .nil) rfl (kR _ _ hx130)) <|aA rfl (dJ rfl rfl (lb rfl) (svB rfl)) <|cB rfl <|gG rfl (fun hb=>(tMv (.yld _) rfl)) <|gG rfl (fun hb=>(tLr q52 xN rfl)) <|?_)
        refine aAf rfl rfl (.one rfl) rfl (by decide) (fun hc131=>?_) (fun hc131=>?_)
        ·
         replace h:=tG h hc131
         refine qF 38 rfl hc131 <| qF 39 rfl hc131 <| vJ (S':=⟨[(0,.yld 5),(2,.ref 4 0),(8,.slice false (a0.map aF.d)),(9,.int .i64 (a0.length : Int)),(10,.int .i64 v52),(30,.agg (w73 x99.From x100 x101 x99.To)),(31,.int .i64 v113),(37,.bool (!x130)),(38,.yld 5),(39,.agg [.int .i64 x129.From,.int .i64 x129.To])],[(1,.blk 85 [.osl 28 aF.sz v114.length]),(3,.blk 85 [.slice false (a0.map aF.d)]),(4,.blk 249 [.int .i64 a1.From,.int .i64 a1.To]),(5,.loop 1 [.dead,.dead,.dead,.dead,.dead,.ref 1 0,.dead,.dead,.dead,.dead,.dead,.dead,.dead,.dead,.dead,.dead,.dead,.dead,.dead,.dead,.dead,.dead,.dead,.fn 156 [.ref 3 0,.ref 4 0],.dead,.dead,.dead,.dead,.dead,.dead] .ready none),(6,.kept 1 [.dead,.dead,.dead,.dead,.dead,.ref 1 0,.dead,.dead,.dead,.dead,.dead,.dead,.dead,.dead,.dead,.dead,.dead,.dead,.dead,.dead,.dead,.dead,.dead,.fn 156 [.ref 3 0,.ref 4 0],.dead,.dead,.dead,.dead,.dead,.dead]),(28,.blk 249 (D.flat (v114.map aF.d)))]⟩) (fun i=>i) ⟨(.sames rfl rfl),(.cons (.blk rfl rfl rfl) (.cons (.blk rfl rfl rfl) (.cons (.blk rfl rfl rfl) (.cons (.loop rfl rfl rfl) (.cons (.kept rfl rfl rfl) (.cons (EntW.lst rfl) .nil)))))),bS [1,3,4,5,6,28] rfl (by decide),fun _ _=>rfl⟩ <| aB6 2 5 30 rfl rfl rfl (by decide) rfl (.cons (svA q52 rfl) .nil) rfl rfl rfl rfl rfl rfl hO1 hlc1 ⟨[(24,.agg [.int .i64 x129.From,.int .i64 x129.To]),(5,.ref 1 0)],[(1,.blk 85 [.osl 28 aF.sz v114.length]),(3,.blk 85 [.slice false (a0.map aF.d)]),(4,.blk 249 [.int .i64 a1.From,.int .i64 a1.To]),(5,.loop 1 [.dead,.dead,.dead,.dead,.dead,.ref 1 0,.dead,.dead,.dead,.dead,.dead,.dead,.dead,.dead,.dead,.dead,.dead,.dead,.dead,.dead,.dead,.dead,.dead,.fn 156 [.ref 3 0,.ref 4 0],.dead,.dead,.dead,.dead,.dead,.dead] .ready none),(6,.kept 1 [.dead,.dead,.dead,.dead,.dead,.ref 1 0,.dead,.dead,.dead,.dead,.dead,.dead,.dead,.dead,.dead,.dead,.dead,.dead,.dead,.dead,.dead,.dead,.dead,.fn 156 [.ref 3 0,.ref 4 0],.dead,.dead,.dead,.dead,.dead,.dead]),(28,.blk 249 (D.flat (v114.map aF.d))),(30,.kept 2 [.yld 5,.dead,.ref 4 0,.dead,.dead,.dead,.dead,.dead,.slice false (a0.map aF.d),.int .i64 (a0.length : Int),.int .i64 v52,.dead,.dead,.dead,.dead,.dead,.dead,.dead,.dead,.dead,.dead,.dead,.dead,.dead,.dead,.dead,.dead,.dead,.dead,.dead,.agg (w73 x99.From x100 x101 x99.To),.int .i64 v113,.dead,.dead,.dead,.dead,.dead,.bool (!x130),.yld 5,.agg [.int .i64 x129.From,.int .i64 x129.To],.dead,.dead,.dead,.dead,.dead])]⟩ (fun i=>i) ⟨(.sames rfl rfl),(.cons (.blk rfl rfl rfl) (.cons (.blk rfl rfl rfl) (.cons (.blk rfl rfl rfl) (.cons (.loop rfl rfl rfl) (.cons (.kept rfl rfl rfl) (.cons (EntW.lst rfl) (.cons (.kept rfl rfl rfl) .nil))))))),bS [1,3,4,5,6,28,30] rfl (by decide),fun _ _=>rfl⟩ fun O2=>?_
         refine aR (aA rfl (aZ (cs:=q52) (cs':=[.int .i64 0,.int .i64 0]) 31 rfl rfl (lb rfl) rfl jC rfl rfl (.all _)) <|cSt q52 q52 jC rfl <|bK ?_)
         refine ⟨rfl,5,_,rfl,⟨[(5,.ref 1 0),(6,.ref 31 0)],[(1,.blk 85 [.osl 28 aF.sz v114.length]),(3,.blk 85 [.slice false (a0.map aF.d)]),(4,.blk 249 [.int .i64 a1.From,.int .i64 a1.To]),(5,.loop 1 [.dead,.dead,.dead,.dead,.dead,.ref 1 0,.dead,.dead,.dead,.dead,.dead,.dead,.dead,.dead,.dead,.dead,.dead,.dead,.dead,.dead,.dead,.dead,.dead,.fn 156 [.ref 3 0,.ref 4 0],.dead,.dead,.dead,.dead,.dead,.dead] .busy none),(6,.kept 1 [.dead,.dead,.dead,.dead,.dead,.ref 1 0,.dead,.dead,.dead,.dead,.dead,.dead,.dead,.dead,.dead,.dead,.dead,.dead,.dead,.dead,.dead,.dead,.dead,.fn 156 [.ref 3 0,.ref 4 0],.dead,.dead,.dead,.dead,.dead,.dead]),(28,.blk 249 (D.flat (v114.map aF.d))),(30,.kept 2 [.yld 5,.dead,.ref 4 0,.dead,.dead,.dead,.dead,.dead,.slice false (a0.map aF.d),.int .i64 (a0.length : Int),.int .i64 v52,.dead,.dead,.dead,.dead,.dead,.dead,.dead,.dead,.dead,.dead,.dead,.dead,.dead,.dead,.dead,.dead,.dead,.dead,.dead,.agg (w73 x99.From x100 x101 x99.To),.int .i64 v113,.dead,.dead,.dead,.dead,.dead,.bool (!x130),.yld 5,.agg [.int .i64 x129.From,.int .i64 x129.To],.dead,.dead,.dead,.dead,.dead]),(31,.blk 249 [.int .i64 x129.From,.int .i64 x129.To])]⟩,(fun i=>i),⟨(.sames rfl rfl),(.cons (.blk rfl rfl rfl) (.cons (.blk rfl rfl rfl) (.cons (.blk rfl rfl rfl) (.cons (.loop rfl rfl rfl) (.cons (.kept rfl rfl rfl) (.cons (EntW.lst rfl) (.cons (.kept rfl rfl rfl) (.cons (.blk rfl rfl rfl) .nil)))))))),bS [1,3,4,5,6,28,30,31] rfl (by decide),fun _ _=>rfl⟩,?_⟩
         refine aU ?_
         obtain ⟨x132,hx132,h⟩:=bT h
         refine aR (cLd (d:=.osl _ _ _) un85 ag85 ti85 rfl <|cLr q52 xN rfl <|aA rfl (nF aF.toEnc0 ([(⟨x129.From,x129.To⟩ : aG)] : (List aG)) 32 rfl rfl (lb rfl) un85 jC rfl (.cons (svA q52 rfl) .nil) rfl rfl (by decide)) <|aA rfl (sW aF.toEnc0 33 rfl rfl (lb rfl) un85 jC rfl rfl rfl rfl rfl (yN aF.toEnc0 rfl rfl rfl) hx132) <|aA rfl (cH (ds':=[.osl _ _ _]) rfl rfl ti85 (svR rfl) rfl (sv (d:=.osl _ _ _) rfl) rfl rfl rfl (nle rfl) rfl) <|bK ?_)
         refine bM ?_
         refine ⟨5,30,_,_,none,rfl,rfl,rfl,rfl,(by decide),⟨[(0,.yld 5),(2,.ref 4 0),(8,.slice false (a0.map aF.d)),(9,.int .i64 (a0.length : Int)),(10,.int .i64 v52),(30,.agg (w73 x99.From x100 x101 x99.To)),(31,.int .i64 v113),(37,.bool (!x130)),(38,.yld 5),(39,.agg [.int .i64 x129.From,.int .i64 x129.To]),(40,.bool true)],[(1,.blk 85 [.osl 33 aF.sz x132.length]),(3,.blk 85 [.slice false (a0.map aF.d)]),(4,.blk 249 [.int .i64 a1.From,.int .i64 a1.To]),(5,.loop 1 [.dead,.dead,.dead,.dead,.dead,.ref 1 0,.dead,.dead,.dead,.dead,.dead,.dead,.dead,.dead,.dead,.dead,.dead,.dead,.dead,.dead,.dead,.dead,.dead,.fn 156 [.ref 3 0,.ref 4 0],.dead,.dead,.dead,.dead,.dead,.dead] .ready none),(6,.kept 1 [.dead,.dead,.dead,.dead,.dead,.ref 1 0,.dead,.dead,.dead,.dead,.dead,.dead,.dead,.dead,.dead,.dead,.dead,.dead,.dead,.dead,.dead,.dead,.dead,.fn 156 [.ref 3 0,.ref 4 0],.dead,.dead,.dead,.dead,.dead,.dead]),(33,.blk 249 (D.flat (x132.map aF.d)))]⟩,(fun i=>i),⟨(.sames rfl rfl),(.cons (.blk rfl rfl rfl) (.cons (.blk rfl rfl rfl) (.cons (.blk rfl rfl rfl) (.cons (.loop rfl rfl rfl) (.cons (.kept rfl rfl rfl) (.cons (EntW.lst rfl) .nil)))))),bS [1,3,4,5,6,33] rfl (by decide),fun _ _=>rfl⟩,?_⟩
         obtain ⟨x133,hx133,h⟩:=bE h
         refine gG rfl (fun hb=>(dJ rfl rfl (lb rfl) (svB rfl))) <|cAn rfl hx133 <|aB ?_
         refine aH h rfl (fun h=>?_) (fun h=>?_)
         ·
          refine aI <| bJ <| aQ <| aQ <| bJ <| bJ <| aQ <| aQ <| bJ ?_
          refine ⟨.inr rfl,5,6,_,_,_,_,rfl,(by simp),rfl,rfl,⟨[(5,.ref 1 0)],[(1,.blk 85 [.osl 33 aF.sz x132.length]),(33,.blk 249 (D.flat (x132.map aF.d)))]⟩,(fun i=>i),⟨(.sames rfl rfl),(.cons (.blk rfl rfl rfl) (.cons (EntW.lst rfl) .nil)),bS [1,33] rfl (by decide),fun _ _=>rfl⟩,?_⟩
          refine bM <| aE <| aC (cLd (d:=.osl _ _ _) un85 ag85 ti85 rfl <|cAs (.osl _ _ _) rfl <|aB ?_)
          refine aI ?_
          obtain rfl:=Option.some.inj h
          refine ⟨.inr rfl,_,(.cons (sv rfl) .nil),(.cons (FDT aF rfl rfl) .nil)⟩
         ·
          refine aJ <| bM <| aE ?_
          obtain ⟨x135,hx135,h⟩:=bE h
          refine aR (aA rfl (bB rfl rfl (lb rfl) (svI rfl) (sv (d:=.int _ 1) rfl) rfl hx135) <|cI rfl <|bK ?_)
          refine aE ⟨(n1,x135,x132),(fun i=>if i = 28 then 33 else i),⟨(.sames rfl rfl),(.cons (.loop rfl rfl rfl) (.cons (.blk rfl rfl rfl) (.cons (.kept rfl rfl rfl) (.cons (.blk rfl rfl rfl) (.cons (.blk rfl rfl rfl) (.cons (EntW.lst rfl) .nil)))))),bS [5,4,6,1,3,33] rfl (by decide),(fun i hi=>by first | rfl | (show (if _ then _ else _) = _; (repeat' split) <;> omega))⟩,?_,?_⟩
          exact h
          exact Nat.lt_succ_self _
        ·
         replace h:=tH h hc131
         obtain ⟨x136,hx136,h⟩:=bE h
         refine gG rfl (fun hb=>(dJ rfl rfl (lb rfl) (svcB rfl hb))) <|cAn rfl hx136 <|aB ?_
         refine aH h rfl (fun h=>?_) (fun h=>?_)
         ·
          refine aI <| bJ <| aQ <| aQ <| bJ <| bJ <| aQ <| aQ <| bJ ?_
          refine ⟨.inr rfl,5,6,_,_,_,_,rfl,(by simp),rfl,rfl,⟨[(5,.ref 1 0)],[(1,.blk 85 [.osl 28 aF.sz v114.length]),(28,.blk 249 (D.flat (v114.map aF.d)))]⟩,(fun i=>i),⟨(.sames rfl rfl),(.cons (.blk rfl rfl rfl) (.cons (EntW.lst rfl) .nil)),bS [1,28] rfl (by decide),fun _ _=>rfl⟩,?_⟩
          refine bM <| aE <| aC (cLd (d:=.osl _ _ _) un85 ag85 ti85 rfl <|cAs (.osl _ _ _) rfl <|aB ?_)
          refine aI ?_
          obtain rfl:=Option.some.inj h
          refine ⟨.inr rfl,_,(.cons (sv rfl) .nil),(.cons (FDT aF rfl rfl) .nil)⟩
         ·
          refine aJ <| bM <| aE ?_
          obtain ⟨x138,hx138,h⟩:=bE h
          refine aR (aA rfl (bB rfl rfl (lb rfl) (svI rfl) (sv (d:=.int _ 1) rfl) rfl hx138) <|cI rfl <|bK ?_)
          refine aE ⟨(n1,x138,v114),(fun i=>i),⟨(.sames rfl rfl),(.cons (.loop rfl rfl rfl) (.cons (.blk rfl rfl rfl) (.cons (.kept rfl rfl rfl) (.cons (.blk rfl rfl rfl) (.cons (.blk rfl rfl rfl) (.cons (EntW.lst rfl) .nil)))))),bS [5,4,6,1,3,28] rfl (by decide),fun _ _=>rfl⟩,?_,?_⟩
          exact h
          exact Nat.lt_succ_self _
       ·
        refine cC <| aW <| aW <| cD <| bM <| aE ?_
        obtain ⟨x139,hx139,h⟩:=bE h
        refine aR (aA rfl (bB rfl rfl (lb rfl) (svI rfl) (sv (d:=.int _ 1) rfl) rfl hx139) <|cI rfl <|bK ?_)
        refine aE ⟨(n0,x139,v114),(fun i=>i),⟨(.sames rfl rfl),(.cons (.loop rfl rfl rfl) (.cons (.blk rfl rfl rfl) (.cons (.kept rfl rfl rfl) (.cons (.blk rfl rfl rfl) (.cons (.blk rfl rfl rfl) (.cons (EntW.lst rfl) .nil)))))),bS [5,4,6,1,3,28] rfl (by decide),fun _ _=>rfl⟩,?_,?_⟩
        exact h
        exact Nat.lt_succ_self _
    ·
     refine cC <| aW <| aW <| cD ?_
     refine ⟨.inl rfl,5,6,_,_,_,_,rfl,(by simp),rfl,rfl,⟨[(5,.ref 1 0)],[(1,.blk 85 [.osl 28 aF.sz v53.length]),(28,.blk 249 (D.flat (v53.map aF.d)))]⟩,(fun i=>i),⟨(.sames rfl rfl),(.cons (.blk rfl rfl rfl) (.cons (EntW.lst rfl) .nil)),bS [1,28] rfl (by decide),fun _ _=>rfl⟩,?_⟩
     refine bM <| aE <| aC (cLd (d:=.osl _ _ _) un85 ag85 ti85 rfl <|cAs (.osl _ _ _) rfl <|aB ?_)
     refine aI ?_
     obtain rfl:=Option.some.inj h
     refine ⟨.inr rfl,_,(.cons (sv rfl) .nil),(.cons (FDT aF rfl rfl) .nil)⟩

theorem aBp (a0 : (List aG)) (a1 : aG) (r : (List aG)) (h : qC a0 a1 = some r) : bR Tryz.prog 127 [.slice false (a0.map aF.d),.agg [.int .i64 a1.From,.int .i64 a1.To]] (.slice false (r.map aF.d)):=by
 refine aN (rs:=[.slice false (r.map aF.d)]) Tryz.func127 rfl Tryz.ntmps127 (nle rfl) rfl fun O hO=>?_
 show IWP _ _ _ _ ⟨[(0,.slice false (a0.map aF.d)),(1,.agg [.int .i64 a1.From,.int .i64 a1.To])],[]⟩ _
 unfold qC at h
 refine aC (cBx (cs:=q52) q52 0 rfl <|cAs (.nils) rfl <|aB ?_)
 refine aK ?_
 obtain ⟨x1,hx1,x2,hx2,x3,hx3,h⟩:=eood h
 obtain ⟨x4,hx4,x5,hx5,x6,hx6,h⟩:=edod h
 refine aC (cLr q52 xN rfl <|aA rfl (aL (r:=.bool _) rfl rfl (lb rfl) cl144 (.cons (svA q52 rfl) .nil) rfl (oC _ _ hx1)) <|aA rfl (dJ rfl rfl (lb rfl) (svB rfl)) <|cB rfl <|gG rfl (fun hb=>(mvL rfl rfl rfl rfl)) <|gG rfl (fun hb=>(aL (r:=.int _ _) rfl rfl (lb rfl) cl124 (.cons (svcL rfl hb) .nil) rfl (qS _ _ (gd_t hx2 hb)))) <|gG rfl (fun hb=>(tCg (b:=0) rfl hb hx3)) <|cOr rfl hx4 <|cB rfl <|gG rfl (fun hb=>(tLr q52 xN rfl)) <|gG rfl (fun hb=>(aL (r:=.bool _) rfl rfl (lb rfl) aGg (.cons (svc (d:=.agg [.int .i64 a1.From,.int .i64 a1.To]) rfl hb) .nil) rfl (kR _ _ (gd_t hx5 hb)))) <|cOr rfl hx6 <|aB ?_)
 refine aH h rfl (fun h=>?_) (fun h=>?_)
 ·
  refine aC (cAs (.nils) rfl <|aB ?_)
  refine aI <| aQ ?_
  obtain rfl:=Option.some.inj h
  refine ⟨.inr rfl,(.cons (yK rfl rfl) .nil)⟩
 ·
  refine aJ <| aE <| aC (cLr q52 xN rfl <|aA rfl (mM aF ([(⟨a1.From,a1.To⟩ : aG)] : (List aG)) 1 rfl rfl (lb rfl) un85 jC rfl (.cons (svA q52 rfl) .nil) rfl rfl (by decide)) <|cAs (.gsl _ _ _) rfl <|aB ?_)
  refine aK <| aC (aA rfl (mvL rfl rfl rfl rfl) <|aA rfl (dD aF (l:=a0) rfl rfl (lb rfl) un85 (svL rfl)) <|cMv (.int _ 0) rfl <|aB ?_)
  refine aU <| cP (α:=Nat × (List aG) × Int) (fun z=>⟨[(5,.slice false (z.2.1.map aF.d)),(22,.slice false (a0.map aF.d)),(23,.int .i64 (a0.length : Int)),(24,.int .i64 z.2.2)],[]⟩) (fun z=>iA a0 z.1 z.2.1 z.2.2 = some r) (fun z=>z.1) (fuel,([(⟨a1.From,a1.To⟩ : aG)] : (List aG)),0) (fun i=>i) ⟨(.cons (.coe (svg rfl) rfl) (.sames rfl rfl)),.nil,bS [] rfl (by decide),fun _ _=>rfl⟩ ?_ ?_
  ·exact h
  ·
   rintro ⟨n0,v13,v14⟩ h
   cases n0 with
   | zero=>exact absurd h (by unfold iA; exact nofun)
   | succ n0 =>
    unfold iA at h
    obtain ⟨x20,hx20,h⟩:=bE h
    refine aC (cCm rfl hx20 <|aB ?_)
    refine aK <| aH h rfl (fun h=>?_) (fun h=>?_)
    ·
     refine aJ <| aE <| aK <| aU ?_
     obtain ⟨x22,hx22,h⟩:=bT h
     refine aC (aA rfl (cW aF (cs:=q52) rfl rfl (lb rfl) un85 jC (svL rfl) (svI rfl) hx22 rfl rfl) <|aA rfl (fD (cs:=q52) rfl rfl (lb rfl) nY aCK jC (by decide) (sv (d:=.fptr q52) rfl) (nle rfl) rfl) <|aA rfl (aZ (cs:=q52) (cs':=[.int .i64 0,.int .i64 0]) 0 rfl rfl (lb rfl) rfl jC rfl rfl (.all _)) <|cSt q52 q52 jC rfl <|aB ?_)
     obtain ⟨x23,hx23,h⟩:=bT h
     refine aR (aA rfl (mvL rfl rfl rfl rfl) <|cLr q52 xN rfl <|aA rfl (aL (r:=.slice _ _) rfl rfl (lb rfl) cl147 (.cons (svL rfl) (.cons (svA q52 rfl) .nil)) rfl (aCe _ _ _ hx23)) <|aA rfl (bV rfl rfl (lb rfl) (svL rfl)) <|bK ?_)
     refine bM <| aE ?_
     obtain ⟨x24,hx24,h⟩:=bE h
     refine aR (aA rfl (bB rfl rfl (lb rfl) (svI rfl) (sv (d:=.int _ 1) rfl) rfl hx24) <|cI rfl <|bK ?_)
     refine aE ⟨(n0,x23,x24),(fun i=>i),⟨(.sames rfl rfl),.nil,bS [] rfl (by decide),fun _ _=>rfl⟩,?_,?_⟩
     exact h
     exact Nat.lt_succ_self _
    ·
     refine cC <| aW <| aW <| cD <| aE <| aC (aA rfl (mvL rfl rfl rfl rfl) <|aA rfl (bV rfl rfl (lb rfl) (svL rfl)) <|aB ?_)
     refine aI ?_
     obtain rfl:=Option.some.inj h
     refine ⟨.inr rfl,(.cons (sv rfl) .nil)⟩

theorem lM (a0 : (List aG)) (a1 : (List aG)) (r : Bool) (h : eF a0 a1 = some r) : bR Tryz.prog 146 [.slice false (a0.map aF.d),.slice false (a1.map aF.d)] (.bool r):=by
 refine aN (rs:=[.bool r]) Tryz.func146 rfl Tryz.ntmps146 (nle rfl) rfl fun O hO=>?_
 show IWP _ _ _ _ ⟨[(0,.slice false (a0.map aF.d)),(1,.slice false (a1.map aF.d))],[]⟩ _
 unfold eF at h
 refine aC (cAs (.bool false) rfl <|aB ?_)
 refine aK ?_
 obtain ⟨x1,hx1,h⟩:=bE h
 refine aC (aA rfl (mvL rfl rfl rfl rfl) <|aA rfl (dD aF (l:=a0) rfl rfl (lb rfl) un85 (svL rfl)) <|aA rfl (mvL rfl rfl rfl rfl) <|aA rfl (dD aF (l:=a1) rfl rfl (lb rfl) un85 (svL rfl)) <|cCm rfl hx1 <|aB ?_)
 refine aH h rfl (fun h=>?_) (fun h=>?_)
 ·
  refine aC (cAs (.bool false) rfl <|aB ?_)
  refine aI <| aQ ?_
  obtain rfl:=Option.some.inj h
  refine ⟨.inr rfl,(.cons (sv rfl) .nil)⟩
 ·
  refine aJ <| aE <| aK <| aC (aA rfl (mvL rfl rfl rfl rfl) <|aA rfl (dD aF (l:=a0) rfl rfl (lb rfl) un85 (svL rfl)) <|cMv (.int _ 0) rfl <|aB ?_)
  refine aU <| cP (α:=Nat × Int) (fun z=>⟨[(0,.slice false (a0.map aF.d)),(1,.slice false (a1.map aF.d)),(12,.int .i64 (a0.length : Int)),(13,.int .i64 z.2)],[]⟩) (fun z=>cL a0 a1 z.1 z.2 = some r) (fun z=>z.1) (fuel,0) (fun i=>i) ⟨(.sames rfl rfl),.nil,bS [] rfl (by decide),fun _ _=>rfl⟩ ?_ ?_
  ·exact h
  ·
   rintro ⟨n0,v10⟩ h
   cases n0 with
   | zero=>exact absurd h (by unfold cL; exact nofun)
   | succ n0 =>
    unfold cL at h
    obtain ⟨x18,hx18,h⟩:=bE h
    refine aC (cCm rfl hx18 <|aB ?_)
    refine aK <| aH h rfl (fun h=>?_) (fun h=>?_)
    ·
     refine aJ <| aE <| aK <| aU <| aC (cI rfl <|cAI rfl <|aB ?_)
     obtain ⟨x20,hx20,x21,hx21,x22,hx22,h⟩:=eood h
     refine eI rfl [nd1 [0] 16 (.slice false (a0.map aF.d)),nd1 [5] 17 (.int .i64 v10),nd1 [16,17] 18 (.fptr [.int .i64 x20.From,.int .i64 x20.To]),nd1 [18] 19 (.agg [.int .i64 x20.From,.int .i64 x20.To]),nd1 [1] 20 (.slice false (a1.map aF.d)),nd1 [5] 21 (.int .i64 v10),nd1 [20,21] 22 (.fptr [.int .i64 x21.From,.int .i64 x21.To]),nd1 [22] 23 (.agg [.int .i64 x21.From,.int .i64 x21.To]),nd1 [19,23] 24 (.bool (!x22))] rfl ?_ (by kernel_rfl) ?_
     ·refine .cons (dMv rfl) <| .cons (dMv rfl) <| .cons (lop rfl rfl fun S hA=>(cW aF (cs:=q52) rfl rfl (lb rfl) un85 jC (svaL hA rfl rfl) (svaI hA rfl rfl) hx20 rfl rfl)) <| .cons (lop rfl rfl fun S hA=>(fD (cs:=q52) rfl rfl (lb rfl) nY aCK jC (by decide) (sv (d:=.fptr q52) (agr hA rfl rfl)) (nle rfl) rfl)) <| .cons (dMv rfl) <| .cons (dMv rfl) <| .cons (lop rfl rfl fun S hA=>(cW aF (cs:=q52) rfl rfl (lb rfl) un85 jC (svaL hA rfl rfl) (svaI hA rfl rfl) hx21 rfl rfl)) <| .cons (lop rfl rfl fun S hA=>(fD (cs:=q52) rfl rfl (lb rfl) nY aCK jC (by decide) (sv (d:=.fptr q52) (agr hA rfl rfl)) (nle rfl) rfl)) <| .cons (lop rfl rfl fun S hA=>(aFC rfl rfl (lb rfl) nY st249.1 st249.2 (svaA q52 hA rfl rfl) (svaA q52 hA rfl rfl) (congrArg some hx22))) ?_
      exact .nil
     refine aH h rfl (fun h=>?_) (fun h=>?_)
     ·
      refine aC (cAs (.bool false) rfl <|aB ?_)
      refine aI <| bJ <| aQ <| aQ <| bJ <| aQ ?_
      obtain rfl:=Option.some.inj h
      refine ⟨.inr rfl,(.cons (sv rfl) .nil)⟩
     ·
      refine aJ <| bM <| aE ?_
      obtain ⟨x24,hx24,h⟩:=bE h
      refine aR (aA rfl (bB rfl rfl (lb rfl) (svI rfl) (sv (d:=.int _ 1) rfl) rfl hx24) <|cI rfl <|bK ?_)
      refine aE ⟨(n0,x24),(fun i=>i),⟨(.sames rfl rfl),.nil,bS [] rfl (by decide),fun _ _=>rfl⟩,?_,?_⟩
      exact h
      exact Nat.lt_succ_self _
    ·
     refine cC <| aW <| aW <| cD <| aE <| aC (cAs (.bool true) rfl <|aB ?_)
     refine aI ?_
     obtain rfl:=Option.some.inj h
     refine ⟨.inr rfl,(.cons (sv rfl) .nil)⟩

theorem aBo (a0 : (List aG)) (a1 : (List aG)) (r : Bool) (h : qB a0 a1 = some r) : bR Tryz.prog 126 [.slice false (a0.map aF.d),.slice false (a1.map aF.d)] (.bool r):=by
 refine aN (rs:=[.bool r]) Tryz.func126 rfl Tryz.ntmps126 (nle rfl) rfl fun O hO=>?_
 show IWP _ _ _ _ ⟨[(0,.slice false (a0.map aF.d)),(1,.slice false (a1.map aF.d))],[]⟩ _
 unfold qB at h
 refine aC (cAs (.bool false) rfl <|aB ?_)
 obtain ⟨x1,hx1,h⟩:=bT h
 refine aC (aA rfl (mvL rfl rfl rfl rfl) <|aA rfl (mvL rfl rfl rfl rfl) <|aA rfl (aL (r:=.bool _) rfl rfl (lb rfl) cl146 (.cons (svL rfl) (.cons (svL rfl) .nil)) rfl (lM _ _ _ hx1)) <|cAB rfl <|aB ?_)
 refine aI ?_
 obtain rfl:=Option.some.inj h
 refine ⟨.inr rfl,(.cons (sv rfl) .nil)⟩

theorem wD (a0 : cJ) (a1 : bX) (a2 : Int) (r : Bool) (h : kH a0 a1 a2 = some r) : bR Tryz.prog 109 [.agg (tv7 a0),.agg (tv19 a1),.int .i64 a2] (.bool r):=by
 refine aN (rs:=[.bool r]) Tryz.func109 rfl Tryz.ntmps109 (nle rfl) rfl fun O hO=>?_
 show IWP _ _ _ _ ⟨[(0,.agg (tv7 a0)),(1,.agg (tv19 a1)),(2,.int .i64 a2)],[]⟩ _
 unfold kH at h
 refine aC (cBx (cs:=q34) q34 0 rfl <|cBx (cs:=q46) q46 1 rfl <|cAs (.bool false) rfl <|aB ?_)
 refine aK ?_
 obtain ⟨x1,hx1,x2,hx2,x3,hx3,h⟩:=eddd h
 obtain ⟨x4,hx4,x5,hx5,x6,hx6,h⟩:=eddo h
 obtain ⟨x7,hx7,h⟩:=bE h
 refine aC (cFa 0 rO rfl ti3 rfl <|cLd (d:=.int _ _) un3 ag3 ti3 rfl <|cI rfl <|cCm rfl hx1 <|cB rfl <|gG rfl (fun hb=>(tFa 1 rO rfl ti3 rfl)) <|gG rfl (fun hb=>(tLc (d:=.int _ _) un3 ag3 ti3 rfl hb)) <|gG rfl (fun hb=>(tFa 0 rO rfl ti3 rfl)) <|gG rfl (fun hb=>(tLc (d:=.int _ _) un3 ag3 ti3 rfl hb)) <|gG rfl (fun hb=>(tCh rfl hb hx2)) <|cOr rfl hx3 <|cB rfl <|gG rfl (fun hb=>(tFa 1 rO rfl ti3 rfl)) <|gG rfl (fun hb=>(tLc (d:=.int _ _) un3 ag3 ti3 rfl hb)) <|gG rfl (fun hb=>(tFa 2 un87 rfl ti3 rfl)) <|gG rfl (fun hb=>(tLc (d:=.int _ _) un3 ag3 ti3 rfl hb)) <|gG rfl (fun hb=>(tCh rfl hb hx4)) <|cOr rfl hx5 <|cB rfl <|gG rfl (fun hb=>(tFa 2 rO rfl ti3 rfl)) <|gG rfl (fun hb=>(tLc (d:=.int _ _) un3 ag3 ti3 rfl hb)) <|gG rfl (fun hb=>(aL (r:=.bool _) rfl rfl (lb rfl) cl125 (.cons (svcI rfl hb) .nil) rfl (aCZ _ _ (gd_t hx6 hb)))) <|gG rfl (fun hb=>(dJ rfl rfl (lb rfl) (svcB rfl hb))) <|cOr rfl hx7 <|aB ?_)
 refine aH h rfl (fun h=>?_) (fun h=>?_)
 ·
  refine aC (cAs (.bool false) rfl <|aB ?_)
  refine aI <| aQ ?_
  obtain rfl:=Option.some.inj h
  refine ⟨.inr rfl,(.cons (sv rfl) .nil)⟩
 ·
  refine aJ <| aE <| aK ?_
  obtain ⟨x9,hx9,h⟩:=bE h
  refine aC (cFa 0 rO rfl ti3 rfl <|cLd (d:=.int _ _) un3 ag3 ti3 rfl <|cFa 1 rO rfl ti3 rfl <|cLd (d:=.int _ _) un3 ag3 ti3 rfl <|cCm rfl hx9 <|aB ?_)
  refine aH h rfl (fun h=>?_) (fun h=>?_)
  ·
   refine aC (cFa 3 rO rfl ti4 rfl <|cLd (d:=.bool _) un4 ag4 ti4 rfl <|cAB rfl <|aB ?_)
   refine aI <| aQ ?_
   obtain rfl:=Option.some.inj h
   refine ⟨.inr rfl,(.cons (sv rfl) .nil)⟩
  ·
   refine aJ <| aE ?_
   obtain ⟨x11,hx11,x12,hx12,x13,hx13,h⟩:=eooo h
   obtain ⟨x14,hx14,h⟩:=bT h
   refine eI rfl [nd1 [3] 38 (.ref 0 4),nd2 [38] [0] 39 (.slice false (a0.Lost.map aF.d)),nd2 [4] [1] 40 (.agg (tv19 a1)),nd1 [40] 41 (.agg [.int .i64 x11.From,.int .i64 x11.To]),nd1 [39,41] 42 (.slice false (x12.map aF.d)),nd2 [4] [1] 43 (.agg (tv19 a1)),nd1 [43] 44 (.agg [.int .i64 x13.From,.int .i64 x13.To]),⟨[44],[2],[(45,.gsl 2 aF.sz ((([(⟨x13.From,x13.To⟩ : aG)] : (List aG))).map aF.d))],[(2,.tail 249 aF.sz (([(⟨x13.From,x13.To⟩ : aG)] : (List aG))).length)]⟩,nd1 [42,45] 46 (.bool x14),nd1 [46] 6 (.bool x14)] rfl ?_ (by kernel_rfl) ?_
   ·refine .cons (dFa 4 un87 rfl ti85 rfl) <| .cons (dLd un85 ag85 ti85 rfl) <| .cons (dLa rO aFk vV rfl) <| .cons (lop rfl rfl fun S hA=>(aL (r:=.agg q52) rfl rfl (lb rfl) cl128 (.cons (svaA q46 hA rfl rfl) .nil) rfl (qA _ _ hx11))) <| .cons (lop rfl rfl fun S hA=>(aL (r:=.slice _ _) rfl rfl (lb rfl) cl127 (.cons (svaL hA rfl rfl) (.cons (svaA q52 hA rfl rfl) .nil)) rfl (aBp _ _ _ hx12))) <| .cons (dLa rO aFk vV rfl) <| .cons (lop rfl rfl fun S hA=>(aL (r:=.agg q52) rfl rfl (lb rfl) cl128 (.cons (svaA q46 hA rfl rfl) .nil) rfl (qA _ _ hx13))) <| .cons (lop rfl rfl fun S hA=>(mM aF ([(⟨x13.From,x13.To⟩ : aG)] : (List aG)) 2 rfl rfl (lb rfl) un85 jC (agi hA rfl rfl) (.cons (svaA q52 hA rfl rfl) .nil) rfl rfl (by decide))) <| .cons (lop rfl rfl fun S hA=>(aL (r:=.bool _) rfl rfl (lb rfl) cl126 (.cons (svaL hA rfl rfl) (.cons (svg (agr hA rfl rfl)) .nil)) rfl (aBo _ _ _ hx14))) <| .cons (lop rfl rfl fun S hA=>(bV rfl rfl (lb rfl) (svaB hA rfl rfl))) ?_
    exact .nil
   refine aI ?_
   obtain rfl:=Option.some.inj h
   refine ⟨.inr rfl,(.cons (sv rfl) .nil)⟩

theorem oB (a0 : cJ) (r : Int) (h : iP a0 = some r) : bR Tryz.prog 103 [.agg (tv7 a0)] (.int .i64 r):=by
 refine aN (rs:=[.int .i64 r]) Tryz.func103 rfl Tryz.ntmps103 (nle rfl) rfl fun O hO=>?_
 show IWP _ _ _ _ ⟨[(0,.agg (tv7 a0))],[]⟩ _
 unfold iP at h
 refine aC (cBx (cs:=q34) q34 0 rfl <|cAs (.int _ 0) rfl <|aB ?_)
 obtain ⟨x1,hx1,h⟩:=bE h
 refine aC (cFa 0 un87 rfl ti3 rfl <|cLd (d:=.int _ _) un3 ag3 ti3 rfl <|cFa 1 un87 rfl ti9 rfl <|cLd (d:=.str _) un9 ag9 ti9 rfl <|aA rfl (cQ rfl rfl (lb rfl) un9 (sv (d:=.str _) rfl) rfl) <|aA rfl (bB rfl rfl (lb rfl) (svI rfl) (svI rfl) rfl hx1) <|cAI rfl <|aB ?_)
 refine aI ?_
 obtain rfl:=Option.some.inj h
 refine ⟨.inr rfl,(.cons (sv rfl) .nil)⟩
end Go.Proofs.YtgooaecafbjhjaaGreatDoor
