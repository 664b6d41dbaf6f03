/-
  A part of the proof: rules and plain facts. No condition.
-/
import Derived.Shelf.Sort.Plain
import Derived.Shelf.SlSortCmp.WholeK
import Derived.Test.YtknpfbfkaccgmaaGreatProg
import Derived.WalkKit
import Derived.Test.YtknpfbfkaccgmaaGreatIlA34tD
set_option linter.all false
namespace Go.Proofs
open Go.Shelf
def Tryz.lays189_ren:Go.Shelf.Ren:=⟨fun | 189=>48 | 125=>74 | 257=>76 | 128=>98 | 129=>99 | 294=>100 | 295=>101 | 296=>102 | 297=>103 | 298=>104 | 299=>105 | 216=>106 | 300=>107 | 301=>108 | 328=>117 | 329=>113 | 330=>114 | 331=>118 | 332=>119 | 215=>120 | 343=>123 | n=>n,fun | 28=>30 | 3=>3 | 46=>117 | 0=>0 | 51=>137 | 53=>139 | 4=>4 | 183=>131 | 182=>130 | 131=>71 | 5=>5 | 9=>9 | 218=>147 | 222=>122 | 228=>155 | 229=>156 | n=>n,fun | n=>n⟩
theorem Tryz.lays189:Go.Proofs.Lays.n189 Tryz.prog Tryz.lays189_ren:={
 mixed:=by kernel_rfl
 f125:=Tryz.func74.trans (congrArg some (by kernel_rfl))
 f128:=Tryz.func98.trans (congrArg some (by kernel_rfl))
 f129:=Tryz.func99.trans (congrArg some (by kernel_rfl))
 f189:=Tryz.func48.trans (congrArg some (by kernel_rfl))
 f215:=Tryz.func120.trans (congrArg some (by kernel_rfl))
 f216:=Tryz.func106.trans (congrArg some (by kernel_rfl))
 f257:=Tryz.func76.trans (congrArg some (by kernel_rfl))
 f294:=Tryz.func100.trans (congrArg some (by kernel_rfl))
 f295:=Tryz.func101.trans (congrArg some (by kernel_rfl))
 f296:=Tryz.func102.trans (congrArg some (by kernel_rfl))
 f297:=Tryz.func103.trans (congrArg some (by kernel_rfl))
 f298:=Tryz.func104.trans (congrArg some (by kernel_rfl))
 f299:=Tryz.func105.trans (congrArg some (by kernel_rfl))
 f300:=Tryz.func107.trans (congrArg some (by kernel_rfl))
 f301:=Tryz.func108.trans (congrArg some (by kernel_rfl))
 f328:=Tryz.func117.trans (congrArg some (by kernel_rfl))
 f329:=Tryz.func113.trans (congrArg some (by kernel_rfl))
 f330:=Tryz.func114.trans (congrArg some (by kernel_rfl))
 f331:=Tryz.func118.trans (congrArg some (by kernel_rfl))
 f332:=Tryz.func119.trans (congrArg some (by kernel_rfl))
 f343:=Tryz.func123.trans (congrArg some (by kernel_rfl))
 t0:=Tryz.underlying0
 a0:=Tryz.isAgg0
 z0:=Tryz.sizeOf0
 v0:=Tryz.zeroValue0
 t3:=Tryz.underlying3
 a3:=Tryz.isAgg3
 z3:=Tryz.sizeOf3
 v3:=Tryz.zeroValue3
 t4:=Tryz.underlying4
 a4:=Tryz.isAgg4
 z4:=Tryz.sizeOf4
 v4:=Tryz.zeroValue4
 t5:=Tryz.underlying5
 a5:=Tryz.isAgg5
 z5:=Tryz.sizeOf5
 v5:=Tryz.zeroValue5
 t9:=Tryz.underlying9
 a9:=Tryz.isAgg9
 z9:=Tryz.sizeOf9
 v9:=Tryz.zeroValue9
 t28:=Tryz.underlying30
 a28:=Tryz.isAgg30
 z28:=Tryz.sizeOf30
 v28:=Tryz.zeroValue30
 t46:=Tryz.underlying117
 a46:=Tryz.isAgg117
 z46:=Tryz.sizeOf117
 v46:=Tryz.zeroValue117
 t51:=Tryz.underlying137
 a51:=Tryz.isAgg137
 z51:=Tryz.sizeOf137
 v51:=Tryz.zeroValue137
 t53:=Tryz.underlying139
 a53:=Tryz.isAgg139
 z53:=Tryz.sizeOf139
 v53:=Tryz.zeroValue139
 t131:=Tryz.underlying71
 a131:=Tryz.isAgg71
 z131:=Tryz.sizeOf71
 v131:=Tryz.zeroValue71
 t182:=Tryz.underlying130
 a182:=Tryz.isAgg130
 z182:=Tryz.sizeOf130
 v182:=Tryz.zeroValue130
 t183:=Tryz.underlying131
 a183:=Tryz.isAgg131
 z183:=Tryz.sizeOf131
 v183:=Tryz.zeroValue131
 t218:=Tryz.underlying147
 a218:=Tryz.isAgg147
 z218:=Tryz.sizeOf147
 v218:=Tryz.zeroValue147
 t222:=Tryz.underlying122
 a222:=Tryz.isAgg122
 z222:=Tryz.sizeOf122
 v222:=Tryz.zeroValue122
 t228:=Tryz.underlying155
 a228:=Tryz.isAgg155
 z228:=Tryz.sizeOf155
 v228:=Tryz.zeroValue155
 t229:=Tryz.underlying156
 a229:=Tryz.isAgg156
 z229:=Tryz.sizeOf156
 v229:=Tryz.zeroValue156 }
def Tryz.laysF_ren:Go.Shelf.Ren:=⟨fun | 6=>42 | 15=>74 | 14=>73 | 28=>98 | 29=>99 | 20=>90 | 21=>91 | 22=>92 | 23=>93 | 24=>94 | 25=>95 | 26=>96 | 27=>97 | 46=>112 | 47=>113 | 48=>114 | 49=>115 | 50=>116 | 57=>122 | n=>n,fun | 22=>29 | 24=>53 | 25=>85 | 3=>3 | 39=>117 | 0=>0 | 53=>137 | 55=>139 | 4=>4 | 46=>131 | 45=>130 | 50=>71 | 5=>5 | 9=>9 | 66=>147 | 70=>122 | 76=>155 | 77=>156 | n=>n,fun | n=>n⟩
theorem Tryz.laysF:Go.Proofs.SlLaysF0.n6 Tryz.prog Tryz.laysF_ren:={
 mixed:=by kernel_rfl
 f6:=⟨Tryz.f42.name,by decide,Tryz.func42.trans (congrArg some (by kernel_rfl))⟩
 f14:=⟨Tryz.f73.name,by decide,Tryz.func73.trans (congrArg some (by kernel_rfl))⟩
 f15:=Tryz.func74.trans (congrArg some (by kernel_rfl))
 f20:=⟨Tryz.f90.name,by decide,Tryz.func90.trans (congrArg some (by kernel_rfl))⟩
 f21:=⟨Tryz.f91.name,by decide,Tryz.func91.trans (congrArg some (by kernel_rfl))⟩
 f22:=⟨Tryz.f92.name,by decide,Tryz.func92.trans (congrArg some (by kernel_rfl))⟩
 f23:=⟨Tryz.f93.name,by decide,Tryz.func93.trans (congrArg some (by kernel_rfl))⟩
 f24:=⟨Tryz.f94.name,by decide,Tryz.func94.trans (congrArg some (by kernel_rfl))⟩
 f25:=⟨Tryz.f95.name,by decide,Tryz.func95.trans (congrArg some (by kernel_rfl))⟩
 f26:=⟨Tryz.f96.name,by decide,Tryz.func96.trans (congrArg some (by kernel_rfl))⟩
 f27:=⟨Tryz.f97.name,by decide,Tryz.func97.trans (congrArg some (by kernel_rfl))⟩
 f28:=Tryz.func98.trans (congrArg some (by kernel_rfl))
 f29:=Tryz.func99.trans (congrArg some (by kernel_rfl))
 f46:=⟨Tryz.f112.name,by decide,Tryz.func112.trans (congrArg some (by kernel_rfl))⟩
 f47:=Tryz.func113.trans (congrArg some (by kernel_rfl))
 f48:=Tryz.func114.trans (congrArg some (by kernel_rfl))
 f49:=⟨Tryz.f115.name,by decide,Tryz.func115.trans (congrArg some (by kernel_rfl))⟩
 f50:=⟨Tryz.f116.name,by decide,Tryz.func116.trans (congrArg some (by kernel_rfl))⟩
 f57:=⟨Tryz.f122.name,by decide,Tryz.func122.trans (congrArg some (by kernel_rfl))⟩
 t0:=Tryz.underlying0
 a0:=Tryz.isAgg0
 z0:=Tryz.sizeOf0
 v0:=Tryz.zeroValue0
 t3:=Tryz.underlying3
 a3:=Tryz.isAgg3
 z3:=Tryz.sizeOf3
 v3:=Tryz.zeroValue3
 t4:=Tryz.underlying4
 a4:=Tryz.isAgg4
 z4:=Tryz.sizeOf4
 v4:=Tryz.zeroValue4
 t5:=Tryz.underlying5
 a5:=Tryz.isAgg5
 z5:=Tryz.sizeOf5
 v5:=Tryz.zeroValue5
 t9:=Tryz.underlying9
 a9:=Tryz.isAgg9
 z9:=Tryz.sizeOf9
 v9:=Tryz.zeroValue9
 t22:=Tryz.underlying29
 a22:=Tryz.isAgg29
 z22:=Tryz.sizeOf29
 v22:=Tryz.zeroValue29
 t25:=Tryz.underlying85
 a25:=Tryz.isAgg85
 z25:=Tryz.sizeOf85
 v25:=Tryz.zeroValue85
 t39:=Tryz.underlying117
 a39:=Tryz.isAgg117
 z39:=Tryz.sizeOf117
 v39:=Tryz.zeroValue117
 t45:=Tryz.underlying130
 a45:=Tryz.isAgg130
 z45:=Tryz.sizeOf130
 v45:=Tryz.zeroValue130
 t46:=Tryz.underlying131
 a46:=Tryz.isAgg131
 z46:=Tryz.sizeOf131
 v46:=Tryz.zeroValue131
 t50:=Tryz.underlying71
 a50:=Tryz.isAgg71
 z50:=Tryz.sizeOf71
 v50:=Tryz.zeroValue71
 t53:=Tryz.underlying137
 a53:=Tryz.isAgg137
 z53:=Tryz.sizeOf137
 v53:=Tryz.zeroValue137
 t55:=Tryz.underlying139
 a55:=Tryz.isAgg139
 z55:=Tryz.sizeOf139
 v55:=Tryz.zeroValue139
 t66:=Tryz.underlying147
 a66:=Tryz.isAgg147
 z66:=Tryz.sizeOf147
 v66:=Tryz.zeroValue147
 t70:=Tryz.underlying122
 a70:=Tryz.isAgg122
 z70:=Tryz.sizeOf122
 v70:=Tryz.zeroValue122
 t76:=Tryz.underlying155
 a76:=Tryz.isAgg155
 z76:=Tryz.sizeOf155
 v76:=Tryz.zeroValue155
 t77:=Tryz.underlying156
 a77:=Tryz.isAgg156
 z77:=Tryz.sizeOf156
 v77:=Tryz.zeroValue156 }
end Go.Proofs
open Go Go.IL Go.Proofs Go.Fn Go.Sort Go.RowKit
namespace Go.Proofs.YtknpfbfkaccgmaaGreat
theorem p_sortI (a0:List Int) (r:List Int) (h:aB0 a0=some r):FnH Tryz.prog 48 [.osl 1000 (eInt .i64).sz a0.length] [(1000,.blk 3 (D.flat (a0.map (eInt .i64).d)))] (retD []) [(1000,.blk 3 (D.flat (r.map (eInt .i64).d)))] :=
 aCz Tryz.lays189 a0 r h
def aC5 (x:aH):List Value:=[.int .i64 x.ID,.int .i64 x.Parent,.int .i64 x.Weight,.bool x.Closed]
set_option maxHeartbeats 1000000 in
theorem cmpNode (a b c e f g:Int) (p q:Bool) (W:World) (ha:0 ≤ a ∧ a ≤ 1048576) (he:0 ≤ e ∧ e ≤ 1048576):Calls Tryz.prog 43 #[.agg #[.int .i64 a,.int .i64 b,.int .i64 c,.bool p],.agg #[.int .i64 e,.int .i64 f,.int .i64 g,.bool q]] W fun e' w'=>e' = .returned (.int .i64 (a - e)) ∧ ∃ q os',w'=grow (W.drewN q) os':=by
 have hw:IntKind.wrap .i64 (a - e)=a - e:=w64 (by omega) (by omega)
 generalize hr:a - e=r at hw ⊢
 go_enter Tryz.func43,Tryz.ntmps43
 go_wp2
 first | rw [hr,hw] | simp only [hr,hw] | skip
 go_ret
 exact ⟨by first | rfl | simp [hr,hw],0,_,by rw [alloc_eq_grow,alloc_eq_grow,grow_grow]; rfl⟩
theorem p_sortN (a0:List aH) (r:List aH) (h:aAZ (fun x=>x.ID) (fun x=>decide (0 ≤ x.ID) && decide (x.ID ≤ 1048576)) a0=some r):FnH Tryz.prog 42 [.osl 1000 aC.sz a0.length,.fn 43 []] [(1000,.blk 53 (D.flat (a0.map aC.d)))] (retD []) [(1000,.blk 53 (D.flat (r.map aC.d)))]:=by
 have eg:∀ args w,(callFunc 43 args).run Tryz.prog w = .ok (.enter 43 args) w:=enters_of Tryz.func43 (by kernel_rfl) rfl
 refine aC0 Tryz.laysF aC aC5 (fun x=>x.ID) (fun x=>decide (0 ≤ x.ID) && decide (x.ID ≤ 1048576)) rfl Tryz.isAgg53 Tryz.sizeOf53 (fun _=>rfl) (fun x v hv=>?_) (fun E β x vs h=>?_) (fun E β x=>?_) eg (fun x y W hx hy=>?_) a0 r h
 · simp only [aC5,List.mem_cons,List.not_mem_nil,or_false] at hv
   rcases hv with rfl | rfl | rfl | rfl <;> rfl
 · have h:RdL E β vs [.int .i64 x.ID,.int .i64 x.Parent,.int .i64 x.Weight,.bool x.Closed]:=h
   cases h with | cons h1 h=>cases h with | cons h2 h=>cases h with | cons h3 h=>cases h with | cons h4 h =>
    cases h
    cases h4
    rw [jO h1,jO h2,jO h3]; rfl
 · exact .cons (.int _ _ _) (.cons (.int _ _ _) (.cons (.int _ _ _) (.cons (.bool _ _) (.nil _))))
 · simp only [Bool.and_eq_true,decide_eq_true_iff] at hx hy
   exact cmpNode x.ID x.Parent x.Weight y.ID y.Parent y.Weight x.Closed y.Closed W hx hy
end Go.Proofs.YtknpfbfkaccgmaaGreat
