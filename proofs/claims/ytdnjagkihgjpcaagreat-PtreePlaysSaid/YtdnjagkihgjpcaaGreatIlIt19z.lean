/-
  A part of the proof: rules and plain facts. No condition.
-/
import Derived.Shelf.Sort.Plain
import Derived.Shelf.SlSortCmp.WholeK
import Derived.Test.YtdnjagkihgjpcaaGreatProg
import Derived.WalkKit
import Derived.Test.YtdnjagkihgjpcaaGreatIlA19zD
set_option linter.all false
namespace Go.Proofs
open Go.Shelf
def Tryz.lays189_ren:Go.Shelf.Ren:=⟨fun | 189=>36 | 125=>51 | 257=>52 | 128=>78 | 129=>79 | 294=>80 | 295=>81 | 296=>82 | 297=>83 | 298=>84 | 299=>85 | 216=>86 | 300=>87 | 301=>88 | 328=>100 | 329=>96 | 330=>97 | 331=>101 | 332=>102 | 215=>103 | 343=>107 | n=>n,fun | 28=>24 | 3=>3 | 46=>91 | 0=>0 | 51=>117 | 53=>119 | 4=>4 | 183=>110 | 182=>109 | 131=>114 | 5=>5 | 9=>9 | 218=>128 | 222=>93 | 228=>137 | 229=>138 | n=>n,fun | n=>n⟩
theorem Tryz.lays189:Go.Proofs.Lays.n189 Tryz.prog Tryz.lays189_ren:={
 mixed:=by kernel_rfl
 f125:=Tryz.func51.trans (congrArg some (by kernel_rfl))
 f128:=Tryz.func78.trans (congrArg some (by kernel_rfl))
 f129:=Tryz.func79.trans (congrArg some (by kernel_rfl))
 f189:=Tryz.func36.trans (congrArg some (by kernel_rfl))
 f215:=Tryz.func103.trans (congrArg some (by kernel_rfl))
 f216:=Tryz.func86.trans (congrArg some (by kernel_rfl))
 f257:=Tryz.func52.trans (congrArg some (by kernel_rfl))
 f294:=Tryz.func80.trans (congrArg some (by kernel_rfl))
 f295:=Tryz.func81.trans (congrArg some (by kernel_rfl))
 f296:=Tryz.func82.trans (congrArg some (by kernel_rfl))
 f297:=Tryz.func83.trans (congrArg some (by kernel_rfl))
 f298:=Tryz.func84.trans (congrArg some (by kernel_rfl))
 f299:=Tryz.func85.trans (congrArg some (by kernel_rfl))
 f300:=Tryz.func87.trans (congrArg some (by kernel_rfl))
 f301:=Tryz.func88.trans (congrArg some (by kernel_rfl))
 f328:=Tryz.func100.trans (congrArg some (by kernel_rfl))
 f329:=Tryz.func96.trans (congrArg some (by kernel_rfl))
 f330:=Tryz.func97.trans (congrArg some (by kernel_rfl))
 f331:=Tryz.func101.trans (congrArg some (by kernel_rfl))
 f332:=Tryz.func102.trans (congrArg some (by kernel_rfl))
 f343:=Tryz.func107.trans (congrArg some (by kernel_rfl))
 t0:=Tryz.underlying0
 a0:=Tryz.isAgg0
 z0:=Tryz.sizeOf0
 v0:=Tryz.zeroValue0
 t3:=Tryz.underlying3
 a3:=Tryz.isAgg3
 z3:=Tryz.sizeOf3
 v3:=Tryz.zeroValue3
 t4:=Tryz.underlying4
 a4:=Tryz.isAgg4
 z4:=Tryz.sizeOf4
 v4:=Tryz.zeroValue4
 t5:=Tryz.underlying5
 a5:=Tryz.isAgg5
 z5:=Tryz.sizeOf5
 v5:=Tryz.zeroValue5
 t9:=Tryz.underlying9
 a9:=Tryz.isAgg9
 z9:=Tryz.sizeOf9
 v9:=Tryz.zeroValue9
 t28:=Tryz.underlying24
 a28:=Tryz.isAgg24
 z28:=Tryz.sizeOf24
 v28:=Tryz.zeroValue24
 t46:=Tryz.underlying91
 a46:=Tryz.isAgg91
 z46:=Tryz.sizeOf91
 v46:=Tryz.zeroValue91
 t51:=Tryz.underlying117
 a51:=Tryz.isAgg117
 z51:=Tryz.sizeOf117
 v51:=Tryz.zeroValue117
 t53:=Tryz.underlying119
 a53:=Tryz.isAgg119
 z53:=Tryz.sizeOf119
 v53:=Tryz.zeroValue119
 t131:=Tryz.underlying114
 a131:=Tryz.isAgg114
 z131:=Tryz.sizeOf114
 v131:=Tryz.zeroValue114
 t182:=Tryz.underlying109
 a182:=Tryz.isAgg109
 z182:=Tryz.sizeOf109
 v182:=Tryz.zeroValue109
 t183:=Tryz.underlying110
 a183:=Tryz.isAgg110
 z183:=Tryz.sizeOf110
 v183:=Tryz.zeroValue110
 t218:=Tryz.underlying128
 a218:=Tryz.isAgg128
 z218:=Tryz.sizeOf128
 v218:=Tryz.zeroValue128
 t222:=Tryz.underlying93
 a222:=Tryz.isAgg93
 z222:=Tryz.sizeOf93
 v222:=Tryz.zeroValue93
 t228:=Tryz.underlying137
 a228:=Tryz.isAgg137
 z228:=Tryz.sizeOf137
 v228:=Tryz.zeroValue137
 t229:=Tryz.underlying138
 a229:=Tryz.isAgg138
 z229:=Tryz.sizeOf138
 v229:=Tryz.zeroValue138 }
def Tryz.laysF_ren:Go.Shelf.Ren:=⟨fun | 6=>33 | 15=>51 | 14=>50 | 28=>78 | 29=>79 | 20=>70 | 21=>71 | 22=>72 | 23=>73 | 24=>74 | 25=>75 | 26=>76 | 27=>77 | 46=>95 | 47=>96 | 48=>97 | 49=>98 | 50=>99 | 57=>106 | n=>n,fun | 22=>41 | 24=>65 | 25=>69 | 3=>3 | 39=>91 | 0=>0 | 53=>117 | 55=>119 | 4=>4 | 46=>110 | 45=>109 | 50=>114 | 5=>5 | 9=>9 | 66=>128 | 70=>93 | 76=>137 | 77=>138 | n=>n,fun | n=>n⟩
theorem Tryz.laysF:Go.Proofs.SlLaysF0.n6 Tryz.prog Tryz.laysF_ren:={
 mixed:=by kernel_rfl
 f6:=⟨Tryz.f33.name,by decide,Tryz.func33.trans (congrArg some (by kernel_rfl))⟩
 f14:=⟨Tryz.f50.name,by decide,Tryz.func50.trans (congrArg some (by kernel_rfl))⟩
 f15:=Tryz.func51.trans (congrArg some (by kernel_rfl))
 f20:=⟨Tryz.f70.name,by decide,Tryz.func70.trans (congrArg some (by kernel_rfl))⟩
 f21:=⟨Tryz.f71.name,by decide,Tryz.func71.trans (congrArg some (by kernel_rfl))⟩
 f22:=⟨Tryz.f72.name,by decide,Tryz.func72.trans (congrArg some (by kernel_rfl))⟩
 f23:=⟨Tryz.f73.name,by decide,Tryz.func73.trans (congrArg some (by kernel_rfl))⟩
 f24:=⟨Tryz.f74.name,by decide,Tryz.func74.trans (congrArg some (by kernel_rfl))⟩
 f25:=⟨Tryz.f75.name,by decide,Tryz.func75.trans (congrArg some (by kernel_rfl))⟩
 f26:=⟨Tryz.f76.name,by decide,Tryz.func76.trans (congrArg some (by kernel_rfl))⟩
 f27:=⟨Tryz.f77.name,by decide,Tryz.func77.trans (congrArg some (by kernel_rfl))⟩
 f28:=Tryz.func78.trans (congrArg some (by kernel_rfl))
 f29:=Tryz.func79.trans (congrArg some (by kernel_rfl))
 f46:=⟨Tryz.f95.name,by decide,Tryz.func95.trans (congrArg some (by kernel_rfl))⟩
 f47:=Tryz.func96.trans (congrArg some (by kernel_rfl))
 f48:=Tryz.func97.trans (congrArg some (by kernel_rfl))
 f49:=⟨Tryz.f98.name,by decide,Tryz.func98.trans (congrArg some (by kernel_rfl))⟩
 f50:=⟨Tryz.f99.name,by decide,Tryz.func99.trans (congrArg some (by kernel_rfl))⟩
 f57:=⟨Tryz.f106.name,by decide,Tryz.func106.trans (congrArg some (by kernel_rfl))⟩
 t0:=Tryz.underlying0
 a0:=Tryz.isAgg0
 z0:=Tryz.sizeOf0
 v0:=Tryz.zeroValue0
 t3:=Tryz.underlying3
 a3:=Tryz.isAgg3
 z3:=Tryz.sizeOf3
 v3:=Tryz.zeroValue3
 t4:=Tryz.underlying4
 a4:=Tryz.isAgg4
 z4:=Tryz.sizeOf4
 v4:=Tryz.zeroValue4
 t5:=Tryz.underlying5
 a5:=Tryz.isAgg5
 z5:=Tryz.sizeOf5
 v5:=Tryz.zeroValue5
 t9:=Tryz.underlying9
 a9:=Tryz.isAgg9
 z9:=Tryz.sizeOf9
 v9:=Tryz.zeroValue9
 t22:=Tryz.underlying41
 a22:=Tryz.isAgg41
 z22:=Tryz.sizeOf41
 v22:=Tryz.zeroValue41
 t25:=Tryz.underlying69
 a25:=Tryz.isAgg69
 z25:=Tryz.sizeOf69
 v25:=Tryz.zeroValue69
 t39:=Tryz.underlying91
 a39:=Tryz.isAgg91
 z39:=Tryz.sizeOf91
 v39:=Tryz.zeroValue91
 t45:=Tryz.underlying109
 a45:=Tryz.isAgg109
 z45:=Tryz.sizeOf109
 v45:=Tryz.zeroValue109
 t46:=Tryz.underlying110
 a46:=Tryz.isAgg110
 z46:=Tryz.sizeOf110
 v46:=Tryz.zeroValue110
 t50:=Tryz.underlying114
 a50:=Tryz.isAgg114
 z50:=Tryz.sizeOf114
 v50:=Tryz.zeroValue114
 t53:=Tryz.underlying117
 a53:=Tryz.isAgg117
 z53:=Tryz.sizeOf117
 v53:=Tryz.zeroValue117
 t55:=Tryz.underlying119
 a55:=Tryz.isAgg119
 z55:=Tryz.sizeOf119
 v55:=Tryz.zeroValue119
 t66:=Tryz.underlying128
 a66:=Tryz.isAgg128
 z66:=Tryz.sizeOf128
 v66:=Tryz.zeroValue128
 t70:=Tryz.underlying93
 a70:=Tryz.isAgg93
 z70:=Tryz.sizeOf93
 v70:=Tryz.zeroValue93
 t76:=Tryz.underlying137
 a76:=Tryz.isAgg137
 z76:=Tryz.sizeOf137
 v76:=Tryz.zeroValue137
 t77:=Tryz.underlying138
 a77:=Tryz.isAgg138
 z77:=Tryz.sizeOf138
 v77:=Tryz.zeroValue138 }
end Go.Proofs
open Go Go.IL Go.Proofs Go.Fn Go.Sort Go.RowKit
namespace Go.Proofs.YtdnjagkihgjpcaaGreat
theorem p_sortI (a0:List Int) (r:List Int) (h:yE a0=some r):FnH Tryz.prog 36 [.osl 1000 (eInt .i64).sz a0.length] [(1000,.blk 3 (D.flat (a0.map (eInt .i64).d)))] (retD []) [(1000,.blk 3 (D.flat (r.map (eInt .i64).d)))] :=
 aBh Tryz.lays189 a0 r h
def aBn (x:aN):List Value:=[.int .i64 x.ID,.int .i64 x.Parent,.int .i64 x.Weight,.bool x.Closed]
set_option maxHeartbeats 1000000 in
theorem cmpNode (a b c e f g:Int) (p q:Bool) (W:World) (ha:0 ≤ a ∧ a ≤ 1048576) (he:0 ≤ e ∧ e ≤ 1048576):Calls Tryz.prog 34 #[.agg #[.int .i64 a,.int .i64 b,.int .i64 c,.bool p],.agg #[.int .i64 e,.int .i64 f,.int .i64 g,.bool q]] W fun e' w'=>e' = .returned (.int .i64 (a - e)) ∧ ∃ q os',w'=grow (W.drewN q) os':=by
 have hw:IntKind.wrap .i64 (a - e)=a - e:=w64 (by omega) (by omega)
 generalize hr:a - e=r at hw ⊢
 go_enter Tryz.func34,Tryz.ntmps34
 go_wp2
 first | rw [hr,hw] | simp only [hr,hw] | skip
 go_ret
 exact ⟨by first | rfl | simp [hr,hw],0,_,by rw [alloc_eq_grow,alloc_eq_grow,grow_grow]; rfl⟩
theorem p_sortN (a0:List aN) (r:List aN) (h:yC (fun x=>x.ID) (fun x=>decide (0 ≤ x.ID) && decide (x.ID ≤ 1048576)) a0=some r):FnH Tryz.prog 33 [.osl 1000 aM.sz a0.length,.fn 34 []] [(1000,.blk 65 (D.flat (a0.map aM.d)))] (retD []) [(1000,.blk 65 (D.flat (r.map aM.d)))]:=by
 have eg:∀ args w,(callFunc 34 args).run Tryz.prog w = .ok (.enter 34 args) w:=enters_of Tryz.func34 (by kernel_rfl) rfl
 refine aBi Tryz.laysF aM aBn (fun x=>x.ID) (fun x=>decide (0 ≤ x.ID) && decide (x.ID ≤ 1048576)) rfl Tryz.isAgg65 Tryz.sizeOf65 (fun _=>rfl) (fun x v hv=>?_) (fun E β x vs h=>?_) (fun E β x=>?_) eg (fun x y W hx hy=>?_) a0 r h
 · simp only [aBn,List.mem_cons,List.not_mem_nil,or_false] at hv
   rcases hv with rfl | rfl | rfl | rfl <;> rfl
 · have h:RdL E β vs [.int .i64 x.ID,.int .i64 x.Parent,.int .i64 x.Weight,.bool x.Closed]:=h
   cases h with | cons h1 h=>cases h with | cons h2 h=>cases h with | cons h3 h=>cases h with | cons h4 h =>
    cases h
    cases h4
    rw [kG h1,kG h2,kG h3]; rfl
 · exact .cons (.int _ _ _) (.cons (.int _ _ _) (.cons (.int _ _ _) (.cons (.bool _ _) (.nil _))))
 · simp only [Bool.and_eq_true,decide_eq_true_iff] at hx hy
   exact cmpNode x.ID x.Parent x.Weight y.ID y.Parent y.Weight x.Closed y.Closed W hx hy
end Go.Proofs.YtdnjagkihgjpcaaGreat
