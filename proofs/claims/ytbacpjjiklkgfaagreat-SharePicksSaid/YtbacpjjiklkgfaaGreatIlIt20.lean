/-
  A part of the proof: rules and plain facts. No condition.
-/
import Derived.Shelf.Sort.Plain
import Derived.Shelf.SlSortCmp.WholeK
import Derived.Test.YtbacpjjiklkgfaaGreatProg
import Derived.WalkKit
import Derived.Test.YtbacpjjiklkgfaaGreatIlA20D
set_option linter.all false
open Bool renaming and_eq_true → Av
open Go renaming Value → AG
open Go.IL.D renaming flat → Ac
open Go.IntKind renaming wrap → Af
open List renaming mem_cons → Au,not_mem_nil → Bc
open _root_ renaming congrArg → AH,decide_eq_true_iff → Cq
namespace Go.Proofs
open Go.Shelf
def Tryz.lays189_ren:Go.Shelf.Ren:=⟨fun | 189=>77 | 125=>105 | 257=>104 | 128=>132 | 129=>133 | 294=>123 | 295=>124 | 296=>125 | 297=>126 | 298=>127 | 299=>128 | 216=>129 | 300=>130 | 301=>131 | 328=>153 | 329=>154 | 330=>155 | 331=>156 | 332=>157 | 215=>158 | 343=>164 | n=>n,fun | 28=>37 | 3=>3 | 46=>158 | 0=>0 | 51=>186 | 53=>188 | 4=>4 | 183=>180 | 182=>179 | 131=>113 | 5=>5 | 9=>9 | 218=>201 | 222=>170 | 228=>210 | 229=>211 | n=>n,fun | n=>n⟩
theorem Tryz.lays189:Go.Proofs.Lays.n189 Tryz.prog Tryz.lays189_ren:={
 mixed:=by kernel_rfl
 f125:=Tryz.func105.trans (AH some (by kernel_rfl))
 f128:=Tryz.func132.trans (AH some (by kernel_rfl))
 f129:=Tryz.func133.trans (AH some (by kernel_rfl))
 f189:=Tryz.func77.trans (AH some (by kernel_rfl))
 f215:=Tryz.func158.trans (AH some (by kernel_rfl))
 f216:=Tryz.func129.trans (AH some (by kernel_rfl))
 f257:=Tryz.func104.trans (AH some (by kernel_rfl))
 f294:=Tryz.func123.trans (AH some (by kernel_rfl))
 f295:=Tryz.func124.trans (AH some (by kernel_rfl))
 f296:=Tryz.func125.trans (AH some (by kernel_rfl))
 f297:=Tryz.func126.trans (AH some (by kernel_rfl))
 f298:=Tryz.func127.trans (AH some (by kernel_rfl))
 f299:=Tryz.func128.trans (AH some (by kernel_rfl))
 f300:=Tryz.func130.trans (AH some (by kernel_rfl))
 f301:=Tryz.func131.trans (AH some (by kernel_rfl))
 f328:=Tryz.func153.trans (AH some (by kernel_rfl))
 f329:=Tryz.func154.trans (AH some (by kernel_rfl))
 f330:=Tryz.func155.trans (AH some (by kernel_rfl))
 f331:=Tryz.func156.trans (AH some (by kernel_rfl))
 f332:=Tryz.func157.trans (AH some (by kernel_rfl))
 f343:=Tryz.func164.trans (AH some (by kernel_rfl))
 t0:=Tryz.underlying0
 a0:=Tryz.isAgg0
 z0:=Tryz.sizeOf0
 v0:=Tryz.zeroValue0
 t3:=Tryz.underlying3
 a3:=Tryz.isAgg3
 z3:=Tryz.sizeOf3
 v3:=Tryz.zeroValue3
 t4:=Tryz.underlying4
 a4:=Tryz.isAgg4
 z4:=Tryz.sizeOf4
 v4:=Tryz.zeroValue4
 t5:=Tryz.underlying5
 a5:=Tryz.isAgg5
 z5:=Tryz.sizeOf5
 v5:=Tryz.zeroValue5
 t9:=Tryz.underlying9
 a9:=Tryz.isAgg9
 z9:=Tryz.sizeOf9
 v9:=Tryz.zeroValue9
 t28:=Tryz.underlying37
 a28:=Tryz.isAgg37
 z28:=Tryz.sizeOf37
 v28:=Tryz.zeroValue37
 t46:=Tryz.underlying158
 a46:=Tryz.isAgg158
 z46:=Tryz.sizeOf158
 v46:=Tryz.zeroValue158
 t51:=Tryz.underlying186
 a51:=Tryz.isAgg186
 z51:=Tryz.sizeOf186
 v51:=Tryz.zeroValue186
 t53:=Tryz.underlying188
 a53:=Tryz.isAgg188
 z53:=Tryz.sizeOf188
 v53:=Tryz.zeroValue188
 t131:=Tryz.underlying113
 a131:=Tryz.isAgg113
 z131:=Tryz.sizeOf113
 v131:=Tryz.zeroValue113
 t182:=Tryz.underlying179
 a182:=Tryz.isAgg179
 z182:=Tryz.sizeOf179
 v182:=Tryz.zeroValue179
 t183:=Tryz.underlying180
 a183:=Tryz.isAgg180
 z183:=Tryz.sizeOf180
 v183:=Tryz.zeroValue180
 t218:=Tryz.underlying201
 a218:=Tryz.isAgg201
 z218:=Tryz.sizeOf201
 v218:=Tryz.zeroValue201
 t222:=Tryz.underlying170
 a222:=Tryz.isAgg170
 z222:=Tryz.sizeOf170
 v222:=Tryz.zeroValue170
 t228:=Tryz.underlying210
 a228:=Tryz.isAgg210
 z228:=Tryz.sizeOf210
 v228:=Tryz.zeroValue210
 t229:=Tryz.underlying211
 a229:=Tryz.isAgg211
 z229:=Tryz.sizeOf211
 v229:=Tryz.zeroValue211 }
def Tryz.laysF_ren:Go.Shelf.Ren:=⟨fun | 6=>101 | 15=>105 | 14=>122 | 28=>132 | 29=>133 | 20=>145 | 21=>146 | 22=>147 | 23=>148 | 24=>149 | 25=>150 | 26=>151 | 27=>152 | 46=>161 | 47=>154 | 48=>155 | 49=>162 | 50=>163 | 57=>165 | n=>n,fun | 22=>124 | 24=>109 | 25=>154 | 3=>3 | 39=>158 | 0=>0 | 53=>186 | 55=>188 | 4=>4 | 46=>180 | 45=>179 | 50=>113 | 5=>5 | 9=>9 | 66=>201 | 70=>170 | 76=>210 | 77=>211 | n=>n,fun | n=>n⟩
theorem Tryz.laysF:Go.Proofs.SlLaysF0.n6 Tryz.prog Tryz.laysF_ren:={
 mixed:=by kernel_rfl
 f6:=⟨Tryz.f101.name,by decide,Tryz.func101.trans (AH some (by kernel_rfl))⟩
 f14:=⟨Tryz.f122.name,by decide,Tryz.func122.trans (AH some (by kernel_rfl))⟩
 f15:=Tryz.func105.trans (AH some (by kernel_rfl))
 f20:=⟨Tryz.f145.name,by decide,Tryz.func145.trans (AH some (by kernel_rfl))⟩
 f21:=⟨Tryz.f146.name,by decide,Tryz.func146.trans (AH some (by kernel_rfl))⟩
 f22:=⟨Tryz.f147.name,by decide,Tryz.func147.trans (AH some (by kernel_rfl))⟩
 f23:=⟨Tryz.f148.name,by decide,Tryz.func148.trans (AH some (by kernel_rfl))⟩
 f24:=⟨Tryz.f149.name,by decide,Tryz.func149.trans (AH some (by kernel_rfl))⟩
 f25:=⟨Tryz.f150.name,by decide,Tryz.func150.trans (AH some (by kernel_rfl))⟩
 f26:=⟨Tryz.f151.name,by decide,Tryz.func151.trans (AH some (by kernel_rfl))⟩
 f27:=⟨Tryz.f152.name,by decide,Tryz.func152.trans (AH some (by kernel_rfl))⟩
 f28:=Tryz.func132.trans (AH some (by kernel_rfl))
 f29:=Tryz.func133.trans (AH some (by kernel_rfl))
 f46:=⟨Tryz.f161.name,by decide,Tryz.func161.trans (AH some (by kernel_rfl))⟩
 f47:=Tryz.func154.trans (AH some (by kernel_rfl))
 f48:=Tryz.func155.trans (AH some (by kernel_rfl))
 f49:=⟨Tryz.f162.name,by decide,Tryz.func162.trans (AH some (by kernel_rfl))⟩
 f50:=⟨Tryz.f163.name,by decide,Tryz.func163.trans (AH some (by kernel_rfl))⟩
 f57:=⟨Tryz.f165.name,by decide,Tryz.func165.trans (AH some (by kernel_rfl))⟩
 t0:=Tryz.underlying0
 a0:=Tryz.isAgg0
 z0:=Tryz.sizeOf0
 v0:=Tryz.zeroValue0
 t3:=Tryz.underlying3
 a3:=Tryz.isAgg3
 z3:=Tryz.sizeOf3
 v3:=Tryz.zeroValue3
 t4:=Tryz.underlying4
 a4:=Tryz.isAgg4
 z4:=Tryz.sizeOf4
 v4:=Tryz.zeroValue4
 t5:=Tryz.underlying5
 a5:=Tryz.isAgg5
 z5:=Tryz.sizeOf5
 v5:=Tryz.zeroValue5
 t9:=Tryz.underlying9
 a9:=Tryz.isAgg9
 z9:=Tryz.sizeOf9
 v9:=Tryz.zeroValue9
 t22:=Tryz.underlying124
 a22:=Tryz.isAgg124
 z22:=Tryz.sizeOf124
 v22:=Tryz.zeroValue124
 t25:=Tryz.underlying154
 a25:=Tryz.isAgg154
 z25:=Tryz.sizeOf154
 v25:=Tryz.zeroValue154
 t39:=Tryz.underlying158
 a39:=Tryz.isAgg158
 z39:=Tryz.sizeOf158
 v39:=Tryz.zeroValue158
 t45:=Tryz.underlying179
 a45:=Tryz.isAgg179
 z45:=Tryz.sizeOf179
 v45:=Tryz.zeroValue179
 t46:=Tryz.underlying180
 a46:=Tryz.isAgg180
 z46:=Tryz.sizeOf180
 v46:=Tryz.zeroValue180
 t50:=Tryz.underlying113
 a50:=Tryz.isAgg113
 z50:=Tryz.sizeOf113
 v50:=Tryz.zeroValue113
 t53:=Tryz.underlying186
 a53:=Tryz.isAgg186
 z53:=Tryz.sizeOf186
 v53:=Tryz.zeroValue186
 t55:=Tryz.underlying188
 a55:=Tryz.isAgg188
 z55:=Tryz.sizeOf188
 v55:=Tryz.zeroValue188
 t66:=Tryz.underlying201
 a66:=Tryz.isAgg201
 z66:=Tryz.sizeOf201
 v66:=Tryz.zeroValue201
 t70:=Tryz.underlying170
 a70:=Tryz.isAgg170
 z70:=Tryz.sizeOf170
 v70:=Tryz.zeroValue170
 t76:=Tryz.underlying210
 a76:=Tryz.isAgg210
 z76:=Tryz.sizeOf210
 v76:=Tryz.zeroValue210
 t77:=Tryz.underlying211
 a77:=Tryz.isAgg211
 z77:=Tryz.sizeOf211
 v77:=Tryz.zeroValue211 }
end Go.Proofs
open Go Go.IL Go.Proofs Go.Fn Go.Sort Go.RowKit
namespace Go.Proofs.YtbacpjjiklkgfaaGreat
theorem p_sortI(a0 r:List Int)(h:aED a0=some r):FnH Tryz.prog 77 [.osl 1000 (eInt .i64).sz a0.length] [(1000,.blk 3 (Ac (a0.map (eInt .i64).d)))] (retD []) [(1000,.blk 3 (Ac (r.map (eInt .i64).d)))] :=
 aHm Tryz.lays189 a0 r h
def aHz(x:aW):List AG:=[.int .i64 x.ID,.int .i64 x.aa,.int .i64 x.ae,.bool x.af]
set_option maxHeartbeats 1000000 in
theorem cmpNode(a b c e f g:Int)(p q:Bool)(W:World)(ha:0≤a∧a≤1048576)(he:0≤e∧e≤1048576):Calls Tryz.prog 102 #[.agg #[.int .i64 a,.int .i64 b,.int .i64 c,.bool p],.agg #[.int .i64 e,.int .i64 f,.int .i64 g,.bool q]] W fun e' w'=>e' = .returned (.int .i64 (a-e))∧∃ q os',w'=grow (W.drewN q) os':=by
 have hw:Af .i64 (a-e)=a-e:=w64 (by omega) (by omega);generalize hr:a-e=r at hw ⊢
 go_enter Tryz.func102,Tryz.ntmps102
 go_wp2
 first | rw [hr,hw] | simp only [hr,hw] | skip
 go_ret
 exact ⟨by first | rfl | simp [hr,hw],0,_,by rw [alloc_eq_grow,alloc_eq_grow,grow_grow]; rfl⟩
theorem p_sortN(a0 r:List aW)(h:aEB (fun x=>x.ID) (fun x=>decide (0≤x.ID)&&decide (x.ID≤1048576)) a0=some r):FnH Tryz.prog 101 [.osl 1000 aO.sz a0.length,.fn 102 []] [(1000,.blk 109 (Ac (a0.map aO.d)))] (retD []) [(1000,.blk 109 (Ac (r.map aO.d)))]:=by
 have eg:∀ args w,(callFunc 102 args).run Tryz.prog w = .ok (.enter 102 args) w:=enters_of Tryz.func102 (by kernel_rfl) rfl;refine aHn Tryz.laysF aO aHz (fun x=>x.ID) (fun x=>decide (0≤x.ID)&&decide (x.ID≤1048576)) rfl Tryz.isAgg109 Tryz.sizeOf109 (fun _=>rfl) (fun x v hv=>?_) (fun E β x vs h=>?_) (fun E β x=>?_) eg (fun x y W hx hy=>?_) a0 r h
 · simp only [aHz,Au,Bc,or_false] at hv
   rcases hv with rfl | rfl | rfl | rfl <;> rfl
 · have h:RdL E β vs [.int .i64 x.ID,.int .i64 x.aa,.int .i64 x.ae,.bool x.af]:=h;cases h with | cons h1 h=>cases h with | cons h2 h=>cases h with | cons h3 h=>cases h with | cons h4 h =>
    cases h;cases h4;rw [lS h1,lS h2,lS h3]; rfl
 · exact .cons (.int _ _ _) (.cons (.int _ _ _) (.cons (.int _ _ _) (.cons (.bool _ _) (.nil _))))
 · simp only [Av,Cq] at hx hy;exact cmpNode x.ID x.aa x.ae y.ID y.aa y.ae x.af y.af W hx hy
end Go.Proofs.YtbacpjjiklkgfaaGreat
