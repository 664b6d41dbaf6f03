/-
  A part of the proof: rules and plain facts. No condition.
-/
import Derived.Shelf.Sort.Plain
import Derived.Shelf.SlSortCmp.WholeK
import Derived.Test.YtdnjagkihgjpcaaProg
import Derived.WalkKit
import Derived.Test.YtdnjagkihgjpcaaIlA19D
set_option linter.all false
namespace Go.Proofs
open Go.Shelf
def Try.lays189_ren : Go.Shelf.Ren:=⟨fun | 189=>30 | 125=>39 | 257=>42 | 128=>65 | 129=>66 | 294=>67 | 295=>68 | 296=>69 | 297=>70 | 298=>71 | 299=>72 | 216=>73 | 300=>74 | 301=>75 | 328=>87 | 329=>83 | 330=>84 | 331=>88 | 332=>89 | 215=>90 | 343=>94 | n=>n,fun | 28=>24 | 3=>3 | 46=>81 | 0=>0 | 51=>107 | 53=>109 | 4=>4 | 183=>100 | 182=>99 | 131=>104 | 5=>5 | 9=>9 | 218=>118 | 222=>83 | 228=>127 | 229=>128 | n=>n,fun | n=>n⟩
theorem Try.lays189 : Go.Proofs.Lays.n189 Try.prog Try.lays189_ren:={
  mixed:=by kernel_rfl
  f125:=Try.func39.trans (congrArg some (by kernel_rfl))
  f128:=Try.func65.trans (congrArg some (by kernel_rfl))
  f129:=Try.func66.trans (congrArg some (by kernel_rfl))
  f189:=Try.func30.trans (congrArg some (by kernel_rfl))
  f215:=Try.func90.trans (congrArg some (by kernel_rfl))
  f216:=Try.func73.trans (congrArg some (by kernel_rfl))
  f257:=Try.func42.trans (congrArg some (by kernel_rfl))
  f294:=Try.func67.trans (congrArg some (by kernel_rfl))
  f295:=Try.func68.trans (congrArg some (by kernel_rfl))
  f296:=Try.func69.trans (congrArg some (by kernel_rfl))
  f297:=Try.func70.trans (congrArg some (by kernel_rfl))
  f298:=Try.func71.trans (congrArg some (by kernel_rfl))
  f299:=Try.func72.trans (congrArg some (by kernel_rfl))
  f300:=Try.func74.trans (congrArg some (by kernel_rfl))
  f301:=Try.func75.trans (congrArg some (by kernel_rfl))
  f328:=Try.func87.trans (congrArg some (by kernel_rfl))
  f329:=Try.func83.trans (congrArg some (by kernel_rfl))
  f330:=Try.func84.trans (congrArg some (by kernel_rfl))
  f331:=Try.func88.trans (congrArg some (by kernel_rfl))
  f332:=Try.func89.trans (congrArg some (by kernel_rfl))
  f343:=Try.func94.trans (congrArg some (by kernel_rfl))
  t0:=Try.underlying0
  a0:=Try.isAgg0
  z0:=Try.sizeOf0
  v0:=Try.zeroValue0
  t3:=Try.underlying3
  a3:=Try.isAgg3
  z3:=Try.sizeOf3
  v3:=Try.zeroValue3
  t4:=Try.underlying4
  a4:=Try.isAgg4
  z4:=Try.sizeOf4
  v4:=Try.zeroValue4
  t5:=Try.underlying5
  a5:=Try.isAgg5
  z5:=Try.sizeOf5
  v5:=Try.zeroValue5
  t9:=Try.underlying9
  a9:=Try.isAgg9
  z9:=Try.sizeOf9
  v9:=Try.zeroValue9
  t28:=Try.underlying24
  a28:=Try.isAgg24
  z28:=Try.sizeOf24
  v28:=Try.zeroValue24
  t46:=Try.underlying81
  a46:=Try.isAgg81
  z46:=Try.sizeOf81
  v46:=Try.zeroValue81
  t51:=Try.underlying107
  a51:=Try.isAgg107
  z51:=Try.sizeOf107
  v51:=Try.zeroValue107
  t53:=Try.underlying109
  a53:=Try.isAgg109
  z53:=Try.sizeOf109
  v53:=Try.zeroValue109
  t131:=Try.underlying104
  a131:=Try.isAgg104
  z131:=Try.sizeOf104
  v131:=Try.zeroValue104
  t182:=Try.underlying99
  a182:=Try.isAgg99
  z182:=Try.sizeOf99
  v182:=Try.zeroValue99
  t183:=Try.underlying100
  a183:=Try.isAgg100
  z183:=Try.sizeOf100
  v183:=Try.zeroValue100
  t218:=Try.underlying118
  a218:=Try.isAgg118
  z218:=Try.sizeOf118
  v218:=Try.zeroValue118
  t222:=Try.underlying83
  a222:=Try.isAgg83
  z222:=Try.sizeOf83
  v222:=Try.zeroValue83
  t228:=Try.underlying127
  a228:=Try.isAgg127
  z228:=Try.sizeOf127
  v228:=Try.zeroValue127
  t229:=Try.underlying128
  a229:=Try.isAgg128
  z229:=Try.sizeOf128
  v229:=Try.zeroValue128 }
def Try.laysF_ren : Go.Shelf.Ren:=⟨fun | 6=>26 | 15=>39 | 14=>38 | 28=>65 | 29=>66 | 20=>57 | 21=>58 | 22=>59 | 23=>60 | 24=>61 | 25=>62 | 26=>63 | 27=>64 | 46=>82 | 47=>83 | 48=>84 | 49=>85 | 50=>86 | 57=>93 | n=>n,fun | 22=>28 | 24=>40 | 25=>63 | 3=>3 | 39=>81 | 0=>0 | 53=>107 | 55=>109 | 4=>4 | 46=>100 | 45=>99 | 50=>104 | 5=>5 | 9=>9 | 66=>118 | 70=>83 | 76=>127 | 77=>128 | n=>n,fun | n=>n⟩
theorem Try.laysF : Go.Proofs.SlLaysF0.n6 Try.prog Try.laysF_ren:={
  mixed:=by kernel_rfl
  f6:=⟨Try.f26.name,by decide,Try.func26.trans (congrArg some (by kernel_rfl))⟩
  f14:=⟨Try.f38.name,by decide,Try.func38.trans (congrArg some (by kernel_rfl))⟩
  f15:=Try.func39.trans (congrArg some (by kernel_rfl))
  f20:=⟨Try.f57.name,by decide,Try.func57.trans (congrArg some (by kernel_rfl))⟩
  f21:=⟨Try.f58.name,by decide,Try.func58.trans (congrArg some (by kernel_rfl))⟩
  f22:=⟨Try.f59.name,by decide,Try.func59.trans (congrArg some (by kernel_rfl))⟩
  f23:=⟨Try.f60.name,by decide,Try.func60.trans (congrArg some (by kernel_rfl))⟩
  f24:=⟨Try.f61.name,by decide,Try.func61.trans (congrArg some (by kernel_rfl))⟩
  f25:=⟨Try.f62.name,by decide,Try.func62.trans (congrArg some (by kernel_rfl))⟩
  f26:=⟨Try.f63.name,by decide,Try.func63.trans (congrArg some (by kernel_rfl))⟩
  f27:=⟨Try.f64.name,by decide,Try.func64.trans (congrArg some (by kernel_rfl))⟩
  f28:=Try.func65.trans (congrArg some (by kernel_rfl))
  f29:=Try.func66.trans (congrArg some (by kernel_rfl))
  f46:=⟨Try.f82.name,by decide,Try.func82.trans (congrArg some (by kernel_rfl))⟩
  f47:=Try.func83.trans (congrArg some (by kernel_rfl))
  f48:=Try.func84.trans (congrArg some (by kernel_rfl))
  f49:=⟨Try.f85.name,by decide,Try.func85.trans (congrArg some (by kernel_rfl))⟩
  f50:=⟨Try.f86.name,by decide,Try.func86.trans (congrArg some (by kernel_rfl))⟩
  f57:=⟨Try.f93.name,by decide,Try.func93.trans (congrArg some (by kernel_rfl))⟩
  t0:=Try.underlying0
  a0:=Try.isAgg0
  z0:=Try.sizeOf0
  v0:=Try.zeroValue0
  t3:=Try.underlying3
  a3:=Try.isAgg3
  z3:=Try.sizeOf3
  v3:=Try.zeroValue3
  t4:=Try.underlying4
  a4:=Try.isAgg4
  z4:=Try.sizeOf4
  v4:=Try.zeroValue4
  t5:=Try.underlying5
  a5:=Try.isAgg5
  z5:=Try.sizeOf5
  v5:=Try.zeroValue5
  t9:=Try.underlying9
  a9:=Try.isAgg9
  z9:=Try.sizeOf9
  v9:=Try.zeroValue9
  t22:=Try.underlying28
  a22:=Try.isAgg28
  z22:=Try.sizeOf28
  v22:=Try.zeroValue28
  t25:=Try.underlying63
  a25:=Try.isAgg63
  z25:=Try.sizeOf63
  v25:=Try.zeroValue63
  t39:=Try.underlying81
  a39:=Try.isAgg81
  z39:=Try.sizeOf81
  v39:=Try.zeroValue81
  t45:=Try.underlying99
  a45:=Try.isAgg99
  z45:=Try.sizeOf99
  v45:=Try.zeroValue99
  t46:=Try.underlying100
  a46:=Try.isAgg100
  z46:=Try.sizeOf100
  v46:=Try.zeroValue100
  t50:=Try.underlying104
  a50:=Try.isAgg104
  z50:=Try.sizeOf104
  v50:=Try.zeroValue104
  t53:=Try.underlying107
  a53:=Try.isAgg107
  z53:=Try.sizeOf107
  v53:=Try.zeroValue107
  t55:=Try.underlying109
  a55:=Try.isAgg109
  z55:=Try.sizeOf109
  v55:=Try.zeroValue109
  t66:=Try.underlying118
  a66:=Try.isAgg118
  z66:=Try.sizeOf118
  v66:=Try.zeroValue118
  t70:=Try.underlying83
  a70:=Try.isAgg83
  z70:=Try.sizeOf83
  v70:=Try.zeroValue83
  t76:=Try.underlying127
  a76:=Try.isAgg127
  z76:=Try.sizeOf127
  v76:=Try.zeroValue127
  t77:=Try.underlying128
  a77:=Try.isAgg128
  z77:=Try.sizeOf128
  v77:=Try.zeroValue128 }
end Go.Proofs
open Go Go.IL Go.Proofs Go.Fn Go.Sort Go.RowKit
namespace Go.Proofs.Ytdnjagkihgjpcaa
theorem p_sortI (a0 : List Int) (r : List Int) (h : uH a0 = some r) : FnH Try.prog 30 [.osl 1000 (eInt .i64).sz a0.length] [(1000,.blk 3 (D.flat (a0.map (eInt .i64).d)))] (retD []) [(1000,.blk 3 (D.flat (r.map (eInt .i64).d)))] :=
  yX Try.lays189 a0 r h
def zD (x : aZ) : List Value:=[.int .i64 x.ID,.int .i64 x.Parent,.int .i64 x.Weight,.bool x.Closed]
set_option maxHeartbeats 1000000 in
theorem cmpNode (a b c e f g : Int) (p q : Bool) (W : World) (ha : 0 ≤ a ∧ a ≤ 1048576) (he : 0 ≤ e ∧ e ≤ 1048576) : Calls Try.prog 27 #[.agg #[.int .i64 a,.int .i64 b,.int .i64 c,.bool p],.agg #[.int .i64 e,.int .i64 f,.int .i64 g,.bool q]] W fun e' w'=>e' = .returned (.int .i64 (a - e)) ∧ ∃ q os',w' = grow (W.drewN q) os':=by
  have hw : IntKind.wrap .i64 (a - e) = a - e:=w64 (by omega) (by omega)
  generalize hr : a - e = r at hw ⊢
  go_enter Try.func27,Try.ntmps27
  go_wp2
  first | rw [hr,hw] | simp only [hr,hw] | skip
  go_ret
  exact ⟨by first | rfl | simp [hr,hw],0,_,by rw [alloc_eq_grow,alloc_eq_grow,grow_grow]; rfl⟩
theorem p_sortN (a0 : List aZ) (r : List aZ) (h : uF (fun x=>x.ID) (fun x=>decide (0 ≤ x.ID) && decide (x.ID ≤ 1048576)) a0 = some r) : FnH Try.prog 26 [.osl 1000 aQ.sz a0.length,.fn 27 []] [(1000,.blk 40 (D.flat (a0.map aQ.d)))] (retD []) [(1000,.blk 40 (D.flat (r.map aQ.d)))]:=by
  have eg : ∀ args w,(callFunc 27 args).run Try.prog w = .ok (.enter 27 args) w:=enters_of Try.func27 (by kernel_rfl) rfl
  refine yY Try.laysF aQ zD (fun x=>x.ID) (fun x=>decide (0 ≤ x.ID) && decide (x.ID ≤ 1048576)) rfl Try.isAgg40 Try.sizeOf40 (fun _=>rfl) (fun x v hv=>?_) (fun E β x vs h=>?_) (fun E β x=>?_) eg (fun x y W hx hy=>?_) a0 r h
  · simp only [zD, List.mem_cons, List.not_mem_nil, or_false] at hv
    rcases hv with rfl | rfl | rfl | rfl <;> rfl
  · have h : RdL E β vs [.int .i64 x.ID, .int .i64 x.Parent, .int .i64 x.Weight, .bool x.Closed] := h
    cases h with | cons h1 h=>cases h with | cons h2 h=>cases h with | cons h3 h=>cases h with | cons h4 h =>
      cases h
      cases h4
      rw [iT h1,iT h2,iT h3]; rfl
  · exact .cons (.int _ _ _) (.cons (.int _ _ _) (.cons (.int _ _ _) (.cons (.bool _ _) (.nil _))))
  · simp only [Bool.and_eq_true, decide_eq_true_iff] at hx hy
    exact cmpNode x.ID x.Parent x.Weight y.ID y.Parent y.Weight x.Closed y.Closed W hx hy
end Go.Proofs.Ytdnjagkihgjpcaa
