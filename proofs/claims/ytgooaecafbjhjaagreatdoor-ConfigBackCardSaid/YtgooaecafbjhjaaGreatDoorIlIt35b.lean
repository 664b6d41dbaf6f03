/-
  A part of the proof: rules and plain facts. No condition.
-/
import Derived.Shelf.LaysM
import Derived.Shelf.Strconv.Itoa3
import Derived.Test.YtgooaecafbjhjaaGreatDoorProg
import Derived.Lib.AppendIntMem
import Derived.Test.YtgooaecafbjhjaaGreatDoorIlP1
set_option linter.all false
namespace Go.Proofs
open Go.Shelf
def Tryz.laysM171_ren : Go.Shelf.Ren:=⟨fun | 171=>19 | 243=>36 | 246=>56 | 283=>66 | 284=>67 | 285=>68 | 286=>69 | 129=>85 | 317=>84 | 318=>86 | 319=>87 | 320=>88 | 337=>104 | 338=>105 | n=>n,fun | 3=>3 | 9=>9 | 2=>2 | 4=>4 | 171=>187 | 0=>0 | 53=>188 | 37=>71 | 5=>5 | 173=>191 | 212=>209 | 51=>25 | 20=>20 | 213=>210 | 46=>211 | 232=>250 | 233=>251 | n=>n,fun | 17=>0 | 18=>4 | 19=>5 | n=>n⟩
theorem Tryz.laysM171 : Go.Proofs.LaysM.n171 Tryz.prog Tryz.laysM171_ren:={
  mixed:=by kernel_rfl
  f129:=Tryz.func85.trans (congrArg some (by kernel_rfl))
  f171:=Tryz.func19.trans (congrArg some (by kernel_rfl))
  f243:=Tryz.func36.trans (congrArg some (by kernel_rfl))
  f246:=Tryz.func56.trans (congrArg some (by kernel_rfl))
  f283:=Tryz.func66.trans (congrArg some (by kernel_rfl))
  f284:=Tryz.func67.trans (congrArg some (by kernel_rfl))
  f285:=Tryz.func68.trans (congrArg some (by kernel_rfl))
  f286:=Tryz.func69.trans (congrArg some (by kernel_rfl))
  f317:=Tryz.func84.trans (congrArg some (by kernel_rfl))
  f318:=Tryz.func86.trans (congrArg some (by kernel_rfl))
  f319:=Tryz.func87.trans (congrArg some (by kernel_rfl))
  f320:=Tryz.func88.trans (congrArg some (by kernel_rfl))
  f337:=Tryz.func104.trans (congrArg some (by kernel_rfl))
  f338:=Tryz.func105.trans (congrArg some (by kernel_rfl))
  t0:=Tryz.underlying0
  a0:=Tryz.isAgg0
  z0:=Tryz.sizeOf0
  v0:=Tryz.zeroValue0
  t2:=Tryz.underlying2
  a2:=Tryz.isAgg2
  z2:=Tryz.sizeOf2
  v2:=Tryz.zeroValue2
  t3:=Tryz.underlying3
  a3:=Tryz.isAgg3
  z3:=Tryz.sizeOf3
  v3:=Tryz.zeroValue3
  t4:=Tryz.underlying4
  a4:=Tryz.isAgg4
  z4:=Tryz.sizeOf4
  v4:=Tryz.zeroValue4
  t5:=Tryz.underlying5
  a5:=Tryz.isAgg5
  z5:=Tryz.sizeOf5
  v5:=Tryz.zeroValue5
  t9:=Tryz.underlying9
  a9:=Tryz.isAgg9
  z9:=Tryz.sizeOf9
  v9:=Tryz.zeroValue9
  t20:=Tryz.underlying20
  a20:=Tryz.isAgg20
  z20:=Tryz.sizeOf20
  v20:=Tryz.zeroValue20
  t37:=Tryz.underlying71
  a37:=Tryz.isAgg71
  z37:=Tryz.sizeOf71
  v37:=Tryz.zeroValue71
  t46:=Tryz.underlying211
  a46:=Tryz.isAgg211
  z46:=Tryz.sizeOf211
  v46:=Tryz.zeroValue211
  t51:=Tryz.underlying25
  a51:=Tryz.isAgg25
  z51:=Tryz.sizeOf25
  v51:=Tryz.zeroValue25
  t53:=Tryz.underlying188
  a53:=Tryz.isAgg188
  z53:=Tryz.sizeOf188
  v53:=Tryz.zeroValue188
  t171:=Tryz.underlying187
  a171:=Tryz.isAgg187
  z171:=Tryz.sizeOf187
  v171:=Tryz.zeroValue187
  t173:=Tryz.underlying191
  a173:=Tryz.isAgg191
  z173:=Tryz.sizeOf191
  v173:=Tryz.zeroValue191
  t212:=Tryz.underlying209
  a212:=Tryz.isAgg209
  z212:=Tryz.sizeOf209
  v212:=Tryz.zeroValue209
  t213:=Tryz.underlying210
  a213:=Tryz.isAgg210
  z213:=Tryz.sizeOf210
  t232:=Tryz.underlying250
  a232:=Tryz.isAgg250
  z232:=Tryz.sizeOf250
  v232:=Tryz.zeroValue250
  t233:=Tryz.underlying251
  a233:=Tryz.isAgg251
  z233:=Tryz.sizeOf251
  v233:=Tryz.zeroValue251
  g17:=by kernel_rfl
  g18:=by kernel_rfl
  g19:=by kernel_rfl
  i0:=by kernel_rfl
  i2:=by kernel_rfl
  i3:=by kernel_rfl
  i4:=by kernel_rfl
  i5:=by kernel_rfl
  i9:=by kernel_rfl
  i20:=by kernel_rfl
  i37:=by kernel_rfl
  i46:=by kernel_rfl
  i51:=by kernel_rfl
  i53:=by kernel_rfl
  i171:=by kernel_rfl
  i173:=by kernel_rfl
  i212:=by kernel_rfl
  i232:=by kernel_rfl
  i233:=by kernel_rfl
  m17:=by kernel_rfl
  m18:=by kernel_rfl
  m19:=by kernel_rfl }
open Go.RowKit Go.Sort Go.Lib in
theorem Tryz.strconv_Itoa (n : Int) (h0 : -9223372036854775808 ≤ n) (h1 : n ≤ 9223372036854775807) (w : World) (htab : Lib.TabIs Tryz.prog w "internal/strconv.uint64pow10" .u64 Lib.pow10Tab) :
    Calls Tryz.prog 19 #[.int .i64 n] w fun e w'=>e = .returned (.string ⟨(Lib.itoa n).toArray⟩) ∧ ∃ k os,w' = grow (w.drewN k) os:=Any.strconv_Itoa Tryz.laysM171 n h0 h1 w htab
end Go.Proofs
open Go Go.IL Go.Proofs
namespace Go.Proofs.YtgooaecafbjhjaaGreatDoor
theorem aEN {E : Env} (h : Tabs E) : Lib.TabIs Tryz.prog E.w "internal/strconv.uint64pow10" .u64 Lib.pow10Tab := by
  unfold Lib.TabIs World.var?
  rw [show Tryz.prog.globalNamed "internal/strconv.uint64pow10" = some 0 by kernel_rfl]
  obtain ⟨h1,c,e,f,h2,h3⟩:=h.all _ (List.mem_cons_self ..)
  simp only [Option.bind_some,h2]
  congr 1
  apply Array.ext_getElem?
  intro i
  have hr : (Lib.pow10Tab.map fun z=>Value.int .u64 z) = [.int .u64 1,.int .u64 10,.int .u64 100,.int .u64 1000,.int .u64 10000,.int .u64 100000,.int .u64 1000000,.int .u64 10000000,.int .u64 100000000,.int .u64 1000000000,.int .u64 10000000000,.int .u64 100000000000,.int .u64 1000000000000,.int .u64 10000000000000,.int .u64 100000000000000,.int .u64 1000000000000000,.int .u64 10000000000000000,.int .u64 100000000000000000,.int .u64 1000000000000000000,.int .u64 10000000000000000000]:=by rfl
  rw [hr]
  by_cases hi : i < 20
  · have := (h1 i _ (List.getElem?_eq_getElem (by simpa using hi))).1
    rw [Nat.zero_add,cell_of_row _ _ _ _ _ _ h2] at this
    rw [this,List.getElem?_toArray,List.getElem?_eq_getElem (by simpa using hi)]
  · have h4 : c.size = 20 := h3
    rw [Array.getElem?_eq_none (by omega),Array.getElem?_eq_none (by simpa using hi)]
theorem p_itoa (a0 : Int) (r : List UInt8) (h : aE8 a0 = some r) : bR Tryz.prog 19 [.int .i64 a0] (.str r):=by
  obtain ⟨⟨h0,h1⟩,rfl⟩:=itoaS_e h
  intro E vs hE hv
  cases hv with
  | cons h2 h3 =>
    cases h3
    obtain rfl:=jU h2
    refine (Tryz.strconv_Itoa a0 h0 h1 E.w (aEN hE.tab)).mono ?_
    rintro e w' ⟨rfl,k,os,rfl⟩
    exact ⟨_,rfl,Lib.below_grow _ _ (Nat.le_refl _) k os,.str _ _⟩
end Go.Proofs.YtgooaecafbjhjaaGreatDoor
