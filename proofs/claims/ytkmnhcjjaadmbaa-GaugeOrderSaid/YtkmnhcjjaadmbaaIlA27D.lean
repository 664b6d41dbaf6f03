/-
  A part of the proof: rules and plain facts. No condition.
-/
import Derived.Test.YtkmnhcjjaadmbaaIlAr
set_option linter.all false
set_option linter.unusedSimpArgs false
set_option linter.unusedVariables false
open Go Go.IL
namespace Go.Fn
structure T_anon23 where
  c0 : Int
  c1 : Int
  deriving DecidableEq, Inhabited
def E_anon23 : Enc T_anon23 := ⟨⟨fun x => .agg [.int .i64 x.c0, .int .i64 x.c1], 2, by decide, fun _ => ⟨rfl, rfl⟩⟩, fun _ => rfl⟩

structure T_anon43 where
  c0 : Int
  c1 : Int
  c2 : Int
  deriving DecidableEq, Inhabited
def E_anon43 : Enc T_anon43 := ⟨⟨fun x => .agg [.int .u64 x.c0, .int .u64 x.c1, .int .u64 x.c2], 3, by decide, fun _ => ⟨rfl, rfl⟩⟩, fun _ => rfl⟩

def sennitref27_Of (a0 : Int) : Option Nat :=
  bnd (fcan .f64 (a0 : Int).toNat) fun x1 =>
  some x1

def math_IsNaN (a0 : Nat) : Option Bool :=
  bnd (fCmp .neq a0 a0) fun x1 =>
  some x1

def math_Abs (a0 : Nat) : Option Nat :=
  bno (fbits a0) fun x1 =>
  bnd (anotI .u64 x1 9223372036854775808) fun x2 =>
  bnd (fcan .f64 (x2 : Int).toNat) fun x3 =>
  some x3

def math_IsInf (a0 : Nat) (a1 : Int) : Option Bool :=
  bnd (decide (a1 = 0)) fun x1 =>
  bif x1 then (
    bno (math_Abs a0) fun x3 =>
    bnd (fCmp .gtr x3 9218868437227405311) fun x4 =>
    some x4
  ) else (
    bnd (decide (a1 < 0)) fun x5 =>
    bif x5 then (
      bnd (fNeg a0) fun x7 =>
      bnd (fCmp .gtr x7 9218868437227405311) fun x8 =>
      some x8
    ) else (
      bnd (fCmp .gtr a0 9218868437227405311) fun x9 =>
      some x9
    )
  )

def math_Signbit (a0 : Nat) : Option Bool :=
  bno (fbits a0) fun x1 =>
  bnd (IntKind.wrap .i64 x1) fun x2 =>
  bnd (decide (x2 < 0)) fun x3 =>
  some x3

def gauge_Kind_J0 (a0 : Nat) (v7 : Int) : Option Int :=
  bno (math_Signbit a0) fun x8 =>
  bif (!x8) then (
    some v7
  ) else (
    bnd (IntKind.wrap .i64 (7 - v7)) fun x10 =>
    some x10
  )
def gauge_Kind (a0 : Nat) : Option Int :=
  bno (math_IsNaN a0) fun x11 =>
  bif x11 then (
    some 0
  ) else (
    bno (math_IsInf a0 0) fun x13 =>
    bif x13 then (
      gauge_Kind_J0 a0 6
    ) else (
      bnd (fCmp .neq a0 0) fun x15 =>
      bif x15 then (
        gauge_Kind_J0 a0 5
      ) else (
        gauge_Kind_J0 a0 4
      )
    )
  )

def sennitref27_nan (a0 : Nat) : Option Bool :=
  bnd (fCmp .neq a0 a0) fun x1 =>
  some x1

def sennitref27_Kind (a0 : Nat) : Option Int :=
  bno (sennitref27_nan a0) fun x1 =>
  bif x1 then (
    some 0
  ) else (
    bnd (fCmp .lss a0 18442240474082181119) fun x3 =>
    bif x3 then (
      some 1
    ) else (
      bnd (fCmp .lss a0 0) fun x5 =>
      bif x5 then (
        some 2
      ) else (
        bnd (fCmp .gtr a0 9218868437227405311) fun x7 =>
        bif x7 then (
          some 6
        ) else (
          bnd (fCmp .gtr a0 0) fun x9 =>
          bif x9 then (
            some 5
          ) else (
            bno (fbits a0) fun x11 =>
            bnd (!decide (x11 = 0)) fun x12 =>
            bif x12 then (
              some 3
            ) else (
              some 4
            )
          )
        )
      )
    )
  )

def gauge_Bits (a0 : Nat) : Option Int :=
  bno (math_IsNaN a0) fun x1 =>
  bif x1 then (
    some 9221120237041090561
  ) else (
    bno (fbits a0) fun x3 =>
    some x3
  )

def sennitref27_Bits (a0 : Nat) : Option Int :=
  bno (sennitref27_nan a0) fun x1 =>
  bif x1 then (
    some 9221120237041090561
  ) else (
    bno (fbits a0) fun x3 =>
    some x3
  )

def gauge_Same (a0 : Nat) (a1 : Nat) : Option Bool :=
  bno (gauge_Bits a0) fun x1 =>
  bno (gauge_Bits a1) fun x2 =>
  bnd (decide (x1 = x2)) fun x3 =>
  some x3

def gauge_Compare_J0 (a0 : Nat) (a1 : Nat) (v6 : Bool) : Option Int :=
  bif v6 then (
    some (-1)
  ) else (
    bnd (fCmp .gtr a0 a1) fun x8 =>
    bif x8 then (
      some 1
    ) else (
      bno (math_IsNaN a1) fun x10 =>
      bno (gd (x10 == true) (math_IsNaN a0) default) fun x11 =>
      bnd (x10 && (!x11)) fun x12 =>
      bif x12 then (
        some 1
      ) else (
        some 0
      )
    )
  )
def gauge_Compare (a0 : Nat) (a1 : Nat) : Option Int :=
  bnd (fCmp .lss a0 a1) fun x14 =>
  bif x14 then (
    gauge_Compare_J0 a0 a1 x14
  ) else (
    bno (math_IsNaN a0) fun x16 =>
    bno (gd (x16 == true) (math_IsNaN a1) default) fun x17 =>
    bnd (x16 && (!x17)) fun x18 =>
    gauge_Compare_J0 a0 a1 x18
  )

def sennitref27_Compare (a0 : Nat) (a1 : Nat) : Option Int :=
  bno (sennitref27_nan a0) fun x1 =>
  bno (gd (x1 == true) (sennitref27_nan a1) default) fun x2 =>
  bnd (x1 && x2) fun x3 =>
  bif x3 then (
    some 0
  ) else (
    bno (sennitref27_nan a0) fun x5 =>
    bnd (fCmp .lss a0 a1) fun x6 =>
    bnd (x5 || x6) fun x7 =>
    bif x7 then (
      some (-1)
    ) else (
      bno (sennitref27_nan a1) fun x9 =>
      bnd (fCmp .gtr a0 a1) fun x10 =>
      bnd (x9 || x10) fun x11 =>
      bif x11 then (
        some 1
      ) else (
        some 0
      )
    )
  )

def gauge_Smooth (a0 : Nat) (a1 : Nat) : Option Nat :=
  bno (math_IsNaN a1) fun x1 =>
  bif x1 then (
    some a0
  ) else (
    bnd (fAr .sub a1 a0) fun x3 =>
    bno (math_IsNaN x3) fun x4 =>
    bno (gd (x4 == false) (math_IsInf x3 0) default) fun x5 =>
    bnd (x4 || x5) fun x6 =>
    bno (gd (x6 == false) (math_IsInf a0 0) default) fun x7 =>
    bnd (x6 || x7) fun x8 =>
    bif x8 then (
      some a1
    ) else (
      bnd (fAr .quo x3 4620693217682128896) fun x10 =>
      bnd (fAr .add a0 x10) fun x11 =>
      some x11
    )
  )

def sennitref27_infinite (a0 : Nat) : Option Bool :=
  bnd (fCmp .gtr a0 9218868437227405311) fun x1 =>
  bnd (fCmp .lss a0 18442240474082181119) fun x2 =>
  bnd (x1 || x2) fun x3 =>
  some x3

def sennitref27_Smooth (a0 : Nat) (a1 : Nat) : Option Nat :=
  bno (sennitref27_nan a0) fun x1 =>
  bif x1 then (
    some a1
  ) else (
    bno (sennitref27_nan a1) fun x3 =>
    bif x3 then (
      some a0
    ) else (
      bno (sennitref27_infinite a0) fun x5 =>
      bno (gd (x5 == false) (sennitref27_infinite a1) default) fun x6 =>
      bnd (x5 || x6) fun x7 =>
      bif x7 then (
        some a1
      ) else (
        bnd (fAr .sub a1 a0) fun x9 =>
        bno (sennitref27_infinite x9) fun x10 =>
        bif x10 then (
          some a1
        ) else (
          bnd (fAr .quo x9 4620693217682128896) fun x12 =>
          bnd (fAr .add a0 x12) fun x13 =>
          some x13
        )
      )
    )
  )

def gauge_Rate (a0 : Int) (a1 : Int) : Option Nat :=
  bnd (floatOfInt .f64 a0) fun x1 =>
  bnd (floatOfInt .f64 a1) fun x2 =>
  bnd (fAr .quo x1 x2) fun x3 =>
  some x3

def sennitref27_Rate (a0 : Int) (a1 : Int) : Option Nat :=
  bnd (floatOfInt .f64 a0) fun x1 =>
  bnd (floatOfInt .f64 a1) fun x2 =>
  bnd (fAr .quo x1 x2) fun x3 =>
  some x3

def gauge_Order_1 (a0 : Int) (a1 : Int) (a2 : (List Nat)) : Option Int :=
  bno (gix a2 a1) fun x1 =>
  bno (gix a2 a0) fun x2 =>
  bno (gauge_Compare x1 x2) fun x3 =>
  some x3

def slices_insertionSortCmpFunc_int_h_Order_1_L1 (a0 : Int) (a3 : (List Nat)) (v77 : Int) (kk0 : (List Int) → Int → Option (List Int)) : Nat → (List Int) → Int → Option (List Int)
  | 0, _, _ => none
  | n1 + 1, v177, v178 =>
    bnd (decide (a0 < v178)) fun x202 =>
    bno (gd (x202 == true) (gix v177 v178) default) fun x203 =>
    bno (gd (x202 == true) (v177[(v178 : Int).toNat]?) default) fun x204 =>
    bnd (IntKind.wrap .i64 (v178 - 1)) fun x205 =>
    bno (gd (x202 == true) (gix v177 x205) default) fun x206 =>
    bno (gd (x202 == true) (v177[(x205 : Int).toNat]?) default) fun x207 =>
    bno (gd (x202 == true) (gauge_Order_1 x204 x207 a3) default) fun x208 =>
    bnd (decide (x208 < 0)) fun x209 =>
    bnd (x202 && x209) fun x210 =>
    bif x210 then (
      bnd (IntKind.wrap .i64 (v178 - 1)) fun x212 =>
      bnd (IntKind.wrap .i64 (v178 - 1)) fun x213 =>
      bno (gix v177 x213) fun x214 =>
      bno (v177[(x213 : Int).toNat]?) fun x215 =>
      bno (gix v177 v178) fun x216 =>
      bno (v177[(v178 : Int).toNat]?) fun x217 =>
      bno (gix v177 v178) fun x218 =>
      bno (v177[(v178 : Int).toNat]?) fun x219 =>
      bnd (v177.set ((v178 : Int).toNat) x215) fun x220 =>
      bno (gix x220 x212) fun x221 =>
      bno (x220[(x212 : Int).toNat]?) fun x222 =>
      bnd (x220.set ((x212 : Int).toNat) x217) fun x223 =>
      bnd (IntKind.wrap .i64 (v178 - 1)) fun x224 =>
      (slices_insertionSortCmpFunc_int_h_Order_1_L1 a0 a3 v77 kk0 n1) x223 x224
    ) else (
      bnd (IntKind.wrap .i64 (v77 + 1)) fun x225 =>
      kk0 v177 x225
    )
def slices_insertionSortCmpFunc_int_h_Order_1_L0 (a0 : Int) (a1 : Int) (a3 : (List Nat)) : Nat → (List Int) → Int → Option (List Int)
  | 0, _, _ => none
  | n0 + 1, v76, v77 =>
    bnd (decide (v77 < a1)) fun x152 =>
    bif x152 then (
      slices_insertionSortCmpFunc_int_h_Order_1_L1 a0 a3 v77 (slices_insertionSortCmpFunc_int_h_Order_1_L0 a0 a1 a3 n0) fuel v76 v77
    ) else (
      some v76
    )
def slices_insertionSortCmpFunc_int_h_Order_1 (a0 : Int) (a1 : Int) (a2 : (List Int)) (a3 : (List Nat)) : Option (List Int) :=
  bnd (IntKind.wrap .i64 (a0 + 1)) fun x1 =>
  slices_insertionSortCmpFunc_int_h_Order_1_L0 a0 a1 a3 fuel a2 x1

def slices_swapRangeCmpFunc_int_h_Order_1_L0 (a0 : Int) (a1 : Int) (a2 : Int) : Nat → (List Int) → Int → Option (List Int)
  | 0, _, _ => none
  | n0 + 1, v18, v19 =>
    bnd (decide (v19 < a2)) fun x37 =>
    bif x37 then (
      bnd (IntKind.wrap .i64 (a0 + v19)) fun x39 =>
      bnd (IntKind.wrap .i64 (a1 + v19)) fun x40 =>
      bnd (IntKind.wrap .i64 (a1 + v19)) fun x41 =>
      bno (gix v18 x41) fun x42 =>
      bno (v18[(x41 : Int).toNat]?) fun x43 =>
      bnd (IntKind.wrap .i64 (a0 + v19)) fun x44 =>
      bno (gix v18 x44) fun x45 =>
      bno (v18[(x44 : Int).toNat]?) fun x46 =>
      bno (gix v18 x39) fun x47 =>
      bno (v18[(x39 : Int).toNat]?) fun x48 =>
      bnd (v18.set ((x39 : Int).toNat) x43) fun x49 =>
      bno (gix x49 x40) fun x50 =>
      bno (x49[(x40 : Int).toNat]?) fun x51 =>
      bnd (x49.set ((x40 : Int).toNat) x46) fun x52 =>
      bnd (IntKind.wrap .i64 (v19 + 1)) fun x53 =>
      (slices_swapRangeCmpFunc_int_h_Order_1_L0 a0 a1 a2 n0) x52 x53
    ) else (
      some v18
    )
def slices_swapRangeCmpFunc_int_h_Order_1 (a0 : Int) (a1 : Int) (a2 : Int) (a3 : (List Int)) (a4 : (List Nat)) : Option (List Int) :=
  slices_swapRangeCmpFunc_int_h_Order_1_L0 a0 a1 a2 fuel a3 0

def slices_rotateCmpFunc_int_h_Order_1_L0 (a1 : Int) (a4 : (List Nat)) : Nat → (List Int) → Int → Int → Option (List Int)
  | 0, _, _, _ => none
  | n0 + 1, v17, v18, v19 =>
    bnd (!decide (v18 = v19)) fun x34 =>
    bif x34 then (
      bnd (decide (v19 < v18)) fun x36 =>
      bif x36 then (
        bnd (IntKind.wrap .i64 (a1 - v18)) fun x38 =>
        bno (slices_swapRangeCmpFunc_int_h_Order_1 x38 a1 v19 v17 a4) fun x39 =>
        chk (x39.length = v17.length) <|
        bnd (IntKind.wrap .i64 (v18 - v19)) fun x41 =>
        (slices_rotateCmpFunc_int_h_Order_1_L0 a1 a4 n0) x39 x41 v19
      ) else (
        bnd (IntKind.wrap .i64 (a1 - v18)) fun x42 =>
        bnd (IntKind.wrap .i64 (a1 + v19)) fun x43 =>
        bnd (IntKind.wrap .i64 (x43 - v18)) fun x44 =>
        bno (slices_swapRangeCmpFunc_int_h_Order_1 x42 x44 v18 v17 a4) fun x45 =>
        chk (x45.length = v17.length) <|
        bnd (IntKind.wrap .i64 (v19 - v18)) fun x47 =>
        (slices_rotateCmpFunc_int_h_Order_1_L0 a1 a4 n0) x45 v18 x47
      )
    ) else (
      bnd (IntKind.wrap .i64 (a1 - v18)) fun x48 =>
      bno (slices_swapRangeCmpFunc_int_h_Order_1 x48 a1 v18 v17 a4) fun x49 =>
      chk (x49.length = v17.length) <|
      some x49
    )
def slices_rotateCmpFunc_int_h_Order_1 (a0 : Int) (a1 : Int) (a2 : Int) (a3 : (List Int)) (a4 : (List Nat)) : Option (List Int) :=
  bnd (IntKind.wrap .i64 (a1 - a0)) fun x1 =>
  bnd (IntKind.wrap .i64 (a2 - a1)) fun x2 =>
  slices_rotateCmpFunc_int_h_Order_1_L0 a1 a4 fuel a3 x1 x2

def slices_symMergeCmpFunc_int_h_Order_1_L1 (v18 : Int) : Nat → (List Int) → Int → Option (List Int)
  | 0, _, _ => none
  | n1 + 1, v64, v65 =>
    bnd (IntKind.wrap .i64 (v18 - 1)) fun x82 =>
    bnd (decide (v65 < x82)) fun x83 =>
    bif x83 then (
      bnd (IntKind.wrap .i64 (v65 + 1)) fun x85 =>
      bnd (IntKind.wrap .i64 (v65 + 1)) fun x86 =>
      bno (gix v64 x86) fun x87 =>
      bno (v64[(x86 : Int).toNat]?) fun x88 =>
      bno (gix v64 v65) fun x89 =>
      bno (v64[(v65 : Int).toNat]?) fun x90 =>
      bno (gix v64 v65) fun x91 =>
      bno (v64[(v65 : Int).toNat]?) fun x92 =>
      bnd (v64.set ((v65 : Int).toNat) x88) fun x93 =>
      bno (gix x93 x85) fun x94 =>
      bno (x93[(x85 : Int).toNat]?) fun x95 =>
      bnd (x93.set ((x85 : Int).toNat) x90) fun x96 =>
      bnd (IntKind.wrap .i64 (v65 + 1)) fun x97 =>
      (slices_symMergeCmpFunc_int_h_Order_1_L1 v18 n1) x96 x97
    ) else (
      some v64
    )
def slices_symMergeCmpFunc_int_h_Order_1_L0 (a0 : Int) (a3 : (List Int)) (a4 : (List Nat)) : Nat → Int → Int → Option (List Int)
  | 0, _, _ => none
  | n0 + 1, v18, v19 =>
    bnd (decide (v18 < v19)) fun x34 =>
    bif x34 then (
      bnd (IntKind.wrap .i64 (v18 + v19)) fun x36 =>
      bnd (IntKind.wrap .u64 x36) fun x37 =>
      bno (shrI .u64 x37 1) fun x38 =>
      bnd (IntKind.wrap .i64 x38) fun x39 =>
      bno (gix a3 x39) fun x40 =>
      bno (a3[(x39 : Int).toNat]?) fun x41 =>
      bno (gix a3 a0) fun x42 =>
      bno (a3[(a0 : Int).toNat]?) fun x43 =>
      bno (gauge_Order_1 x41 x43 a4) fun x44 =>
      bnd (decide (x44 < 0)) fun x45 =>
      bif x45 then (
        bnd (IntKind.wrap .i64 (x39 + 1)) fun x47 =>
        (slices_symMergeCmpFunc_int_h_Order_1_L0 a0 a3 a4 n0) x47 v19
      ) else (
        (slices_symMergeCmpFunc_int_h_Order_1_L0 a0 a3 a4 n0) v18 x39
      )
    ) else (
      slices_symMergeCmpFunc_int_h_Order_1_L1 v18 fuel a3 a0
    )
def slices_symMergeCmpFunc_int_h_Order_1_L3 (v115 : Int) : Nat → (List Int) → Int → Option (List Int)
  | 0, _, _ => none
  | n3 + 1, v160, v161 =>
    bnd (decide (v115 < v161)) fun x177 =>
    bif x177 then (
      bnd (IntKind.wrap .i64 (v161 - 1)) fun x179 =>
      bnd (IntKind.wrap .i64 (v161 - 1)) fun x180 =>
      bno (gix v160 x180) fun x181 =>
      bno (v160[(x180 : Int).toNat]?) fun x182 =>
      bno (gix v160 v161) fun x183 =>
      bno (v160[(v161 : Int).toNat]?) fun x184 =>
      bno (gix v160 v161) fun x185 =>
      bno (v160[(v161 : Int).toNat]?) fun x186 =>
      bnd (v160.set ((v161 : Int).toNat) x182) fun x187 =>
      bno (gix x187 x179) fun x188 =>
      bno (x187[(x179 : Int).toNat]?) fun x189 =>
      bnd (x187.set ((x179 : Int).toNat) x184) fun x190 =>
      bnd (IntKind.wrap .i64 (v161 - 1)) fun x191 =>
      (slices_symMergeCmpFunc_int_h_Order_1_L3 v115 n3) x190 x191
    ) else (
      some v160
    )
def slices_symMergeCmpFunc_int_h_Order_1_L2 (a1 : Int) (a3 : (List Int)) (a4 : (List Nat)) : Nat → Int → Int → Option (List Int)
  | 0, _, _ => none
  | n2 + 1, v115, v116 =>
    bnd (decide (v115 < v116)) fun x131 =>
    bif x131 then (
      bnd (IntKind.wrap .i64 (v115 + v116)) fun x133 =>
      bnd (IntKind.wrap .u64 x133) fun x134 =>
      bno (shrI .u64 x134 1) fun x135 =>
      bnd (IntKind.wrap .i64 x135) fun x136 =>
      bno (gix a3 a1) fun x137 =>
      bno (a3[(a1 : Int).toNat]?) fun x138 =>
      bno (gix a3 x136) fun x139 =>
      bno (a3[(x136 : Int).toNat]?) fun x140 =>
      bno (gauge_Order_1 x138 x140 a4) fun x141 =>
      bnd (decide (x141 < 0)) fun x142 =>
      bif (!x142) then (
        bnd (IntKind.wrap .i64 (x136 + 1)) fun x144 =>
        (slices_symMergeCmpFunc_int_h_Order_1_L2 a1 a3 a4 n2) x144 v116
      ) else (
        (slices_symMergeCmpFunc_int_h_Order_1_L2 a1 a3 a4 n2) v115 x136
      )
    ) else (
      slices_symMergeCmpFunc_int_h_Order_1_L3 v115 fuel a3 a1
    )
def slices_symMergeCmpFunc_int_h_Order_1_J7 (rec0 : Int → Int → Int → (List Int) → (List Nat) → Option (List Int)) (a2 : Int) (a4 : (List Nat)) (x195 : Int) (x250 : Int) (v264 : (List Int)) : Option (List Int) :=
  bnd (decide (x195 < x250)) fun x265 =>
  bnd (decide (x250 < a2)) fun x266 =>
  bnd (x265 && x266) fun x267 =>
  bif x267 then (
    bno (rec0 x195 x250 a2 v264 a4) fun x269 =>
    chk (x269.length = v264.length) <|
    some x269
  ) else (
    some v264
  )
def slices_symMergeCmpFunc_int_h_Order_1_J6 (rec0 : Int → Int → Int → (List Int) → (List Nat) → Option (List Int)) (a0 : Int) (a2 : Int) (a4 : (List Nat)) (x195 : Int) (v218 : Int) (x250 : Int) (v257 : (List Int)) : Option (List Int) :=
  bnd (decide (a0 < v218)) fun x271 =>
  bnd (decide (v218 < x195)) fun x272 =>
  bnd (x271 && x272) fun x273 =>
  bif x273 then (
    bno (rec0 a0 v218 x195 v257 a4) fun x275 =>
    chk (x275.length = v257.length) <|
    slices_symMergeCmpFunc_int_h_Order_1_J7 rec0 a2 a4 x195 x250 x275
  ) else (
    slices_symMergeCmpFunc_int_h_Order_1_J7 rec0 a2 a4 x195 x250 v257
  )
def slices_symMergeCmpFunc_int_h_Order_1_L5 (rec0 : Int → Int → Int → (List Int) → (List Nat) → Option (List Int)) (a0 : Int) (a1 : Int) (a2 : Int) (a3 : (List Int)) (a4 : (List Nat)) (x195 : Int) (x196 : Int) (x202 : Int) : Nat → Int → Int → Option (List Int)
  | 0, _, _ => none
  | n5 + 1, v218, v219 =>
    bnd (decide (v218 < v219)) fun x235 =>
    bif x235 then (
      bnd (IntKind.wrap .i64 (v218 + v219)) fun x237 =>
      bnd (IntKind.wrap .u64 x237) fun x238 =>
      bno (shrI .u64 x238 1) fun x239 =>
      bnd (IntKind.wrap .i64 x239) fun x240 =>
      bnd (IntKind.wrap .i64 (x202 - x240)) fun x241 =>
      bno (gix a3 x241) fun x242 =>
      bno (a3[(x241 : Int).toNat]?) fun x243 =>
      bno (gix a3 x240) fun x244 =>
      bno (a3[(x240 : Int).toNat]?) fun x245 =>
      bno (gauge_Order_1 x243 x245 a4) fun x246 =>
      bnd (decide (x246 < 0)) fun x247 =>
      bif (!x247) then (
        bnd (IntKind.wrap .i64 (x240 + 1)) fun x249 =>
        (slices_symMergeCmpFunc_int_h_Order_1_L5 rec0 a0 a1 a2 a3 a4 x195 x196 x202 n5) x249 v219
      ) else (
        (slices_symMergeCmpFunc_int_h_Order_1_L5 rec0 a0 a1 a2 a3 a4 x195 x196 x202 n5) v218 x240
      )
    ) else (
      bnd (IntKind.wrap .i64 (x196 - v218)) fun x250 =>
      bnd (decide (v218 < a1)) fun x277 =>
      bnd (decide (a1 < x250)) fun x278 =>
      bnd (x277 && x278) fun x279 =>
      bif x279 then (
        bno (slices_rotateCmpFunc_int_h_Order_1 v218 a1 x250 a3 a4) fun x281 =>
        chk (x281.length = a3.length) <|
        slices_symMergeCmpFunc_int_h_Order_1_J6 rec0 a0 a2 a4 x195 v218 x250 x281
      ) else (
        slices_symMergeCmpFunc_int_h_Order_1_J6 rec0 a0 a2 a4 x195 v218 x250 a3
      )
    )
def slices_symMergeCmpFunc_int_h_Order_1_J4 (rec0 : Int → Int → Int → (List Int) → (List Nat) → Option (List Int)) (a0 : Int) (a1 : Int) (a2 : Int) (a3 : (List Int)) (a4 : (List Nat)) (x195 : Int) (x196 : Int) (v200 : Int) (v201 : Int) : Option (List Int) :=
  bnd (IntKind.wrap .i64 (x196 - 1)) fun x202 =>
  slices_symMergeCmpFunc_int_h_Order_1_L5 rec0 a0 a1 a2 a3 a4 x195 x196 x202 fuel v200 v201
def slices_symMergeCmpFunc_int_h_Order_1_B (rec0 : Int → Int → Int → (List Int) → (List Nat) → Option (List Int)) (a0 : Int) (a1 : Int) (a2 : Int) (a3 : (List Int)) (a4 : (List Nat)) : Option (List Int) :=
  bnd (IntKind.wrap .i64 (a1 - a0)) fun x1 =>
  bnd (decide (x1 = 1)) fun x2 =>
  bif x2 then (
    slices_symMergeCmpFunc_int_h_Order_1_L0 a0 a3 a4 fuel a1 a2
  ) else (
    bnd (IntKind.wrap .i64 (a2 - a1)) fun x98 =>
    bnd (decide (x98 = 1)) fun x99 =>
    bif x99 then (
      slices_symMergeCmpFunc_int_h_Order_1_L2 a1 a3 a4 fuel a0 a1
    ) else (
      bnd (IntKind.wrap .i64 (a0 + a2)) fun x192 =>
      bnd (IntKind.wrap .u64 x192) fun x193 =>
      bno (shrI .u64 x193 1) fun x194 =>
      bnd (IntKind.wrap .i64 x194) fun x195 =>
      bnd (IntKind.wrap .i64 (x195 + a1)) fun x196 =>
      bnd (decide (x195 < a1)) fun x283 =>
      bif x283 then (
        bnd (IntKind.wrap .i64 (x196 - a2)) fun x285 =>
        slices_symMergeCmpFunc_int_h_Order_1_J4 rec0 a0 a1 a2 a3 a4 x195 x196 x285 x195
      ) else (
        slices_symMergeCmpFunc_int_h_Order_1_J4 rec0 a0 a1 a2 a3 a4 x195 x196 a0 a1
      )
    )
  )
def slices_symMergeCmpFunc_int_h_Order_1 : Nat → Int → Int → Int → (List Int) → (List Nat) → Option (List Int)
  | 0, _, _, _, _, _ => none
  | nr + 1, a0, a1, a2, a3, a4 => slices_symMergeCmpFunc_int_h_Order_1_B (slices_symMergeCmpFunc_int_h_Order_1 nr) a0 a1 a2 a3 a4

def slices_stableCmpFunc_int_h_Order_1_L2 (a0 : Int) (a2 : (List Nat)) (v56 : Int) (kk1 : (List Int) → Int → Option (List Int)) : Nat → (List Int) → Int → Int → Option (List Int)
  | 0, _, _, _ => none
  | n2 + 1, v101, v102, v103 =>
    bnd (decide (v103 ≤ a0)) fun x111 =>
    bif x111 then (
      bnd (IntKind.wrap .i64 (v102 + v56)) fun x113 =>
      bno (slices_symMergeCmpFunc_int_h_Order_1 fuel v102 x113 v103 v101 a2) fun x114 =>
      chk (x114.length = v101.length) <|
      bnd (IntKind.wrap .i64 (2 * v56)) fun x116 =>
      bnd (IntKind.wrap .i64 (v103 + x116)) fun x117 =>
      (slices_stableCmpFunc_int_h_Order_1_L2 a0 a2 v56 kk1 n2) x114 v103 x117
    ) else (
      bnd (IntKind.wrap .i64 (v102 + v56)) fun x118 =>
      bnd (decide (x118 < a0)) fun x119 =>
      bif x119 then (
        bno (slices_symMergeCmpFunc_int_h_Order_1 fuel v102 x118 a0 v101 a2) fun x121 =>
        chk (x121.length = v101.length) <|
        bnd (IntKind.wrap .i64 (v56 * 2)) fun x123 =>
        kk1 x121 x123
      ) else (
        bnd (IntKind.wrap .i64 (v56 * 2)) fun x124 =>
        kk1 v101 x124
      )
    )
def slices_stableCmpFunc_int_h_Order_1_L1 (a0 : Int) (a2 : (List Nat)) : Nat → (List Int) → Int → Option (List Int)
  | 0, _, _ => none
  | n1 + 1, v55, v56 =>
    bnd (decide (v56 < a0)) fun x91 =>
    bif x91 then (
      bnd (IntKind.wrap .i64 (2 * v56)) fun x93 =>
      slices_stableCmpFunc_int_h_Order_1_L2 a0 a2 v56 (slices_stableCmpFunc_int_h_Order_1_L1 a0 a2 n1) fuel v55 0 x93
    ) else (
      some v55
    )
def slices_stableCmpFunc_int_h_Order_1_L0 (a0 : Int) (a2 : (List Nat)) : Nat → (List Int) → Int → Int → Option (List Int)
  | 0, _, _, _ => none
  | n0 + 1, v6, v7, v8 =>
    bnd (decide (v8 ≤ a0)) fun x14 =>
    bif x14 then (
      bno (slices_insertionSortCmpFunc_int_h_Order_1 v7 v8 v6 a2) fun x16 =>
      chk (x16.length = v6.length) <|
      bnd (IntKind.wrap .i64 (v8 + 20)) fun x18 =>
      (slices_stableCmpFunc_int_h_Order_1_L0 a0 a2 n0) x16 v8 x18
    ) else (
      bno (slices_insertionSortCmpFunc_int_h_Order_1 v7 a0 v6 a2) fun x19 =>
      chk (x19.length = v6.length) <|
      slices_stableCmpFunc_int_h_Order_1_L1 a0 a2 fuel x19 20
    )
def slices_stableCmpFunc_int_h_Order_1 (a0 : Int) (a1 : (List Int)) (a2 : (List Nat)) : Option (List Int) :=
  slices_stableCmpFunc_int_h_Order_1_L0 a0 a2 fuel a1 0 20

def slices_SortStableFunc_int_int_h_Order_1 (a0 : (List Int)) (a1 : (List Nat)) : Option (List Int) :=
  bno (slices_stableCmpFunc_int_h_Order_1 (a0.length : Int) a0 a1) fun x1 =>
  chk (x1.length = a0.length) <|
  some x1

def gauge_Order_L0 (a0 : (List Nat)) : Nat → (List Int) → Int → Option (List Int)
  | 0, _, _ => none
  | n0 + 1, v5, v6 =>
    bnd (decide (v6 < (a0.length : Int))) fun x11 =>
    bif x11 then (
      bno (app 8 v5 ([v6] : (List Int))) fun x13 =>
      bnd (IntKind.wrap .i64 (v6 + 1)) fun x14 =>
      (gauge_Order_L0 a0 n0) x13 x14
    ) else (
      bno (slices_SortStableFunc_int_int_h_Order_1 v5 a0) fun x15 =>
      chk (x15.length = v5.length) <|
      some x15
    )
def gauge_Order (a0 : (List Nat)) : Option (List Int) :=
  gauge_Order_L0 a0 fuel ([] : (List Int)) 0

def gauge_Best (a0 : (List Nat)) : Option Int :=
  bno (gauge_Order a0) fun x1 =>
  bnd (decide ((x1.length : Int) = 0)) fun x2 =>
  bno (gd (x2 == false) (gix x1 0) default) fun x3 =>
  bno (gd (x2 == false) (gix a0 x3) default) fun x4 =>
  bno (gd (x2 == false) (math_IsNaN x4) default) fun x5 =>
  bnd (x2 || x5) fun x6 =>
  bif x6 then (
    some (-1)
  ) else (
    bno (gix x1 0) fun x8 =>
    some x8
  )

def sennitref02_SameInts_L0 (a0 : (List Int)) (a1 : (List Int)) : Nat → Int → Option Bool
  | 0, _ => none
  | n0 + 1, v10 =>
    bnd (decide (v10 < (a0.length : Int))) fun x18 =>
    bif x18 then (
      bno (gix a0 v10) fun x20 =>
      bno (gix a1 v10) fun x21 =>
      bnd (!decide (x20 = x21)) fun x22 =>
      bif x22 then (
        some false
      ) else (
        bnd (IntKind.wrap .i64 (v10 + 1)) fun x24 =>
        (sennitref02_SameInts_L0 a0 a1 n0) x24
      )
    ) else (
      some true
    )
def sennitref02_SameInts (a0 : (List Int)) (a1 : (List Int)) : Option Bool :=
  bnd (!decide ((a0.length : Int) = (a1.length : Int))) fun x1 =>
  bif x1 then (
    some false
  ) else (
    sennitref02_SameInts_L0 a0 a1 fuel 0
  )

def math_NaN  : Option Nat :=
  bnd (fcan .f64 (9221120237041090561 : Int).toNat) fun x1 =>
  some x1

def gauge_Fold_L0 (a0 : (List Nat)) : Nat → Nat → Int → Option Nat
  | 0, _, _ => none
  | n0 + 1, v7, v8 =>
    bnd (decide (v8 < (a0.length : Int))) fun x14 =>
    bif x14 then (
      bno (gix a0 v8) fun x16 =>
      bno (gauge_Smooth v7 x16) fun x17 =>
      bnd (IntKind.wrap .i64 (v8 + 1)) fun x18 =>
      (gauge_Fold_L0 a0 n0) x17 x18
    ) else (
      some v7
    )
def gauge_Fold (a0 : (List Nat)) : Option Nat :=
  bno (math_NaN) fun x1 =>
  gauge_Fold_L0 a0 fuel x1 0

def sennitlaw27_awake  : Option Bool :=
  bno (gauge_Rate 0 0) fun x1 =>
  bno (gauge_Rate 0 (-3)) fun x2 =>
  bno (gauge_Rate 7 0) fun x3 =>
  bno (gauge_Kind x1) fun x4 =>
  bnd (decide (x4 = 0)) fun x5 =>
  bno (gd (x5 == true) (gauge_Kind x2) default) fun x6 =>
  bnd (decide (x6 = 3)) fun x7 =>
  bnd (x5 && x7) fun x8 =>
  bno (gd (x8 == true) (gauge_Kind x3) default) fun x9 =>
  bnd (decide (x9 = 6)) fun x10 =>
  bnd (x8 && x10) fun x11 =>
  bno (gd (x11 == true) (gauge_Rate (-7) 0) default) fun x12 =>
  bno (gd (x11 == true) (gauge_Kind x12) default) fun x13 =>
  bnd (decide (x13 = 1)) fun x14 =>
  bnd (x11 && x14) fun x15 =>
  bno (gd (x15 == true) (gauge_Rate 1 2) default) fun x16 =>
  bno (gd (x15 == true) (gauge_Kind x16) default) fun x17 =>
  bnd (decide (x17 = 5)) fun x18 =>
  bnd (x15 && x18) fun x19 =>
  bno (gd (x19 == true) (gauge_Best ([x1, x2, 0] : (List Nat))) default) fun x20 =>
  bnd (decide (x20 = 1)) fun x21 =>
  bnd (x19 && x21) fun x22 =>
  bno (gd (x22 == true) (gauge_Best ([x1] : (List Nat))) default) fun x23 =>
  bnd (decide (x23 = (-1))) fun x24 =>
  bnd (x22 && x24) fun x25 =>
  bno (gd (x25 == true) (gauge_Order ([4607182418800017408, x1, x3, 4607182418800017408] : (List Nat))) default) fun x26 =>
  bno (gd (x25 == true) (sennitref02_SameInts x26 ([2, 0, 3, 1] : (List Int))) default) fun x27 =>
  bnd (x25 && x27) fun x28 =>
  bno (gd (x28 == true) (gauge_Smooth 4620693217682128896 4625196817309499392) default) fun x29 =>
  bnd (fCmp .eql x29 4621256167635550208) fun x30 =>
  bnd (x28 && x30) fun x31 =>
  bno (gd (x31 == true) (gauge_Fold ([x1, 4620693217682128896, x1, 0] : (List Nat))) default) fun x32 =>
  bnd (fCmp .eql x32 4619567317775286272) fun x33 =>
  bnd (x31 && x33) fun x34 =>
  bno (gd (x34 == true) (gauge_Compare x2 0) default) fun x35 =>
  bnd (decide (x35 = 0)) fun x36 =>
  bnd (x34 && x36) fun x37 =>
  bno (gd (x37 == true) (gauge_Compare x1 13830554455654793216) default) fun x38 =>
  bnd (decide (x38 = (-1))) fun x39 =>
  bnd (x37 && x39) fun x40 =>
  bno (gd (x40 == true) (gauge_Compare x1 x1) default) fun x41 =>
  bnd (decide (x41 = 0)) fun x42 =>
  bnd (x40 && x42) fun x43 =>
  bno (gd (x43 == true) (gauge_Same x1 x1) default) fun x44 =>
  bnd (x43 && x44) fun x45 =>
  bno (gd (x45 == true) (gauge_Same x2 0) default) fun x46 =>
  bnd (x45 && (!x46)) fun x47 =>
  bno (gd (x47 == true) (gauge_Bits x1) default) fun x48 =>
  bnd (decide (x48 = 9221120237041090561)) fun x49 =>
  bnd (x47 && x49) fun x50 =>
  bno (gd (x50 == true) (gauge_Bits 4607182418800017408) default) fun x51 =>
  bnd (decide (x51 = 4607182418800017408)) fun x52 =>
  bnd (x50 && x52) fun x53 =>
  some x53

def sennitlaw27_GaugeTells (a0 : Int) (a1 : Int) (a2 : T_anon23) : Option Bool :=
  bno (sennitref27_Of a0) fun x1 =>
  bno (sennitref27_Of a1) fun x2 =>
  bno (gauge_Kind x1) fun x3 =>
  bno (sennitref27_Kind x1) fun x4 =>
  bnd (decide (x3 = x4)) fun x5 =>
  bno (gd (x5 == true) (gauge_Bits x1) default) fun x6 =>
  bno (gd (x5 == true) (sennitref27_Bits x1) default) fun x7 =>
  bnd (decide (x6 = x7)) fun x8 =>
  bnd (x5 && x8) fun x9 =>
  bno (gd (x9 == true) (gauge_Same x1 x2) default) fun x10 =>
  bno (gd (x9 == true) (sennitref27_Bits x1) default) fun x11 =>
  bno (gd (x9 == true) (sennitref27_Bits x2) default) fun x12 =>
  bnd (decide (x11 = x12)) fun x13 =>
  bnd (x10 == x13) fun x14 =>
  bnd (x9 && x14) fun x15 =>
  bno (gd (x15 == true) (gauge_Compare x1 x2) default) fun x16 =>
  bno (gd (x15 == true) (sennitref27_Compare x1 x2) default) fun x17 =>
  bnd (decide (x16 = x17)) fun x18 =>
  bnd (x15 && x18) fun x19 =>
  bno (gd (x19 == true) (gauge_Smooth x1 x2) default) fun x20 =>
  bno (gd (x19 == true) (sennitref27_Bits x20) default) fun x21 =>
  bno (gd (x19 == true) (sennitref27_Smooth x1 x2) default) fun x22 =>
  bno (gd (x19 == true) (sennitref27_Bits x22) default) fun x23 =>
  bnd (decide (x21 = x23)) fun x24 =>
  bnd (x19 && x24) fun x25 =>
  bno (gd (x25 == true) (gauge_Rate a2.c0 a2.c1) default) fun x26 =>
  bno (gd (x25 == true) (sennitref27_Bits x26) default) fun x27 =>
  bno (gd (x25 == true) (sennitref27_Rate a2.c0 a2.c1) default) fun x28 =>
  bno (gd (x25 == true) (sennitref27_Bits x28) default) fun x29 =>
  bnd (decide (x27 = x29)) fun x30 =>
  bnd (x25 && x30) fun x31 =>
  bno (gd (x31 == true) (sennitlaw27_awake) default) fun x32 =>
  bnd (x31 && x32) fun x33 =>
  some x33

def sennitlaw27_of_L0 (a0 : (List Int)) : Nat → (List Nat) → Int → Option (List Nat)
  | 0, _, _ => none
  | n0 + 1, v7, v8 =>
    bnd (decide (v8 < (a0.length : Int))) fun x15 =>
    bif x15 then (
      bno (gix a0 v8) fun x17 =>
      bno (sennitref27_Of x17) fun x18 =>
      bno (app 8 v7 ([x18] : (List Nat))) fun x19 =>
      bnd (IntKind.wrap .i64 (v8 + 1)) fun x20 =>
      (sennitlaw27_of_L0 a0 n0) x19 x20
    ) else (
      some v7
    )
def sennitlaw27_of (a0 : (List Int)) : Option (List Nat) :=
  sennitlaw27_of_L0 a0 fuel ([] : (List Nat)) 0

def sennitref27_Best_L0 (a0 : (List Nat)) : Nat → Int → Int → Option Int
  | 0, _, _ => none
  | n0 + 1, v15, v16 =>
    bnd (decide (v16 < (a0.length : Int))) fun x31 =>
    bif x31 then (
      bno (gix a0 v16) fun x33 =>
      bno (sennitref27_nan x33) fun x34 =>
      bnd (decide (v15 < 0)) fun x35 =>
      bno (gd (((!x34) == true) && (x35 == false)) (gix a0 v16) default) fun x36 =>
      bno (gd (((!x34) == true) && (x35 == false)) (gix a0 v15) default) fun x37 =>
      bno (gd (((!x34) == true) && (x35 == false)) (sennitref27_Compare x36 x37) default) fun x38 =>
      bnd (decide (0 < x38)) fun x39 =>
      bnd (x35 || x39) fun x40 =>
      bnd ((!x34) && x40) fun x41 =>
      bif x41 then (
        bnd (IntKind.wrap .i64 (v16 + 1)) fun x43 =>
        (sennitref27_Best_L0 a0 n0) v16 x43
      ) else (
        bnd (IntKind.wrap .i64 (v16 + 1)) fun x44 =>
        (sennitref27_Best_L0 a0 n0) v15 x44
      )
    ) else (
      some v15
    )
def sennitref27_Best (a0 : (List Nat)) : Option Int :=
  sennitref27_Best_L0 a0 fuel (-1) 0

def sennitref27_Order_L1 (a0 : (List Nat)) (v40 : (List Int)) (v41 : Int) (kk0 : (List Int) → Int → Option (List Int)) : Nat → Int → Option (List Int)
  | 0, _ => none
  | n1 + 1, v93 =>
    bnd (decide (0 < v93)) fun x104 =>
    bno (gd (x104 == true) (gix a0 v41) default) fun x105 =>
    bnd (IntKind.wrap .i64 (v93 - 1)) fun x106 =>
    bno (gd (x104 == true) (gix v40 x106) default) fun x107 =>
    bno (gd (x104 == true) (gix a0 x107) default) fun x108 =>
    bno (gd (x104 == true) (sennitref27_Compare x105 x108) default) fun x109 =>
    bnd (decide (0 < x109)) fun x110 =>
    bnd (x104 && x110) fun x111 =>
    bif x111 then (
      bnd (IntKind.wrap .i64 (v93 - 1)) fun x113 =>
      (sennitref27_Order_L1 a0 v40 v41 kk0 n1) x113
    ) else (
      bno (cut v40 0 v93) fun x114 =>
      bno (app 8 ([] : (List Int)) x114) fun x115 =>
      bno (app 8 x115 ([v41] : (List Int))) fun x116 =>
      bno (cut v40 v93 (v40.length : Int)) fun x117 =>
      bno (app 8 x116 x117) fun x118 =>
      bnd (IntKind.wrap .i64 (v41 + 1)) fun x119 =>
      kk0 x118 x119
    )
def sennitref27_Order_L0 (a0 : (List Nat)) : Nat → (List Int) → Int → Option (List Int)
  | 0, _, _ => none
  | n0 + 1, v40, v41 =>
    bnd (decide (v41 < (a0.length : Int))) fun x81 =>
    bif x81 then (
      sennitref27_Order_L1 a0 v40 v41 (sennitref27_Order_L0 a0 n0) fuel (v40.length : Int)
    ) else (
      some v40
    )
def sennitref27_Order (a0 : (List Nat)) : Option (List Int) :=
  sennitref27_Order_L0 a0 fuel ([] : (List Int)) 0

def sennitref27_Fold_L0 (a0 : (List Nat)) : Nat → Nat → Int → Option Nat
  | 0, _, _ => none
  | n0 + 1, v7, v8 =>
    bnd (decide (v8 < (a0.length : Int))) fun x14 =>
    bif x14 then (
      bno (gix a0 v8) fun x16 =>
      bno (sennitref27_Smooth v7 x16) fun x17 =>
      bnd (IntKind.wrap .i64 (v8 + 1)) fun x18 =>
      (sennitref27_Fold_L0 a0 n0) x17 x18
    ) else (
      some v7
    )
def sennitref27_Fold (a0 : (List Nat)) : Option Nat :=
  bnd (fcan .f64 (9221120237041090561 : Int).toNat) fun x1 =>
  sennitref27_Fold_L0 a0 fuel x1 0

def sennitlaw27_GaugeOrders (a0 : (List Int)) : Option Bool :=
  bnd (decide (60 < (a0.length : Int))) fun x1 =>
  bif x1 then (
    bno (sennitlaw27_awake) fun x3 =>
    some x3
  ) else (
    bno (sennitlaw27_of a0) fun x4 =>
    bno (gauge_Best x4) fun x5 =>
    bno (sennitref27_Best x4) fun x6 =>
    bnd (decide (x5 = x6)) fun x7 =>
    bno (gd (x7 == true) (gauge_Order x4) default) fun x8 =>
    bno (gd (x7 == true) (sennitref27_Order x4) default) fun x9 =>
    bno (gd (x7 == true) (sennitref02_SameInts x8 x9) default) fun x10 =>
    bnd (x7 && x10) fun x11 =>
    bno (gd (x11 == true) (gauge_Fold x4) default) fun x12 =>
    bno (gd (x11 == true) (sennitref27_Bits x12) default) fun x13 =>
    bno (gd (x11 == true) (sennitref27_Fold x4) default) fun x14 =>
    bno (gd (x11 == true) (sennitref27_Bits x14) default) fun x15 =>
    bnd (decide (x13 = x15)) fun x16 =>
    bnd (x11 && x16) fun x17 =>
    bno (gd (x17 == true) (sennitlaw27_awake) default) fun x18 =>
    bnd (x17 && x18) fun x19 =>
    some x19
  )

def sennitlaw27_GaugeBetween (a0 : Int) (a1 : Int) : Option Bool :=
  bnd (floatOfInt .f64 a0) fun x1 =>
  bnd (floatOfInt .f64 a1) fun x2 =>
  bno (gauge_Smooth x1 x2) fun x3 =>
  bno (fMin x1 x2) fun x4 =>
  bno (fMax x1 x2) fun x5 =>
  bno (gauge_Compare x3 x4) fun x6 =>
  bnd (decide (0 ≤ x6)) fun x7 =>
  bno (gd (x7 == true) (gauge_Compare x3 x5) default) fun x8 =>
  bnd (decide (x8 ≤ 0)) fun x9 =>
  bnd (x7 && x9) fun x10 =>
  bnd (!decide (a0 = a1)) fun x11 =>
  bno (gd ((x10 == true) && (x11 == false)) (gauge_Same x3 x1) default) fun x12 =>
  bnd (x11 || x12) fun x13 =>
  bnd (x10 && x13) fun x14 =>
  bnd (fAr .sub x3 x1) fun x15 =>
  bnd (fAr .mul 4620693217682128896 x15) fun x16 =>
  bnd (fAr .sub x2 x1) fun x17 =>
  bnd (fCmp .eql x16 x17) fun x18 =>
  bnd (x14 && x18) fun x19 =>
  bno (gd (x19 == true) (gauge_Kind x3) default) fun x20 =>
  bnd (!decide (x20 = 0)) fun x21 =>
  bnd (x19 && x21) fun x22 =>
  bno (gd (x22 == true) (sennitlaw27_awake) default) fun x23 =>
  bnd (x22 && x23) fun x24 =>
  some x24

def sennitlaw27_GaugeRates (a0 : Int) (a1 : Int) : Option Bool :=
  bnd (IntKind.wrap .i64 a0) fun x1 =>
  bnd (IntKind.wrap .i64 a1) fun x2 =>
  bnd (decide (0 < x2)) fun x3 =>
  bnd (IntKind.wrap .i64 (x1 * x2)) fun x4 =>
  bno (gd (x3 == true) (gauge_Rate x4 x2) default) fun x5 =>
  bnd (floatOfInt .f64 x1) fun x6 =>
  bnd (fCmp .neq x5 x6) fun x7 =>
  bnd (x3 && x7) fun x8 =>
  bif x8 then (
    some false
  ) else (
    bno (gauge_Rate x1 0) fun x10 =>
    bno (gauge_Kind x10) fun x11 =>
    bnd (IntKind.wrap .i64 (0 - x1)) fun x12 =>
    bno (gauge_Rate x12 0) fun x13 =>
    bno (gauge_Kind x13) fun x14 =>
    bnd (decide (x1 = 0)) fun x15 =>
    bnd (decide (x11 = 0)) fun x16 =>
    bnd (x15 == x16) fun x17 =>
    bnd (decide (0 < x1)) fun x18 =>
    bnd (decide (x11 = 6)) fun x19 =>
    bnd (x18 == x19) fun x20 =>
    bnd (x17 && x20) fun x21 =>
    bnd (decide (0 < x1)) fun x22 =>
    bnd (decide (x14 = 1)) fun x23 =>
    bnd (x22 == x23) fun x24 =>
    bnd (x21 && x24) fun x25 =>
    bnd (IntKind.wrap .i64 (2 * x1)) fun x26 =>
    bnd (IntKind.wrap .i64 (2 * x2)) fun x27 =>
    bno (gd (x25 == true) (gauge_Rate x26 x27) default) fun x28 =>
    bno (gd (x25 == true) (gauge_Rate x1 x2) default) fun x29 =>
    bno (gd (x25 == true) (gauge_Same x28 x29) default) fun x30 =>
    bnd (x25 && x30) fun x31 =>
    bnd (IntKind.wrap .i64 (x1 + 1)) fun x32 =>
    bnd (IntKind.wrap .i64 (x2 + 1)) fun x33 =>
    bno (gd (x31 == true) (gauge_Rate x32 x33) default) fun x34 =>
    bnd (IntKind.wrap .i64 (x2 + 1)) fun x35 =>
    bno (gd (x31 == true) (gauge_Rate x1 x35) default) fun x36 =>
    bno (gd (x31 == true) (gauge_Compare x34 x36) default) fun x37 =>
    bnd (decide (x37 = 1)) fun x38 =>
    bnd (x31 && x38) fun x39 =>
    bno (gd (x39 == true) (sennitlaw27_awake) default) fun x40 =>
    bnd (x39 && x40) fun x41 =>
    some x41
  )

def sennitlaw27_GaugeOrder_L0 (x21 : (List Nat)) (x22 : (List Int)) : Nat → Int → (List Bool) → Option Bool
  | 0, _, _ => none
  | n0 + 1, v66, v67 =>
    bnd (decide (v66 < (x22.length : Int))) fun x110 =>
    bif x110 then (
      bno (gix x22 v66) fun x112 =>
      bnd (decide (x112 < 0)) fun x113 =>
      bno (gd (x113 == false) (gix x22 v66) default) fun x114 =>
      bnd (decide ((x21.length : Int) ≤ x114)) fun x115 =>
      bnd (x113 || x115) fun x116 =>
      bno (gd (x116 == false) (gix x22 v66) default) fun x117 =>
      bno (gd (x116 == false) (gix v67 x117) default) fun x118 =>
      chk ((x116 == false) = true → v67.length = 60) <|
      bno (gd (x116 == false) (v67[(x117 : Int).toNat]?) default) fun x120 =>
      bnd (x116 || x120) fun x121 =>
      bif x121 then (
        some false
      ) else (
        bno (gix x22 v66) fun x123 =>
        bno (gix v67 x123) fun x124 =>
        chk (v67.length = 60) <|
        bno (v67[(x123 : Int).toNat]?) fun x126 =>
        bnd (v67.set ((x123 : Int).toNat) true) fun x127 =>
        bnd (decide (0 < v66)) fun x128 =>
        bnd (IntKind.wrap .i64 (v66 - 1)) fun x129 =>
        bno (gd (x128 == true) (gix x22 x129) default) fun x130 =>
        bno (gd (x128 == true) (gix x21 x130) default) fun x131 =>
        bno (gd (x128 == true) (gix x22 v66) default) fun x132 =>
        bno (gd (x128 == true) (gix x21 x132) default) fun x133 =>
        bno (gd (x128 == true) (gauge_Compare x131 x133) default) fun x134 =>
        bnd (decide (x134 < 0)) fun x135 =>
        bnd (IntKind.wrap .i64 (v66 - 1)) fun x136 =>
        bno (gd ((x128 == true) && (x135 == false)) (gix x22 x136) default) fun x137 =>
        bno (gd ((x128 == true) && (x135 == false)) (gix x21 x137) default) fun x138 =>
        bno (gd ((x128 == true) && (x135 == false)) (gix x22 v66) default) fun x139 =>
        bno (gd ((x128 == true) && (x135 == false)) (gix x21 x139) default) fun x140 =>
        bno (gd ((x128 == true) && (x135 == false)) (gauge_Compare x138 x140) default) fun x141 =>
        bnd (decide (x141 = 0)) fun x142 =>
        bnd (IntKind.wrap .i64 (v66 - 1)) fun x143 =>
        bno (gd (((x128 == true) && (x135 == false)) && (x142 == true)) (gix x22 x143) default) fun x144 =>
        bno (gd (((x128 == true) && (x135 == false)) && (x142 == true)) (gix x22 v66) default) fun x145 =>
        bnd (decide (x145 < x144)) fun x146 =>
        bnd (x142 && x146) fun x147 =>
        bnd (x135 || x147) fun x148 =>
        bnd (x128 && x148) fun x149 =>
        bif x149 then (
          some false
        ) else (
          bnd (IntKind.wrap .i64 (v66 + 1)) fun x151 =>
          (sennitlaw27_GaugeOrder_L0 x21 x22 n0) x151 x127
        )
      )
    ) else (
      bno (gauge_Best x21) fun x152 =>
      bnd (decide (x152 < 0)) fun x153 =>
      bno (gd (x153 == false) (gix x22 0) default) fun x154 =>
      bnd (decide (x152 = x154)) fun x155 =>
      bnd (x153 || x155) fun x156 =>
      bnd (decide (0 ≤ x152)) fun x157 =>
      bnd (decide ((x22.length : Int) = 0)) fun x158 =>
      bnd (x157 || x158) fun x159 =>
      bno (gd ((x156 == true) && (x159 == false)) (gix x22 0) default) fun x160 =>
      bno (gd ((x156 == true) && (x159 == false)) (gix x21 x160) default) fun x161 =>
      bno (gd ((x156 == true) && (x159 == false)) (gauge_Kind x161) default) fun x162 =>
      bnd (decide (x162 = 0)) fun x163 =>
      bnd (x159 || x163) fun x164 =>
      bnd (x156 && x164) fun x165 =>
      bno (gd (x165 == true) (sennitlaw27_awake) default) fun x166 =>
      bnd (x165 && x166) fun x167 =>
      some x167
    )
def sennitlaw27_GaugeOrder (a0 : T_anon43) (a1 : (List Int)) : Option Bool :=
  bnd (decide (60 < (a1.length : Int))) fun x1 =>
  bif x1 then (
    bno (sennitlaw27_awake) fun x3 =>
    some x3
  ) else (
    bno (sennitref27_Of a0.c0) fun x4 =>
    bno (sennitref27_Of a0.c1) fun x5 =>
    bno (sennitref27_Of a0.c2) fun x6 =>
    bno (gauge_Compare x4 x5) fun x7 =>
    bno (gauge_Compare x5 x4) fun x8 =>
    bnd (IntKind.wrap .i64 (0 - x8)) fun x9 =>
    bnd (!decide (x7 = x9)) fun x10 =>
    bno (gd (x10 == false) (gauge_Compare x4 x5) default) fun x11 =>
    bnd (decide (x11 ≤ 0)) fun x12 =>
    bno (gd ((x10 == false) && (x12 == true)) (gauge_Compare x5 x6) default) fun x13 =>
    bnd (decide (x13 ≤ 0)) fun x14 =>
    bnd (x12 && x14) fun x15 =>
    bno (gd ((x10 == false) && (x15 == true)) (gauge_Compare x4 x6) default) fun x16 =>
    bnd (decide (0 < x16)) fun x17 =>
    bnd (x15 && x17) fun x18 =>
    bnd (x10 || x18) fun x19 =>
    bif x19 then (
      some false
    ) else (
      bno (sennitlaw27_of a1) fun x21 =>
      bno (gauge_Order x21) fun x22 =>
      bnd (!decide ((x22.length : Int) = (x21.length : Int))) fun x23 =>
      bif x23 then (
        some false
      ) else (
        bnd ((List.replicate 60 false : (List Bool))) fun x25 =>
        sennitlaw27_GaugeOrder_L0 x21 x22 fuel 0 x25
      )
    )
  )
end Go.Fn
