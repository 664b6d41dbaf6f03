/-
  A part of the proof: rules and plain facts. No condition.
-/
import Derived.Test.YtalalambgppmpaaIlTm
set_option linter.all false
set_option linter.unusedSimpArgs false
set_option linter.unusedVariables false
open Go Go.IL
namespace Go.Fn
structure T_stid_State where
  Odd : Bool
  Next : Int
  Last : Int
  Live : (List Int)
  Cut : (List Int)
  Mine : Int
  Hers : Int
  Heard : Int
  Told : Int
  deriving DecidableEq, Inhabited
def E_stid_State : Enc T_stid_State := ⟨⟨fun x => .agg [.bool x.Odd, .int .i64 x.Next, .int .i64 x.Last, .slice false (x.Live.map (eInt .i64).d), .slice false (x.Cut.map (eInt .i64).d), .int .i64 x.Mine, .int .i64 x.Hers, .int .i64 x.Heard, .int .i64 x.Told], 9, by decide, fun _ => ⟨rfl, rfl⟩⟩, fun _ => rfl⟩

structure T_rules_Verdict where
  Scope : Int
  Code : Int
  deriving DecidableEq, Inhabited
def E_rules_Verdict : Enc T_rules_Verdict := ⟨⟨fun x => .agg [.int .i64 x.Scope, .int .u32 x.Code], 2, by decide, fun _ => ⟨rfl, rfl⟩⟩, fun _ => rfl⟩

structure T_sennitref17_Verdict where
  Scope : Int
  Code : Int
  deriving DecidableEq, Inhabited
def E_sennitref17_Verdict : Enc T_sennitref17_Verdict := ⟨⟨fun x => .agg [.int .i64 x.Scope, .int .i64 x.Code], 2, by decide, fun _ => ⟨rfl, rfl⟩⟩, fun _ => rfl⟩

structure T_sennitlaw22_Act where
  Kind : Int
  ID : Int
  deriving DecidableEq, Inhabited
def E_sennitlaw22_Act : Enc T_sennitlaw22_Act := ⟨⟨fun x => .agg [.int .u8 x.Kind, .int .u8 x.ID], 2, by decide, fun _ => ⟨rfl, rfl⟩⟩, fun _ => rfl⟩

structure T_anon70 where
  c0 : Int
  c1 : Int
  deriving DecidableEq, Inhabited
def E_anon70 : Enc T_anon70 := ⟨⟨fun x => .agg [.int .u8 x.c0, .int .u8 x.c1], 2, by decide, fun _ => ⟨rfl, rfl⟩⟩, fun _ => rfl⟩

def sennitref22_Light (a0 : T_stid_State) : Option Bool :=
  bnd (decide ((a0.Live.length : Int) ≤ 30)) fun x1 =>
  bnd (decide ((a0.Cut.length : Int) ≤ 30)) fun x2 =>
  bnd (x1 && x2) fun x3 =>
  some x3

def stid_in (a0 : Int) (a1 : Int) (a2 : Int) : Option Bool :=
  bnd (decide (a1 ≤ a0)) fun x1 =>
  bnd (decide (a0 ≤ a2)) fun x2 =>
  bnd (x1 && x2) fun x3 =>
  some x3

def stid_Own (a0 : T_stid_State) (a1 : Int) : Option Bool :=
  bnd (decide (0 < a1)) fun x1 =>
  bnd (andI .i64 a1 1) fun x2 =>
  bnd (decide (x2 = 1)) fun x3 =>
  bnd (x3 == a0.Odd) fun x4 =>
  bnd (x1 && x4) fun x5 =>
  some x5

def stid_State_numbers (a0 : T_stid_State) : Option Bool :=
  bno (stid_in a0.Next 1 1048578) fun x1 =>
  bno (gd ((!x1) == false) (stid_Own a0 a0.Next) default) fun x2 =>
  bnd ((!x1) || (!x2)) fun x3 =>
  bno (gd (x3 == false) (stid_in a0.Last 0 1048576) default) fun x4 =>
  bnd (x3 || (!x4)) fun x5 =>
  bno (gd (x5 == false) (stid_Own a0 a0.Last) default) fun x6 =>
  bnd (x5 || x6) fun x7 =>
  bif x7 then (
    some false
  ) else (
    bno (stid_in a0.Heard (-1) 1048576) fun x9 =>
    bno (gd (x9 == true) (stid_in a0.Told (-1) 1048576) default) fun x10 =>
    bnd (x9 && x10) fun x11 =>
    bno (gd (x11 == true) (stid_in a0.Mine 0 8) default) fun x12 =>
    bnd (x11 && x12) fun x13 =>
    bno (gd (x13 == true) (stid_in a0.Hers 0 8) default) fun x14 =>
    bnd (x13 && x14) fun x15 =>
    some x15
  )

def stid_State_began (a0 : T_stid_State) (a1 : Int) : Option Bool :=
  bno (stid_Own a0 a1) fun x1 =>
  bif x1 then (
    bnd (decide (a1 < a0.Next)) fun x3 =>
    some x3
  ) else (
    bno (stid_in a1 1 a0.Last) fun x4 =>
    some x4
  )

def stid_State_rises_L0 (a0 : T_stid_State) : Nat → Int → Int → Option Bool
  | 0, _, _ => none
  | n0 + 1, v11, v12 =>
    bnd (decide (v12 < (a0.Live.length : Int))) fun x21 =>
    bif x21 then (
      bno (gix a0.Live v12) fun x23 =>
      bnd (decide (x23 ≤ v11)) fun x24 =>
      bno (gd (x24 == false) (stid_State_began a0 x23) default) fun x25 =>
      bnd (x24 || (!x25)) fun x26 =>
      bif x26 then (
        some false
      ) else (
        bnd (IntKind.wrap .i64 (v12 + 1)) fun x28 =>
        (stid_State_rises_L0 a0 n0) x23 x28
      )
    ) else (
      some true
    )
def stid_State_rises (a0 : T_stid_State) : Option Bool :=
  bnd (decide (16 < (a0.Live.length : Int))) fun x1 =>
  bif x1 then (
    some false
  ) else (
    stid_State_rises_L0 a0 fuel 0 0
  )

def slices_Grow_int_int_h_n (a0 : Int) : Option (List Int) := growS 8 a0

def slices_Concat_int_int_L1 (a0 : (List (List Int))) : Nat → (List Int) → Int → Option (List Int)
  | 0, _, _ => none
  | n1 + 1, v30, v31 =>
    bnd (decide (v31 < (a0.length : Int))) fun x37 =>
    bif x37 then (
      bno (gix a0 v31) fun x39 =>
      bno (app 8 v30 x39) fun x40 =>
      bnd (IntKind.wrap .i64 (v31 + 1)) fun x41 =>
      (slices_Concat_int_int_L1 a0 n1) x40 x41
    ) else (
      some v30
    )
def slices_Concat_int_int_L0 (a0 : (List (List Int))) : Nat → Int → Int → Option (List Int)
  | 0, _, _ => none
  | n0 + 1, v8, v9 =>
    bnd (decide (v9 < (a0.length : Int))) fun x17 =>
    bif x17 then (
      bno (gix a0 v9) fun x19 =>
      bnd (IntKind.wrap .i64 (v8 + (x19.length : Int))) fun x20 =>
      bnd (decide (x20 < 0)) fun x21 =>
      bif x21 then (
        none
      ) else (
        bnd (IntKind.wrap .i64 (v9 + 1)) fun x23 =>
        (slices_Concat_int_int_L0 a0 n0) x20 x23
      )
    ) else (
      bno (slices_Grow_int_int_h_n v8) fun x24 =>
      slices_Concat_int_int_L1 a0 fuel x24 0
    )
def slices_Concat_int_int (a0 : (List (List Int))) : Option (List Int) :=
  slices_Concat_int_int_L0 a0 fuel 0 0

def stid_State_apart_L1 (a0 : T_stid_State) (v30 : Bool) (v31 : Int) (kk0 : Bool → Int → Option Bool) (x61 : Int) (x63 : (List Int)) : Nat → Int → Option Bool
  | 0, _ => none
  | n1 + 1, v70 =>
    bnd (decide (v70 < (x63.length : Int))) fun x77 =>
    bif x77 then (
      bno (gix x63 v70) fun x79 =>
      bnd (decide (x79 = x61)) fun x80 =>
      bif x80 then (
        some false
      ) else (
        bnd (IntKind.wrap .i64 (v70 + 1)) fun x82 =>
        (stid_State_apart_L1 a0 v30 v31 kk0 x61 x63 n1) x82
      )
    ) else (
      bno (gd (v30 == true) (stid_State_began a0 x61) default) fun x83 =>
      bnd (v30 && x83) fun x84 =>
      bnd (IntKind.wrap .i64 (v31 + 1)) fun x85 =>
      kk0 x84 x85
    )
def stid_State_apart_L0 (a0 : T_stid_State) : Nat → Bool → Int → Option Bool
  | 0, _, _ => none
  | n0 + 1, v30, v31 =>
    bnd (decide (v31 < (a0.Cut.length : Int))) fun x59 =>
    bif x59 then (
      bno (gix a0.Cut v31) fun x61 =>
      bno (cut a0.Cut 0 v31) fun x62 =>
      bno (slices_Concat_int_int ([a0.Live, x62] : (List (List Int)))) fun x63 =>
      stid_State_apart_L1 a0 v30 v31 (stid_State_apart_L0 a0 n0) x61 x63 fuel 0
    ) else (
      some v30
    )
def stid_State_apart (a0 : T_stid_State) : Option Bool :=
  bnd (decide (8 < (a0.Cut.length : Int))) fun x1 =>
  bif x1 then (
    some false
  ) else (
    stid_State_apart_L0 a0 fuel true 0
  )

def stid_Check (a0 : T_stid_State) : Option Int :=
  bno (stid_State_numbers a0) fun x1 =>
  bif (!x1) then (
    some 8
  ) else (
    bno (stid_State_rises a0) fun x3 =>
    bif (!x3) then (
      some 4
    ) else (
      bno (stid_State_apart a0) fun x5 =>
      bif (!x5) then (
        some 10
      ) else (
        some 0
      )
    )
  )

def stid_New_J0 (a0 : Bool) (a1 : Int) (a2 : Int) (v3 : Int) : Option (T_stid_State × Int) :=
  bno (stid_Check ((⟨a0, v3, 0, [], [], a1, a2, (-1), (-1)⟩ : T_stid_State))) fun x4 =>
  bnd (!decide (x4 = 0)) fun x5 =>
  bif x5 then (
    some ((⟨false, 0, 0, [], [], 0, 0, 0, 0⟩ : T_stid_State), x4)
  ) else (
    some (((⟨a0, v3, 0, [], [], a1, a2, (-1), (-1)⟩ : T_stid_State), 0))
  )
def stid_New (a0 : Bool) (a1 : Int) (a2 : Int) : Option (T_stid_State × Int) :=
  bif (!a0) then (
    bnd (IntKind.wrap .i64 (1 + 1)) fun x8 =>
    stid_New_J0 a0 a1 a2 x8
  ) else (
    stid_New_J0 a0 a1 a2 1
  )

def slices_Clone_int_int_h (a0 : (List Int)) : Option (List Int) :=
  bothE a0 (
    some ([] : (List Int))
  ) (
    bno (app 8 ([] : (List Int)) a0) fun x3 =>
    some x3
  )

def stid_State_own_h (a0 : T_stid_State) : Option (Bool × Int × Int × (List Int) × (List Int) × Int × Int × Int × Int) :=
  bno (slices_Clone_int_int_h a0.Live) fun x1 =>
  bno (slices_Clone_int_int_h a0.Cut) fun x2 =>
  some (a0.Odd, a0.Next, a0.Last, x1, x2, a0.Mine, a0.Hers, a0.Heard, a0.Told)

def stid_Count_L0 (a0 : T_stid_State) : Nat → Int → Int → Option (Int × Int)
  | 0, _, _ => none
  | n0 + 1, v9, v10 =>
    bnd (decide (v10 < (a0.Live.length : Int))) fun x19 =>
    bif x19 then (
      bno (gix a0.Live v10) fun x21 =>
      bno (stid_Own a0 x21) fun x22 =>
      bif x22 then (
        bnd (IntKind.wrap .i64 (v9 + 1)) fun x24 =>
        bnd (IntKind.wrap .i64 (v10 + 1)) fun x25 =>
        (stid_Count_L0 a0 n0) x24 x25
      ) else (
        bnd (IntKind.wrap .i64 (v10 + 1)) fun x26 =>
        (stid_Count_L0 a0 n0) v9 x26
      )
    ) else (
      bnd (IntKind.wrap .i64 ((a0.Live.length : Int) - v9)) fun x27 =>
      some (v9, x27)
    )
def stid_Count (a0 : T_stid_State) : Option (Int × Int) :=
  stid_Count_L0 a0 fuel 0 0

def cmp_isNaN_int (a0 : Int) : Option Bool :=
  bnd (!decide (a0 = a0)) fun x1 =>
  some x1

def cmp_Less_int (a0 : Int) (a1 : Int) : Option Bool :=
  bno (cmp_isNaN_int a0) fun x1 =>
  bno (gd (x1 == true) (cmp_isNaN_int a1) default) fun x2 =>
  bnd (x1 && (!x2)) fun x3 =>
  bnd (decide (a0 < a1)) fun x4 =>
  bnd (x3 || x4) fun x5 =>
  some x5

def slices_isNaN_int (a0 : Int) : Option Bool :=
  bnd (!decide (a0 = a0)) fun x1 =>
  some x1

def slices_BinarySearch_int_int_L0 (a0 : (List Int)) (a1 : Int) : Nat → Int → Int → Option (Int × Bool)
  | 0, _, _ => none
  | n0 + 1, v11, v12 =>
    bnd (decide (v11 < v12)) fun x23 =>
    bif x23 then (
      bnd (IntKind.wrap .i64 (v11 + v12)) fun x25 =>
      bnd (IntKind.wrap .u64 x25) fun x26 =>
      bno (shrI .u64 x26 1) fun x27 =>
      bnd (IntKind.wrap .i64 x27) fun x28 =>
      bno (gix a0 x28) fun x29 =>
      bno (cmp_Less_int x29 a1) fun x30 =>
      bif x30 then (
        bnd (IntKind.wrap .i64 (x28 + 1)) fun x32 =>
        (slices_BinarySearch_int_int_L0 a0 a1 n0) x32 v12
      ) else (
        (slices_BinarySearch_int_int_L0 a0 a1 n0) v11 x28
      )
    ) else (
      bnd (decide (v11 < (a0.length : Int))) fun x33 =>
      bno (gd (x33 == true) (gix a0 v11) default) fun x34 =>
      bnd (decide (x34 = a1)) fun x35 =>
      bno (gd ((x33 == true) && (x35 == false)) (gix a0 v11) default) fun x36 =>
      bno (gd ((x33 == true) && (x35 == false)) (slices_isNaN_int x36) default) fun x37 =>
      bno (gd (((x33 == true) && (x35 == false)) && (x37 == true)) (slices_isNaN_int a1) default) fun x38 =>
      bnd (x37 && x38) fun x39 =>
      bnd (x35 || x39) fun x40 =>
      bnd (x33 && x40) fun x41 =>
      some (v11, x41)
    )
def slices_BinarySearch_int_int (a0 : (List Int)) (a1 : Int) : Option (Int × Bool) :=
  slices_BinarySearch_int_int_L0 a0 a1 fuel 0 (a0.length : Int)

def slices_Insert_int_int_h (a0 : Int) (a1 : (List Int)) (a2 : (List Int)) : Option (List Int) := insS 8 a2 a0 a1

def stid_State_born_h (a0 : Bool) (a1 : Int) (a2 : Int) (a3 : Int) (a4 : Int) (a5 : Int) (a6 : Int) (a7 : Int) (a8 : (List Int)) (a9 : (List Int)) : Option (Bool × Int × Int × (List Int) × (List Int) × Int × Int × Int × Int) :=
  bno (slices_BinarySearch_int_int a8 a7) fun x1 =>
  bno (slices_Insert_int_int_h x1.1 ([a7] : (List Int)) a8) fun x2 =>
  some (a0, a1, a2, x2, a9, a3, a4, a5, a6)

def stid_Open (a0 : T_stid_State) : Option (T_stid_State × Int × Int) :=
  bno (stid_State_own_h a0) fun x1 =>
  bno (stid_Check a0) fun x2 =>
  bnd (!decide (x2 = 0)) fun x3 =>
  bif x3 then (
    some ((⟨x1.1, x1.2.1, x1.2.2.1, x1.2.2.2.1, x1.2.2.2.2.1, x1.2.2.2.2.2.1, x1.2.2.2.2.2.2.1, x1.2.2.2.2.2.2.2.1, x1.2.2.2.2.2.2.2.2⟩ : T_stid_State), 0, x2)
  ) else (
    bno (stid_Count a0) fun x5 =>
    bnd (max a0.Heard a0.Told) fun x6 =>
    bnd (decide ((-1) < x6)) fun x7 =>
    bif x7 then (
      some ((⟨x1.1, x1.2.1, x1.2.2.1, x1.2.2.2.1, x1.2.2.2.2.1, x1.2.2.2.2.2.1, x1.2.2.2.2.2.2.1, x1.2.2.2.2.2.2.2.1, x1.2.2.2.2.2.2.2.2⟩ : T_stid_State), 0, 14)
    ) else (
      bnd (decide (a0.Mine ≤ x5.1)) fun x9 =>
      bif x9 then (
        some ((⟨x1.1, x1.2.1, x1.2.2.1, x1.2.2.2.1, x1.2.2.2.2.1, x1.2.2.2.2.2.1, x1.2.2.2.2.2.2.1, x1.2.2.2.2.2.2.2.1, x1.2.2.2.2.2.2.2.2⟩ : T_stid_State), 0, 7)
      ) else (
        bnd (decide (1048576 < a0.Next)) fun x11 =>
        bif x11 then (
          some ((⟨x1.1, x1.2.1, x1.2.2.1, x1.2.2.2.1, x1.2.2.2.2.1, x1.2.2.2.2.2.1, x1.2.2.2.2.2.2.1, x1.2.2.2.2.2.2.2.1, x1.2.2.2.2.2.2.2.2⟩ : T_stid_State), 0, 8)
        ) else (
          bnd (IntKind.wrap .i64 (x1.2.1 + 2)) fun x13 =>
          bno (stid_State_born_h x1.1 x13 x1.2.2.1 x1.2.2.2.2.2.1 x1.2.2.2.2.2.2.1 x1.2.2.2.2.2.2.2.1 x1.2.2.2.2.2.2.2.2 a0.Next x1.2.2.2.1 x1.2.2.2.2.1) fun x14 =>
          some ((⟨x14.1, x14.2.1, x14.2.2.1, x14.2.2.2.1, x14.2.2.2.2.1, x14.2.2.2.2.2.1, x14.2.2.2.2.2.2.1, x14.2.2.2.2.2.2.2.1, x14.2.2.2.2.2.2.2.2⟩ : T_stid_State), a0.Next, 0)
        )
      )
    )
  )

def stid_Begin_1_h (a0 : Int) (a1 : Bool) (a2 : Int) (a3 : Int) (a4 : Int) (a5 : Int) (a6 : Int) (a7 : Int) (a8 : (List Int)) (a9 : (List Int)) : Option (Bool × Int × Int × (List Int) × (List Int) × Int × Int × Int × Int × T_rules_Verdict) :=
  some (a1, a2, a3, a8, a9, a4, a5, a6, a7, (⟨3, a0⟩ : T_rules_Verdict))

def slices_Index_int_int_L0 (a0 : (List Int)) (a1 : Int) : Nat → Int → Option Int
  | 0, _ => none
  | n0 + 1, v7 =>
    bnd (decide (v7 < (a0.length : Int))) fun x14 =>
    bif x14 then (
      bno (gix a0 v7) fun x16 =>
      bnd (decide (a1 = x16)) fun x17 =>
      bif x17 then (
        some v7
      ) else (
        bnd (IntKind.wrap .i64 (v7 + 1)) fun x19 =>
        (slices_Index_int_int_L0 a0 a1 n0) x19
      )
    ) else (
      some (-1)
    )
def slices_Index_int_int (a0 : (List Int)) (a1 : Int) : Option Int :=
  slices_Index_int_int_L0 a0 a1 fuel 0

def slices_Contains_int_int (a0 : (List Int)) (a1 : Int) : Option Bool :=
  bno (slices_Index_int_int a0 a1) fun x1 =>
  bnd (decide (0 ≤ x1)) fun x2 =>
  some x2

def slices_Delete_int_int_h (a0 : Int) (a1 : Int) (a2 : (List Int)) : Option (List Int) := delS a2 a0 a1

def stid_State_slain_h (a0 : Bool) (a1 : Int) (a2 : Int) (a3 : Int) (a4 : Int) (a5 : Int) (a6 : Int) (a7 : Int) (a8 : (List Int)) (a9 : (List Int)) : Option (Bool × Int × Int × (List Int) × (List Int) × Int × Int × Int × Int) :=
  bno (app 8 a9 ([a7] : (List Int))) fun x1 =>
  bnd (decide (8 < (x1.length : Int))) fun x2 =>
  bif x2 then (
    bnd (IntKind.wrap .i64 ((x1.length : Int) - 8)) fun x4 =>
    bno (slices_Delete_int_int_h 0 x4 x1) fun x5 =>
    some (a0, a1, a2, a8, x5, a3, a4, a5, a6)
  ) else (
    some (a0, a1, a2, a8, x1, a3, a4, a5, a6)
  )

def stid_Begin_J0 (a0 : T_stid_State) (a1 : Int) (x1 : (Bool × Int × Int × (List Int) × (List Int) × Int × Int × Int × Int)) (v11 : Bool) : Option (T_stid_State × T_rules_Verdict) :=
  bif v11 then (
    bno (stid_Begin_1_h 1 x1.1 x1.2.1 x1.2.2.1 x1.2.2.2.2.2.1 x1.2.2.2.2.2.2.1 x1.2.2.2.2.2.2.2.1 x1.2.2.2.2.2.2.2.2 x1.2.2.2.1 x1.2.2.2.2.1) fun x13 =>
    some ((⟨x13.1, x13.2.1, x13.2.2.1, x13.2.2.2.1, x13.2.2.2.2.1, x13.2.2.2.2.2.1, x13.2.2.2.2.2.2.1, x13.2.2.2.2.2.2.2.1, x13.2.2.2.2.2.2.2.2.1⟩ : T_stid_State), x13.2.2.2.2.2.2.2.2.2)
  ) else (
    bnd (decide (a1 ≤ a0.Last)) fun x14 =>
    bif x14 then (
      bno (stid_Begin_1_h 5 x1.1 x1.2.1 x1.2.2.1 x1.2.2.2.2.2.1 x1.2.2.2.2.2.2.1 x1.2.2.2.2.2.2.2.1 x1.2.2.2.2.2.2.2.2 x1.2.2.2.1 x1.2.2.2.2.1) fun x16 =>
      some ((⟨x16.1, x16.2.1, x16.2.2.1, x16.2.2.2.1, x16.2.2.2.2.1, x16.2.2.2.2.2.1, x16.2.2.2.2.2.2.1, x16.2.2.2.2.2.2.2.1, x16.2.2.2.2.2.2.2.2.1⟩ : T_stid_State), x16.2.2.2.2.2.2.2.2.2)
    ) else (
      bnd (decide ((-1) < a0.Told)) fun x17 =>
      bif x17 then (
        some (((⟨x1.1, x1.2.1, a1, x1.2.2.2.1, x1.2.2.2.2.1, x1.2.2.2.2.2.1, x1.2.2.2.2.2.2.1, x1.2.2.2.2.2.2.2.1, x1.2.2.2.2.2.2.2.2⟩ : T_stid_State), (⟨1, 0⟩ : T_rules_Verdict)))
      ) else (
        bno (stid_Count a0) fun x19 =>
        bnd (decide (a0.Hers ≤ x19.2)) fun x20 =>
        bif x20 then (
          bno (stid_State_slain_h x1.1 x1.2.1 a1 x1.2.2.2.2.2.1 x1.2.2.2.2.2.2.1 x1.2.2.2.2.2.2.2.1 x1.2.2.2.2.2.2.2.2 a1 x1.2.2.2.1 x1.2.2.2.2.1) fun x22 =>
          some (((⟨x22.1, x22.2.1, x22.2.2.1, x22.2.2.2.1, x22.2.2.2.2.1, x22.2.2.2.2.2.1, x22.2.2.2.2.2.2.1, x22.2.2.2.2.2.2.2.1, x22.2.2.2.2.2.2.2.2⟩ : T_stid_State), (⟨2, 7⟩ : T_rules_Verdict)))
        ) else (
          bno (stid_State_born_h x1.1 x1.2.1 a1 x1.2.2.2.2.2.1 x1.2.2.2.2.2.2.1 x1.2.2.2.2.2.2.2.1 x1.2.2.2.2.2.2.2.2 a1 x1.2.2.2.1 x1.2.2.2.2.1) fun x23 =>
          some (((⟨x23.1, x23.2.1, x23.2.2.1, x23.2.2.2.1, x23.2.2.2.2.1, x23.2.2.2.2.2.1, x23.2.2.2.2.2.2.1, x23.2.2.2.2.2.2.2.1, x23.2.2.2.2.2.2.2.2⟩ : T_stid_State), (⟨0, 0⟩ : T_rules_Verdict)))
        )
      )
    )
  )
def stid_Begin (a0 : T_stid_State) (a1 : Int) : Option (T_stid_State × T_rules_Verdict) :=
  bno (stid_State_own_h a0) fun x1 =>
  bno (stid_Check a0) fun x2 =>
  bnd (!decide (x2 = 0)) fun x3 =>
  bif x3 then (
    bno (stid_Begin_1_h 2 x1.1 x1.2.1 x1.2.2.1 x1.2.2.2.2.2.1 x1.2.2.2.2.2.2.1 x1.2.2.2.2.2.2.2.1 x1.2.2.2.2.2.2.2.2 x1.2.2.2.1 x1.2.2.2.2.1) fun x5 =>
    some ((⟨x5.1, x5.2.1, x5.2.2.1, x5.2.2.2.1, x5.2.2.2.2.1, x5.2.2.2.2.2.1, x5.2.2.2.2.2.2.1, x5.2.2.2.2.2.2.2.1, x5.2.2.2.2.2.2.2.2.1⟩ : T_stid_State), x5.2.2.2.2.2.2.2.2.2)
  ) else (
    bno (stid_Own a0 a1) fun x24 =>
    bif x24 then (
      stid_Begin_J0 a0 a1 x1 x24
    ) else (
      bno (stid_in a1 1 1048576) fun x26 =>
      bif (!x26) then (
        stid_Begin_J0 a0 a1 x1 (!x26)
      ) else (
        bno (slices_Contains_int_int a0.Live a1) fun x28 =>
        stid_Begin_J0 a0 a1 x1 x28
      )
    )
  )

def stid_Away_1 (a0 : Int) (a1 : Int) (a2 : T_stid_State) : Option Bool :=
  bnd (decide (a1 < a0)) fun x1 =>
  bno (gd (x1 == true) (stid_Own a2 a0) default) fun x2 =>
  bnd (x1 && x2) fun x3 =>
  some x3

def slices_IndexFunc_int_int_Away_1_L0 (a0 : (List Int)) (a1 : Int) (a2 : T_stid_State) : Nat → Int → Option Int
  | 0, _ => none
  | n0 + 1, v7 =>
    bnd (decide (v7 < (a0.length : Int))) fun x14 =>
    bif x14 then (
      bno (gix a0 v7) fun x16 =>
      bno (stid_Away_1 x16 a1 a2) fun x17 =>
      bif x17 then (
        some v7
      ) else (
        bnd (IntKind.wrap .i64 (v7 + 1)) fun x19 =>
        (slices_IndexFunc_int_int_Away_1_L0 a0 a1 a2 n0) x19
      )
    ) else (
      some (-1)
    )
def slices_IndexFunc_int_int_Away_1 (a0 : (List Int)) (a1 : Int) (a2 : T_stid_State) : Option Int :=
  slices_IndexFunc_int_int_Away_1_L0 a0 a1 a2 fuel 0

def slices_DeleteFunc_int_int_h_Away_1_L0 (a1 : Int) (a2 : T_stid_State) : Nat → (List Int) → Int → Int → Option (List Int)
  | 0, _, _, _ => none
  | n0 + 1, v17, v18, v19 =>
    bnd (decide (v19 < (v17.length : Int))) fun x32 =>
    bif x32 then (
      bno (gix v17 v19) fun x34 =>
      bno (v17[(v19 : Int).toNat]?) fun x35 =>
      bno (stid_Away_1 x35 a1 a2) fun x36 =>
      bif (!x36) then (
        bno (gix v17 v18) fun x38 =>
        bno (v17[(v18 : Int).toNat]?) fun x39 =>
        bnd (v17.set ((v18 : Int).toNat) x35) fun x40 =>
        bnd (IntKind.wrap .i64 (v18 + 1)) fun x41 =>
        bnd (IntKind.wrap .i64 (v19 + 1)) fun x42 =>
        (slices_DeleteFunc_int_int_h_Away_1_L0 a1 a2 n0) x40 x41 x42
      ) else (
        bnd (IntKind.wrap .i64 (v19 + 1)) fun x43 =>
        (slices_DeleteFunc_int_int_h_Away_1_L0 a1 a2 n0) v17 v18 x43
      )
    ) else (
      bno (cut v17 0 v18) fun x44 =>
      bno (cut x44 0 v18) fun x45 =>
      some x45
    )
def slices_DeleteFunc_int_int_h_Away_1 (a0 : (List Int)) (a1 : Int) (a2 : T_stid_State) : Option (List Int) :=
  bno (slices_IndexFunc_int_int_Away_1 a0 a1 a2) fun x1 =>
  bnd (decide (x1 = (-1))) fun x2 =>
  bif x2 then (
    some a0
  ) else (
    bnd (IntKind.wrap .i64 (x1 + 1)) fun x4 =>
    slices_DeleteFunc_int_int_h_Away_1_L0 a1 a2 fuel a0 x1 x4
  )

def stid_Away_L0 (a0 : T_stid_State) (a1 : Int) (x1 : (Bool × Int × Int × (List Int) × (List Int) × Int × Int × Int × Int)) : Nat → (List Int) → Int → Option (T_stid_State × (List Int) × Bool)
  | 0, _, _ => none
  | n0 + 1, v19, v20 =>
    bnd (decide (v20 < (a0.Live.length : Int))) fun x29 =>
    bif x29 then (
      bno (gix a0.Live v20) fun x31 =>
      bno (stid_Away_1 x31 a1 a0) fun x32 =>
      bif x32 then (
        bno (app 8 v19 ([x31] : (List Int))) fun x34 =>
        bnd (IntKind.wrap .i64 (v20 + 1)) fun x35 =>
        (stid_Away_L0 a0 a1 x1 n0) x34 x35
      ) else (
        bnd (IntKind.wrap .i64 (v20 + 1)) fun x36 =>
        (stid_Away_L0 a0 a1 x1 n0) v19 x36
      )
    ) else (
      bno (slices_DeleteFunc_int_int_h_Away_1 x1.2.2.2.1 a1 a0) fun x37 =>
      some ((⟨x1.1, x1.2.1, x1.2.2.1, x37, x1.2.2.2.2.1, x1.2.2.2.2.2.1, x1.2.2.2.2.2.2.1, a1, x1.2.2.2.2.2.2.2.2⟩ : T_stid_State), v19, true)
    )
def stid_Away (a0 : T_stid_State) (a1 : Int) : Option (T_stid_State × (List Int) × Bool) :=
  bno (stid_State_own_h a0) fun x1 =>
  bno (stid_Check a0) fun x2 =>
  bnd (!decide (x2 = 0)) fun x3 =>
  bno (gd (x3 == false) (stid_in a1 0 1048576) default) fun x4 =>
  bnd (x3 || (!x4)) fun x5 =>
  bnd (decide ((-1) < a0.Heard)) fun x6 =>
  bnd (decide (a0.Heard < a1)) fun x7 =>
  bnd (x6 && x7) fun x8 =>
  bnd (x5 || x8) fun x9 =>
  bif x9 then (
    some ((⟨x1.1, x1.2.1, x1.2.2.1, x1.2.2.2.1, x1.2.2.2.2.1, x1.2.2.2.2.2.1, x1.2.2.2.2.2.2.1, x1.2.2.2.2.2.2.2.1, x1.2.2.2.2.2.2.2.2⟩ : T_stid_State), [], false)
  ) else (
    stid_Away_L0 a0 a1 x1 fuel ([] : (List Int)) 0
  )

def stid_Shut_J0 (x1 : (Bool × Int × Int × (List Int) × (List Int) × Int × Int × Int × Int)) (v7 : Int) : Option (T_stid_State × Int) :=
  some ((⟨x1.1, x1.2.1, x1.2.2.1, x1.2.2.2.1, x1.2.2.2.2.1, x1.2.2.2.2.2.1, x1.2.2.2.2.2.2.1, x1.2.2.2.2.2.2.2.1, v7⟩ : T_stid_State), v7)
def stid_Shut (a0 : T_stid_State) : Option (T_stid_State × Int) :=
  bno (stid_State_own_h a0) fun x1 =>
  bno (stid_Check a0) fun x2 =>
  bnd (!decide (x2 = 0)) fun x3 =>
  bif x3 then (
    some (((⟨x1.1, x1.2.1, x1.2.2.1, x1.2.2.2.1, x1.2.2.2.2.1, x1.2.2.2.2.2.1, x1.2.2.2.2.2.2.1, x1.2.2.2.2.2.2.2.1, x1.2.2.2.2.2.2.2.2⟩ : T_stid_State), (-1)))
  ) else (
    bnd (decide (x1.2.2.2.2.2.2.2.2 = (-1))) fun x8 =>
    bif x8 then (
      stid_Shut_J0 x1 x1.2.2.1
    ) else (
      stid_Shut_J0 x1 x1.2.2.2.2.2.2.2.2
    )
  )

def sennitref02_SameInts_L0 (a0 : (List Int)) (a1 : (List Int)) : Nat → Int → Option Bool
  | 0, _ => none
  | n0 + 1, v10 =>
    bnd (decide (v10 < (a0.length : Int))) fun x18 =>
    bif x18 then (
      bno (gix a0 v10) fun x20 =>
      bno (gix a1 v10) fun x21 =>
      bnd (!decide (x20 = x21)) fun x22 =>
      bif x22 then (
        some false
      ) else (
        bnd (IntKind.wrap .i64 (v10 + 1)) fun x24 =>
        (sennitref02_SameInts_L0 a0 a1 n0) x24
      )
    ) else (
      some true
    )
def sennitref02_SameInts (a0 : (List Int)) (a1 : (List Int)) : Option Bool :=
  bnd (!decide ((a0.length : Int) = (a1.length : Int))) fun x1 =>
  bif x1 then (
    some false
  ) else (
    sennitref02_SameInts_L0 a0 a1 fuel 0
  )

def stid_Class (a0 : T_stid_State) (a1 : Int) : Option Int :=
  bnd (decide (a1 = 0)) fun x1 =>
  bif x1 then (
    some 0
  ) else (
    bno (slices_Contains_int_int a0.Live a1) fun x3 =>
    bif x3 then (
      some 2
    ) else (
      bno (slices_Contains_int_int a0.Cut a1) fun x5 =>
      bif x5 then (
        some 5
      ) else (
        bno (stid_State_began a0 a1) fun x7 =>
        bif x7 then (
          some 4
        ) else (
          bno (stid_Own a0 a1) fun x9 =>
          bif x9 then (
            some 6
          ) else (
            bno (stid_in a1 1 1048576) fun x11 =>
            bif (!x11) then (
              some 6
            ) else (
              some 1
            )
          )
        )
      )
    )
  )

def stid_End (a0 : T_stid_State) (a1 : Int) (a2 : Bool) : Option T_stid_State :=
  bno (stid_State_own_h a0) fun x1 =>
  bno (slices_BinarySearch_int_int x1.2.2.2.1 a1) fun x2 =>
  bno (stid_Check a0) fun x3 =>
  bnd (!decide (x3 = 0)) fun x4 =>
  bnd (x4 || (!x2.2)) fun x5 =>
  bif x5 then (
    some (⟨x1.1, x1.2.1, x1.2.2.1, x1.2.2.2.1, x1.2.2.2.2.1, x1.2.2.2.2.2.1, x1.2.2.2.2.2.2.1, x1.2.2.2.2.2.2.2.1, x1.2.2.2.2.2.2.2.2⟩ : T_stid_State)
  ) else (
    bnd (IntKind.wrap .i64 (x2.1 + 1)) fun x7 =>
    bno (slices_Delete_int_int_h x2.1 x7 x1.2.2.2.1) fun x8 =>
    bif a2 then (
      bno (stid_State_slain_h x1.1 x1.2.1 x1.2.2.1 x1.2.2.2.2.2.1 x1.2.2.2.2.2.2.1 x1.2.2.2.2.2.2.2.1 x1.2.2.2.2.2.2.2.2 a1 x8 x1.2.2.2.2.1) fun x10 =>
      some (⟨x10.1, x10.2.1, x10.2.2.1, x10.2.2.2.1, x10.2.2.2.2.1, x10.2.2.2.2.2.1, x10.2.2.2.2.2.2.1, x10.2.2.2.2.2.2.2.1, x10.2.2.2.2.2.2.2.2⟩ : T_stid_State)
    ) else (
      some (⟨x1.1, x1.2.1, x1.2.2.1, x8, x1.2.2.2.2.1, x1.2.2.2.2.2.1, x1.2.2.2.2.2.2.1, x1.2.2.2.2.2.2.2.1, x1.2.2.2.2.2.2.2.2⟩ : T_stid_State)
    )
  )

def slices_Equal_int_int_L0 (a0 : (List Int)) (a1 : (List Int)) : Nat → Int → Option Bool
  | 0, _ => none
  | n0 + 1, v10 =>
    bnd (decide (v10 < (a0.length : Int))) fun x18 =>
    bif x18 then (
      bno (gix a0 v10) fun x20 =>
      bno (gix a1 v10) fun x21 =>
      bnd (!decide (x20 = x21)) fun x22 =>
      bif x22 then (
        some false
      ) else (
        bnd (IntKind.wrap .i64 (v10 + 1)) fun x24 =>
        (slices_Equal_int_int_L0 a0 a1 n0) x24
      )
    ) else (
      some true
    )
def slices_Equal_int_int (a0 : (List Int)) (a1 : (List Int)) : Option Bool :=
  bnd (!decide ((a0.length : Int) = (a1.length : Int))) fun x1 =>
  bif x1 then (
    some false
  ) else (
    slices_Equal_int_int_L0 a0 a1 fuel 0
  )

def stid_Same (a0 : T_stid_State) (a1 : T_stid_State) : Option Bool :=
  bno (slices_Equal_int_int a0.Live a1.Live) fun x1 =>
  bno (gd ((!x1) == false) (slices_Equal_int_int a0.Cut a1.Cut) default) fun x2 =>
  bnd ((!x1) || (!x2)) fun x3 =>
  bif x3 then (
    some false
  ) else (
    bnd (decide (a0.Next = a1.Next)) fun x5 =>
    bnd (decide (a0.Last = a1.Last)) fun x6 =>
    bnd (x5 && x6) fun x7 =>
    bnd (decide (a0.Heard = a1.Heard)) fun x8 =>
    bnd (x7 && x8) fun x9 =>
    bnd (decide (a0.Told = a1.Told)) fun x10 =>
    bnd (x9 && x10) fun x11 =>
    bnd (a0.Odd == a1.Odd) fun x12 =>
    bnd (x11 && x12) fun x13 =>
    bnd (decide (a0.Mine = a1.Mine)) fun x14 =>
    bnd (x13 && x14) fun x15 =>
    bnd (decide (a0.Hers = a1.Hers)) fun x16 =>
    bnd (x15 && x16) fun x17 =>
    some x17
  )

def sennitlaw22_awake  : Option Bool :=
  bno (stid_New true 2 1) fun x1 =>
  bno (stid_Open x1.1) fun x2 =>
  bno (stid_Open x2.1) fun x3 =>
  bno (stid_Open x3.1) fun x4 =>
  bno (stid_Begin x3.1 2) fun x5 =>
  bno (stid_Begin x5.1 6) fun x6 =>
  bno (stid_Away x6.1 1) fun x7 =>
  bno (stid_Shut x7.1) fun x8 =>
  bno (stid_Begin x8.1 8) fun x9 =>
  bno (stid_Count x7.1) fun x10 =>
  bnd (decide (x1.2 = 0)) fun x11 =>
  bnd (decide (x2.2.1 = 1)) fun x12 =>
  bnd (x11 && x12) fun x13 =>
  bnd (decide (x2.2.2 = 0)) fun x14 =>
  bnd (x13 && x14) fun x15 =>
  bnd (decide (x3.2.1 = 3)) fun x16 =>
  bnd (x15 && x16) fun x17 =>
  bnd (decide (x3.2.2 = 0)) fun x18 =>
  bnd (x17 && x18) fun x19 =>
  bnd (decide (x4.2.2 = 7)) fun x20 =>
  bnd (x19 && x20) fun x21 =>
  bnd ((decide (x5.2.Scope = 0) && (decide (x5.2.Code = 0) && true))) fun x22 =>
  bnd (x21 && x22) fun x23 =>
  bnd ((decide (x6.2.Scope = 2) && (decide (x6.2.Code = 7) && true))) fun x24 =>
  bnd (x23 && x24) fun x25 =>
  bno (gd (x25 == true) (sennitref02_SameInts x7.2.1 ([3] : (List Int))) default) fun x26 =>
  bnd (x25 && x26) fun x27 =>
  bnd (x27 && x7.2.2) fun x28 =>
  bnd (decide (x8.2 = 6)) fun x29 =>
  bnd (x28 && x29) fun x30 =>
  bnd (decide (x9.2.Scope = 1)) fun x31 =>
  bnd (x30 && x31) fun x32 =>
  bnd (decide (x10.1 = 1)) fun x33 =>
  bnd (x32 && x33) fun x34 =>
  bnd (decide (x10.2 = 1)) fun x35 =>
  bnd (x34 && x35) fun x36 =>
  bno (gd (x36 == true) (stid_Class x7.1 3) default) fun x37 =>
  bnd (decide (x37 = 4)) fun x38 =>
  bnd (x36 && x38) fun x39 =>
  bno (gd (x39 == true) (stid_Class x7.1 6) default) fun x40 =>
  bnd (decide (x40 = 5)) fun x41 =>
  bnd (x39 && x41) fun x42 =>
  bno (gd (x42 == true) (stid_Class x7.1 8) default) fun x43 =>
  bnd (decide (x43 = 1)) fun x44 =>
  bnd (x42 && x44) fun x45 =>
  bno (gd (x45 == true) (stid_Class x7.1 5) default) fun x46 =>
  bnd (decide (x46 = 6)) fun x47 =>
  bnd (x45 && x47) fun x48 =>
  bno (gd (x48 == true) (stid_End x7.1 2 true) default) fun x49 =>
  bno (gd (x48 == true) (stid_Class x49 2) default) fun x50 =>
  bnd (decide (x50 = 5)) fun x51 =>
  bnd (x48 && x51) fun x52 =>
  bno (gd (x52 == true) (stid_Own x7.1 5) default) fun x53 =>
  bnd (x52 && x53) fun x54 =>
  bno (gd (x54 == true) (stid_Own x7.1 4) default) fun x55 =>
  bnd (x54 && (!x55)) fun x56 =>
  bno (gd (x56 == true) (stid_Check x8.1) default) fun x57 =>
  bnd (decide (x57 = 0)) fun x58 =>
  bnd (x56 && x58) fun x59 =>
  bno (gd (x59 == true) (stid_Check (⟨false, 0, 0, [], [], 0, 0, 0, 0⟩ : T_stid_State)) default) fun x60 =>
  bnd (decide (x60 = 8)) fun x61 =>
  bnd (x59 && x61) fun x62 =>
  bno (gd (x62 == true) (stid_Same x7.1 x7.1) default) fun x63 =>
  bnd (x62 && x63) fun x64 =>
  bno (gd (x64 == true) (stid_Same x6.1 x7.1) default) fun x65 =>
  bnd (x64 && (!x65)) fun x66 =>
  bnd (bif x66 then true else false) fun x67 =>
  bnd (bif x67 then true else false) fun x68 =>
  bnd (bif x68 then true else false) fun x69 =>
  some x69

def sennitref22_in (a0 : Int) (a1 : Int) (a2 : Int) : Option Bool :=
  bnd (decide (a1 ≤ a0)) fun x1 =>
  bnd (decide (a0 ≤ a2)) fun x2 =>
  bnd (x1 && x2) fun x3 =>
  some x3

def sennitref22_Own (a0 : T_stid_State) (a1 : Int) : Option Bool :=
  bnd (decide (0 < a1)) fun x1 =>
  bno (gd (x1 == true) (remI a1 2) 0) fun x2 =>
  bnd (decide (x2 = 1)) fun x3 =>
  bnd (x3 == a0.Odd) fun x4 =>
  bnd (x1 && x4) fun x5 =>
  some x5

def sennitref22_began (a0 : T_stid_State) (a1 : Int) : Option Bool :=
  bno (sennitref22_Own a0 a1) fun x1 =>
  bif x1 then (
    bnd (decide (a1 < a0.Next)) fun x3 =>
    some x3
  ) else (
    bnd (decide (0 < a1)) fun x4 =>
    bnd (decide (a1 ≤ a0.Last)) fun x5 =>
    bnd (x4 && x5) fun x6 =>
    some x6
  )

def sennitref22_Is_L0 (a0 : (List Int)) (a1 : Int) : Nat → Int → Option Bool
  | 0, _ => none
  | n0 + 1, v7 =>
    bnd (decide (v7 < (a0.length : Int))) fun x14 =>
    bif x14 then (
      bno (gix a0 v7) fun x16 =>
      bnd (decide (x16 = a1)) fun x17 =>
      bif x17 then (
        some true
      ) else (
        bnd (IntKind.wrap .i64 (v7 + 1)) fun x19 =>
        (sennitref22_Is_L0 a0 a1 n0) x19
      )
    ) else (
      some false
    )
def sennitref22_Is (a0 : (List Int)) (a1 : Int) : Option Bool :=
  sennitref22_Is_L0 a0 a1 fuel 0

def sennitref22_Check_L1 (a0 : T_stid_State) : Nat → Int → Option Int
  | 0, _ => none
  | n1 + 1, v76 =>
    bnd (decide (v76 < (a0.Cut.length : Int))) fun x90 =>
    bif x90 then (
      bno (gix a0.Cut v76) fun x92 =>
      bno (sennitref22_began a0 x92) fun x93 =>
      bno (gd ((!x93) == false) (gix a0.Cut v76) default) fun x94 =>
      bno (gd ((!x93) == false) (sennitref22_Is a0.Live x94) default) fun x95 =>
      bnd ((!x93) || x95) fun x96 =>
      bno (gd (x96 == false) (cut a0.Cut 0 v76) []) fun x97 =>
      bno (gd (x96 == false) (gix a0.Cut v76) default) fun x98 =>
      bno (gd (x96 == false) (sennitref22_Is x97 x98) default) fun x99 =>
      bnd (x96 || x99) fun x100 =>
      bif x100 then (
        some 10
      ) else (
        bnd (IntKind.wrap .i64 (v76 + 1)) fun x102 =>
        (sennitref22_Check_L1 a0 n1) x102
      )
    ) else (
      some 0
    )
def sennitref22_Check_L0 (a0 : T_stid_State) : Nat → Int → Option Int
  | 0, _ => none
  | n0 + 1, v34 =>
    bnd (decide (v34 < (a0.Live.length : Int))) fun x48 =>
    bif x48 then (
      bno (gix a0.Live v34) fun x50 =>
      bno (sennitref22_began a0 x50) fun x51 =>
      bnd (decide (0 < v34)) fun x52 =>
      bnd (IntKind.wrap .i64 (v34 - 1)) fun x53 =>
      bno (gd (((!x51) == false) && (x52 == true)) (gix a0.Live x53) default) fun x54 =>
      bno (gd (((!x51) == false) && (x52 == true)) (gix a0.Live v34) default) fun x55 =>
      bnd (decide (x55 ≤ x54)) fun x56 =>
      bnd (x52 && x56) fun x57 =>
      bnd ((!x51) || x57) fun x58 =>
      bif x58 then (
        some 4
      ) else (
        bnd (IntKind.wrap .i64 (v34 + 1)) fun x60 =>
        (sennitref22_Check_L0 a0 n0) x60
      )
    ) else (
      bnd (decide (8 < (a0.Cut.length : Int))) fun x61 =>
      bif x61 then (
        some 10
      ) else (
        sennitref22_Check_L1 a0 fuel 0
      )
    )
def sennitref22_Check (a0 : T_stid_State) : Option Int :=
  bno (sennitref22_in a0.Next 1 1048578) fun x1 =>
  bno (gd ((!x1) == false) (sennitref22_Own a0 a0.Next) default) fun x2 =>
  bnd ((!x1) || (!x2)) fun x3 =>
  bno (gd (x3 == false) (sennitref22_in a0.Last 0 1048576) default) fun x4 =>
  bnd (x3 || (!x4)) fun x5 =>
  bnd (decide (0 < a0.Last)) fun x6 =>
  bno (gd ((x5 == false) && (x6 == true)) (sennitref22_Own a0 a0.Last) default) fun x7 =>
  bnd (x6 && x7) fun x8 =>
  bnd (x5 || x8) fun x9 =>
  bif x9 then (
    some 8
  ) else (
    bno (sennitref22_in a0.Mine 0 8) fun x11 =>
    bno (gd ((!x11) == false) (sennitref22_in a0.Hers 0 8) default) fun x12 =>
    bnd ((!x11) || (!x12)) fun x13 =>
    bno (gd (x13 == false) (sennitref22_in a0.Heard (-1) 1048576) default) fun x14 =>
    bnd (x13 || (!x14)) fun x15 =>
    bno (gd (x15 == false) (sennitref22_in a0.Told (-1) 1048576) default) fun x16 =>
    bnd (x15 || (!x16)) fun x17 =>
    bif x17 then (
      some 8
    ) else (
      bnd (decide (16 < (a0.Live.length : Int))) fun x19 =>
      bif x19 then (
        some 4
      ) else (
        sennitref22_Check_L0 a0 fuel 0
      )
    )
  )

def sennitref22_Count_L0 (a0 : T_stid_State) : Nat → Int → Int → Option (Int × Int)
  | 0, _, _ => none
  | n0 + 1, v9, v10 =>
    bnd (decide (v10 < (a0.Live.length : Int))) fun x19 =>
    bif x19 then (
      bno (gix a0.Live v10) fun x21 =>
      bno (sennitref22_Own a0 x21) fun x22 =>
      bif x22 then (
        bnd (IntKind.wrap .i64 (v9 + 1)) fun x24 =>
        bnd (IntKind.wrap .i64 (v10 + 1)) fun x25 =>
        (sennitref22_Count_L0 a0 n0) x24 x25
      ) else (
        bnd (IntKind.wrap .i64 (v10 + 1)) fun x26 =>
        (sennitref22_Count_L0 a0 n0) v9 x26
      )
    ) else (
      bnd (IntKind.wrap .i64 ((a0.Live.length : Int) - v9)) fun x27 =>
      some (v9, x27)
    )
def sennitref22_Count (a0 : T_stid_State) : Option (Int × Int) :=
  sennitref22_Count_L0 a0 fuel 0 0

def sennitref22_add_L0 (a0 : T_stid_State) (a1 : Int) : Nat → Int → Option T_stid_State
  | 0, _ => none
  | n0 + 1, v7 =>
    bnd (decide (v7 < (a0.Live.length : Int))) fun x14 =>
    bno (gd (x14 == true) (gix a0.Live v7) default) fun x15 =>
    bnd (decide (x15 < a1)) fun x16 =>
    bnd (x14 && x16) fun x17 =>
    bif x17 then (
      bnd (IntKind.wrap .i64 (v7 + 1)) fun x19 =>
      (sennitref22_add_L0 a0 a1 n0) x19
    ) else (
      bno (cut a0.Live 0 v7) fun x20 =>
      bno (app 8 ([] : (List Int)) x20) fun x21 =>
      bno (app 8 x21 ([a1] : (List Int))) fun x22 =>
      bno (cut a0.Live v7 (a0.Live.length : Int)) fun x23 =>
      bno (app 8 x22 x23) fun x24 =>
      some (⟨a0.Odd, a0.Next, a0.Last, x24, a0.Cut, a0.Mine, a0.Hers, a0.Heard, a0.Told⟩ : T_stid_State)
    )
def sennitref22_add (a0 : T_stid_State) (a1 : Int) : Option T_stid_State :=
  sennitref22_add_L0 a0 a1 fuel 0

def sennitref22_Open (a0 : T_stid_State) : Option (T_stid_State × Int × Int) :=
  bno (sennitref22_Check a0) fun x1 =>
  bno (sennitref22_Count a0) fun x2 =>
  bnd (!decide (x1 = 0)) fun x3 =>
  bif x3 then (
    some (a0, 0, x1)
  ) else (
    bnd (!decide (a0.Heard = (-1))) fun x5 =>
    bnd (!decide (a0.Told = (-1))) fun x6 =>
    bnd (x5 || x6) fun x7 =>
    bif x7 then (
      some (a0, 0, 14)
    ) else (
      bnd (decide (a0.Mine ≤ x2.1)) fun x9 =>
      bif x9 then (
        some (a0, 0, 7)
      ) else (
        bnd (decide (1048576 < a0.Next)) fun x11 =>
        bif x11 then (
          some (a0, 0, 8)
        ) else (
          bnd (IntKind.wrap .i64 (a0.Next + 2)) fun x13 =>
          bno (sennitref22_add (⟨a0.Odd, x13, a0.Last, a0.Live, a0.Cut, a0.Mine, a0.Hers, a0.Heard, a0.Told⟩ : T_stid_State) a0.Next) fun x14 =>
          some (x14, a0.Next, 0)
        )
      )
    )
  )

def sennitref22_cutOff (a0 : T_stid_State) (a1 : Int) : Option T_stid_State :=
  bno (app 8 ([] : (List Int)) a0.Cut) fun x1 =>
  bno (app 8 x1 ([a1] : (List Int))) fun x2 =>
  bnd (IntKind.wrap .i64 ((x2.length : Int) - 8)) fun x3 =>
  bnd (max 0 x3) fun x4 =>
  bno (cut x2 x4 (x2.length : Int)) fun x5 =>
  some (⟨a0.Odd, a0.Next, a0.Last, a0.Live, x5, a0.Mine, a0.Hers, a0.Heard, a0.Told⟩ : T_stid_State)

def sennitref22_Begin (a0 : T_stid_State) (a1 : Int) : Option (T_stid_State × T_sennitref17_Verdict) :=
  bno (sennitref22_Count a0) fun x1 =>
  bno (sennitref22_Check a0) fun x2 =>
  bnd (!decide (x2 = 0)) fun x3 =>
  bif x3 then (
    some (a0, (⟨3, 2⟩ : T_sennitref17_Verdict))
  ) else (
    bno (sennitref22_Own a0 a1) fun x5 =>
    bno (gd (x5 == false) (sennitref22_in a1 1 1048576) default) fun x6 =>
    bnd (x5 || (!x6)) fun x7 =>
    bno (gd (x7 == false) (sennitref22_Is a0.Live a1) default) fun x8 =>
    bnd (x7 || x8) fun x9 =>
    bif x9 then (
      some (a0, (⟨3, 1⟩ : T_sennitref17_Verdict))
    ) else (
      bnd (decide (a1 ≤ a0.Last)) fun x11 =>
      bif x11 then (
        some (a0, (⟨3, 5⟩ : T_sennitref17_Verdict))
      ) else (
        bnd (decide (0 ≤ a0.Told)) fun x13 =>
        bif x13 then (
          some (((⟨a0.Odd, a0.Next, a1, a0.Live, a0.Cut, a0.Mine, a0.Hers, a0.Heard, a0.Told⟩ : T_stid_State), (⟨1, 0⟩ : T_sennitref17_Verdict)))
        ) else (
          bnd (decide (a0.Hers ≤ x1.2)) fun x15 =>
          bif x15 then (
            bno (sennitref22_cutOff (⟨a0.Odd, a0.Next, a1, a0.Live, a0.Cut, a0.Mine, a0.Hers, a0.Heard, a0.Told⟩ : T_stid_State) a1) fun x17 =>
            some (x17, (⟨2, 7⟩ : T_sennitref17_Verdict))
          ) else (
            bno (sennitref22_add (⟨a0.Odd, a0.Next, a1, a0.Live, a0.Cut, a0.Mine, a0.Hers, a0.Heard, a0.Told⟩ : T_stid_State) a1) fun x18 =>
            some (x18, (⟨0, 0⟩ : T_sennitref17_Verdict))
          )
        )
      )
    )
  )

def sennitref22_off_L0 (a0 : (List Int)) (a1 : Int) : Nat → (List Int) → Int → Option (List Int)
  | 0, _, _ => none
  | n0 + 1, v10, v11 =>
    bnd (decide (v11 < (a0.length : Int))) fun x21 =>
    bif x21 then (
      bno (gix a0 v11) fun x23 =>
      bnd (!decide (x23 = a1)) fun x24 =>
      bif x24 then (
        bno (gix a0 v11) fun x26 =>
        bno (app 8 v10 ([x26] : (List Int))) fun x27 =>
        bnd (IntKind.wrap .i64 (v11 + 1)) fun x28 =>
        (sennitref22_off_L0 a0 a1 n0) x27 x28
      ) else (
        bnd (IntKind.wrap .i64 (v11 + 1)) fun x29 =>
        (sennitref22_off_L0 a0 a1 n0) v10 x29
      )
    ) else (
      some v10
    )
def sennitref22_off (a0 : (List Int)) (a1 : Int) : Option (List Int) :=
  sennitref22_off_L0 a0 a1 fuel ([] : (List Int)) 0

def sennitref22_End (a0 : T_stid_State) (a1 : Int) (a2 : Bool) : Option T_stid_State :=
  bno (sennitref22_Check a0) fun x1 =>
  bnd (!decide (x1 = 0)) fun x2 =>
  bno (gd (x2 == false) (sennitref22_Is a0.Live a1) default) fun x3 =>
  bnd (x2 || (!x3)) fun x4 =>
  bif x4 then (
    some a0
  ) else (
    bno (sennitref22_off a0.Live a1) fun x6 =>
    bif a2 then (
      bno (sennitref22_cutOff (⟨a0.Odd, a0.Next, a0.Last, x6, a0.Cut, a0.Mine, a0.Hers, a0.Heard, a0.Told⟩ : T_stid_State) a1) fun x8 =>
      some x8
    ) else (
      some (⟨a0.Odd, a0.Next, a0.Last, x6, a0.Cut, a0.Mine, a0.Hers, a0.Heard, a0.Told⟩ : T_stid_State)
    )
  )

def sennitref22_Away_L1 (a0 : T_stid_State) (a1 : Int) (v22 : (List Int)) : Nat → Int → (List Int) → Option (T_stid_State × (List Int) × Bool)
  | 0, _, _ => none
  | n1 + 1, v53, v54 =>
    bnd (decide (v53 < (v22.length : Int))) fun x60 =>
    bif x60 then (
      bno (gix v22 v53) fun x62 =>
      bno (sennitref22_off v54 x62) fun x63 =>
      bnd (IntKind.wrap .i64 (v53 + 1)) fun x64 =>
      (sennitref22_Away_L1 a0 a1 v22 n1) x64 x63
    ) else (
      some ((⟨a0.Odd, a0.Next, a0.Last, v54, a0.Cut, a0.Mine, a0.Hers, a1, a0.Told⟩ : T_stid_State), v22, true)
    )
def sennitref22_Away_L0 (a0 : T_stid_State) (a1 : Int) : Nat → (List Int) → Int → Option (T_stid_State × (List Int) × Bool)
  | 0, _, _ => none
  | n0 + 1, v22, v23 =>
    bnd (decide (v23 < (a0.Live.length : Int))) fun x36 =>
    bif x36 then (
      bno (gix a0.Live v23) fun x38 =>
      bno (sennitref22_Own (⟨a0.Odd, a0.Next, a0.Last, a0.Live, a0.Cut, a0.Mine, a0.Hers, a1, a0.Told⟩ : T_stid_State) x38) fun x39 =>
      bno (gd (x39 == true) (gix a0.Live v23) default) fun x40 =>
      bnd (decide (a1 < x40)) fun x41 =>
      bnd (x39 && x41) fun x42 =>
      bif x42 then (
        bno (gix a0.Live v23) fun x44 =>
        bno (app 8 v22 ([x44] : (List Int))) fun x45 =>
        bnd (IntKind.wrap .i64 (v23 + 1)) fun x46 =>
        (sennitref22_Away_L0 a0 a1 n0) x45 x46
      ) else (
        bnd (IntKind.wrap .i64 (v23 + 1)) fun x47 =>
        (sennitref22_Away_L0 a0 a1 n0) v22 x47
      )
    ) else (
      sennitref22_Away_L1 a0 a1 v22 fuel 0 a0.Live
    )
def sennitref22_Away (a0 : T_stid_State) (a1 : Int) : Option (T_stid_State × (List Int) × Bool) :=
  bno (sennitref22_Check a0) fun x1 =>
  bnd (!decide (x1 = 0)) fun x2 =>
  bno (gd (x2 == false) (sennitref22_in a1 0 1048576) default) fun x3 =>
  bnd (x2 || (!x3)) fun x4 =>
  bnd (!decide (a0.Heard = (-1))) fun x5 =>
  bnd (decide (a0.Heard < a1)) fun x6 =>
  bnd (x5 && x6) fun x7 =>
  bnd (x4 || x7) fun x8 =>
  bif x8 then (
    some (a0, [], false)
  ) else (
    sennitref22_Away_L0 a0 a1 fuel ([] : (List Int)) 0
  )

def sennitref22_Shut_J0 (a0 : T_stid_State) (v6 : Int) : Option (T_stid_State × Int) :=
  some ((⟨a0.Odd, a0.Next, a0.Last, a0.Live, a0.Cut, a0.Mine, a0.Hers, a0.Heard, v6⟩ : T_stid_State), v6)
def sennitref22_Shut (a0 : T_stid_State) : Option (T_stid_State × Int) :=
  bno (sennitref22_Check a0) fun x1 =>
  bnd (!decide (x1 = 0)) fun x2 =>
  bif x2 then (
    some (a0, (-1))
  ) else (
    bnd (decide (a0.Told < 0)) fun x7 =>
    bif x7 then (
      sennitref22_Shut_J0 a0 a0.Last
    ) else (
      sennitref22_Shut_J0 a0 a0.Told
    )
  )

def sennitlaw22_Back (a0 : T_stid_State) : Option T_stid_State :=
  some a0

def sennitref22_Same (a0 : T_stid_State) (a1 : T_stid_State) : Option Bool :=
  bnd (a0.Odd == a1.Odd) fun x1 =>
  bnd (decide (a0.Next = a1.Next)) fun x2 =>
  bnd (x1 && x2) fun x3 =>
  bnd (decide (a0.Last = a1.Last)) fun x4 =>
  bnd (x3 && x4) fun x5 =>
  bnd (decide (a0.Mine = a1.Mine)) fun x6 =>
  bnd (x5 && x6) fun x7 =>
  bnd (decide (a0.Hers = a1.Hers)) fun x8 =>
  bnd (x7 && x8) fun x9 =>
  bnd (decide (a0.Heard = a1.Heard)) fun x10 =>
  bnd (x9 && x10) fun x11 =>
  bnd (decide (a0.Told = a1.Told)) fun x12 =>
  bnd (x11 && x12) fun x13 =>
  bno (gd (x13 == true) (sennitref02_SameInts a0.Live a1.Live) default) fun x14 =>
  bnd (x13 && x14) fun x15 =>
  bno (gd (x15 == true) (sennitref02_SameInts a0.Cut a1.Cut) default) fun x16 =>
  bnd (x15 && x16) fun x17 =>
  some x17

def sennitlaw22_verdict (a0 : T_rules_Verdict) : Option T_sennitref17_Verdict :=
  bnd (IntKind.wrap .i64 a0.Code) fun x1 =>
  some (⟨a0.Scope, x1⟩ : T_sennitref17_Verdict)

def sennitlaw22_StidChanges (a0 : T_stid_State) (a1 : Int) (a2 : Bool) : Option Bool :=
  bno (sennitref22_Light a0) fun x1 =>
  bif (!x1) then (
    bno (sennitlaw22_awake) fun x3 =>
    some x3
  ) else (
    bno (stid_Open a0) fun x4 =>
    bno (sennitref22_Open a0) fun x5 =>
    bno (stid_Begin a0 a1) fun x6 =>
    bno (sennitref22_Begin a0 a1) fun x7 =>
    bno (stid_End a0 a1 a2) fun x8 =>
    bno (sennitref22_End a0 a1 a2) fun x9 =>
    bno (stid_Away a0 a1) fun x10 =>
    bno (sennitref22_Away a0 a1) fun x11 =>
    bno (stid_Shut a0) fun x12 =>
    bno (sennitref22_Shut a0) fun x13 =>
    bno (sennitlaw22_Back x4.1) fun x14 =>
    bno (sennitref22_Same x14 x5.1) fun x15 =>
    bnd (decide (x4.2.1 = x5.2.1)) fun x16 =>
    bnd (x15 && x16) fun x17 =>
    bnd (decide (x4.2.2 = x5.2.2)) fun x18 =>
    bnd (x17 && x18) fun x19 =>
    bno (gd (x19 == true) (sennitlaw22_Back x6.1) default) fun x20 =>
    bno (gd (x19 == true) (sennitref22_Same x20 x7.1) default) fun x21 =>
    bnd (x19 && x21) fun x22 =>
    bno (gd (x22 == true) (sennitlaw22_verdict x6.2) default) fun x23 =>
    bnd ((decide (x23.Scope = x7.2.Scope) && (decide (x23.Code = x7.2.Code) && true))) fun x24 =>
    bnd (x22 && x24) fun x25 =>
    bno (gd (x25 == true) (sennitlaw22_Back x8) default) fun x26 =>
    bno (gd (x25 == true) (sennitref22_Same x26 x9) default) fun x27 =>
    bnd (x25 && x27) fun x28 =>
    bno (gd (x28 == true) (sennitlaw22_Back x10.1) default) fun x29 =>
    bno (gd (x28 == true) (sennitref22_Same x29 x11.1) default) fun x30 =>
    bnd (x28 && x30) fun x31 =>
    bno (gd (x31 == true) (sennitref02_SameInts x10.2.1 x11.2.1) default) fun x32 =>
    bnd (x31 && x32) fun x33 =>
    bnd (x10.2.2 == x11.2.2) fun x34 =>
    bnd (x33 && x34) fun x35 =>
    bno (gd (x35 == true) (sennitlaw22_Back x12.1) default) fun x36 =>
    bno (gd (x35 == true) (sennitref22_Same x36 x13.1) default) fun x37 =>
    bnd (x35 && x37) fun x38 =>
    bnd (decide (x12.2 = x13.2)) fun x39 =>
    bnd (x38 && x39) fun x40 =>
    bno (gd (x40 == true) (sennitlaw22_Back a0) default) fun x41 =>
    bno (gd (x40 == true) (sennitref22_Same x41 a0) default) fun x42 =>
    bnd (x40 && x42) fun x43 =>
    bno (gd (x43 == true) (sennitlaw22_awake) default) fun x44 =>
    bnd (x43 && x44) fun x45 =>
    some x45
  )

def sennitlaw22_StidOnce_L3 (v280 : Int) (kk0 : Bool → Bool → Int → Bool → Int → Int → (List Int) → (List Int) → Int → Int → Int → Int → (List Bool) → Option Bool) (v679 : Bool) (v680 : Bool) (v681 : (List Bool)) (v682 : Bool) (v683 : Int) (v684 : Int) (v685 : (List Int)) (v686 : (List Int)) (v687 : Int) (v688 : Int) (v689 : Int) (v690 : Int) : Nat → Int → Option Bool
  | 0, _ => none
  | n3 + 1, v711 =>
    bnd (decide (v711 < (v685.length : Int))) fun x726 =>
    bif x726 then (
      bno (gix v685 v711) fun x728 =>
      bnd (decide (x728 < 1)) fun x729 =>
      bno (gd (x729 == false) (gix v685 v711) default) fun x730 =>
      bnd (decide (599 < x730)) fun x731 =>
      bnd (x729 || x731) fun x732 =>
      bno (gd (x732 == false) (gix v685 v711) default) fun x733 =>
      bno (gd (x732 == false) (gix v681 x733) default) fun x734 =>
      chk ((x732 == false) = true → v681.length = 600) <|
      bno (gd (x732 == false) (v681[(x733 : Int).toNat]?) default) fun x736 =>
      bnd (x732 || (!x736)) fun x737 =>
      bif x737 then (
        some false
      ) else (
        bnd (IntKind.wrap .i64 (v711 + 1)) fun x739 =>
        (sennitlaw22_StidOnce_L3 v280 kk0 v679 v680 v681 v682 v683 v684 v685 v686 v687 v688 v689 v690 n3) x739
      )
    ) else (
      bnd (IntKind.wrap .i64 (v280 + 1)) fun x740 =>
      kk0 v679 v680 x740 v682 v683 v684 v685 v686 v687 v688 v689 v690 v681
    )
def sennitlaw22_StidOnce_J2 (v280 : Int) (kk0 : Bool → Bool → Int → Bool → Int → Int → (List Int) → (List Int) → Int → Int → Int → Int → (List Bool) → Option Bool) (v679 : Bool) (v680 : Bool) (v681 : (List Bool)) (v682 : Bool) (v683 : Int) (v684 : Int) (v685 : (List Int)) (v686 : (List Int)) (v687 : Int) (v688 : Int) (v689 : Int) (v690 : Int) : Option Bool :=
  bno (stid_Count (⟨v682, v683, v684, v685, v686, v687, v688, v689, v690⟩ : T_stid_State)) fun x691 =>
  bno (stid_Check (⟨v682, v683, v684, v685, v686, v687, v688, v689, v690⟩ : T_stid_State)) fun x692 =>
  bnd (!decide (x692 = 0)) fun x693 =>
  bnd (decide (5 < x691.2)) fun x694 =>
  bnd (x693 || x694) fun x695 =>
  bif x695 then (
    some false
  ) else (
    sennitlaw22_StidOnce_L3 v280 kk0 v679 v680 v681 v682 v683 v684 v685 v686 v687 v688 v689 v690 fuel 0
  )
def sennitlaw22_StidOnce_L4 (v278 : Bool) (v279 : Bool) (v280 : Int) (v281 : Bool) (v282 : Int) (v283 : Int) (v284 : (List Int)) (v285 : (List Int)) (v286 : Int) (v287 : Int) (v288 : Int) (v289 : Int) (v290 : (List Bool)) (kk0 : Bool → Bool → Int → Bool → Int → Int → (List Int) → (List Int) → Int → Int → Int → Int → (List Bool) → Option Bool) (x572 : Int) (x804 : (T_stid_State × (List Int) × Bool)) : Nat → Int → Option Bool
  | 0, _ => none
  | n4 + 1, v818 =>
    bnd (decide (v818 < (x804.2.1.length : Int))) fun x832 =>
    bif x832 then (
      bno (gix x804.2.1 v818) fun x834 =>
      bnd (decide (x834 ≤ x572)) fun x835 =>
      bno (gd (x835 == false) (gix x804.2.1 v818) default) fun x836 =>
      bno (gd (x835 == false) (stid_Own (⟨v281, v282, v283, v284, v285, v286, v287, v288, v289⟩ : T_stid_State) x836) default) fun x837 =>
      bnd (x835 || (!x837)) fun x838 =>
      bno (gd (x838 == false) (gix x804.2.1 v818) default) fun x839 =>
      bno (gd (x838 == false) (stid_Class x804.1 x839) default) fun x840 =>
      bnd (!decide (x840 = 4)) fun x841 =>
      bnd (x838 || x841) fun x842 =>
      bif x842 then (
        some false
      ) else (
        bnd (IntKind.wrap .i64 (v818 + 1)) fun x844 =>
        (sennitlaw22_StidOnce_L4 v278 v279 v280 v281 v282 v283 v284 v285 v286 v287 v288 v289 v290 kk0 x572 x804 n4) x844
      )
    ) else (
      bnd (v278 || x804.2.2) fun x845 =>
      sennitlaw22_StidOnce_J2 v280 kk0 x845 v279 v290 x804.1.Odd x804.1.Next x804.1.Last x804.1.Live x804.1.Cut x804.1.Mine x804.1.Hers x804.1.Heard x804.1.Told
    )
def sennitlaw22_StidOnce_L0 (a1 : (List T_sennitlaw22_Act)) : Nat → Bool → Bool → Int → Bool → Int → Int → (List Int) → (List Int) → Int → Int → Int → Int → (List Bool) → Option Bool
  | 0, _, _, _, _, _, _, _, _, _, _, _, _, _ => none
  | n0 + 1, v278, v279, v280, v281, v282, v283, v284, v285, v286, v287, v288, v289, v290 =>
    bnd (decide (v280 < (a1.length : Int))) fun x569 =>
    bif x569 then (
      bno (gix a1 v280) fun x571 =>
      bnd (IntKind.wrap .i64 x571.ID) fun x572 =>
      bno (gix a1 v280) fun x741 =>
      bno (remI x741.Kind 5) fun x742 =>
      bnd (decide (x742 = 0)) fun x743 =>
      bif x743 then (
        bno (stid_Open (⟨v281, v282, v283, v284, v285, v286, v287, v288, v289⟩ : T_stid_State)) fun x745 =>
        bnd (decide (x745.2.2 = 0)) fun x746 =>
        bnd (decide (x745.2.1 < 1)) fun x747 =>
        bnd (decide (599 < x745.2.1)) fun x748 =>
        bnd (x747 || x748) fun x749 =>
        bno (gd ((x746 == true) && (x749 == false)) (gix v290 x745.2.1) default) fun x750 =>
        chk (((x746 == true) && (x749 == false)) = true → v290.length = 600) <|
        bno (gd ((x746 == true) && (x749 == false)) (v290[(x745.2.1 : Int).toNat]?) default) fun x752 =>
        bnd (x749 || x752) fun x753 =>
        bnd (x753 || v278) fun x754 =>
        bnd (x754 || v279) fun x755 =>
        bno (gd ((x746 == true) && (x755 == false)) (stid_Class x745.1 x745.2.1) default) fun x756 =>
        bnd (!decide (x756 = 2)) fun x757 =>
        bnd (x755 || x757) fun x758 =>
        bno (gd ((x746 == true) && (x758 == false)) (stid_Own x745.1 x745.2.1) default) fun x759 =>
        bnd (x758 || (!x759)) fun x760 =>
        bnd (x746 && x760) fun x761 =>
        bif x761 then (
          some false
        ) else (
          bnd (decide (x745.2.2 = 0)) fun x763 =>
          bif x763 then (
            bno (gix v290 x745.2.1) fun x765 =>
            chk (v290.length = 600) <|
            bno (v290[(x745.2.1 : Int).toNat]?) fun x767 =>
            bnd (v290.set ((x745.2.1 : Int).toNat) true) fun x768 =>
            sennitlaw22_StidOnce_J2 v280 (sennitlaw22_StidOnce_L0 a1 n0) v278 v279 x768 x745.1.Odd x745.1.Next x745.1.Last x745.1.Live x745.1.Cut x745.1.Mine x745.1.Hers x745.1.Heard x745.1.Told
          ) else (
            sennitlaw22_StidOnce_J2 v280 (sennitlaw22_StidOnce_L0 a1 n0) v278 v279 v290 x745.1.Odd x745.1.Next x745.1.Last x745.1.Live x745.1.Cut x745.1.Mine x745.1.Hers x745.1.Heard x745.1.Told
          )
        )
      ) else (
        bnd (decide (x742 = 1)) fun x769 =>
        bif x769 then (
          bno (stid_Begin (⟨v281, v282, v283, v284, v285, v286, v287, v288, v289⟩ : T_stid_State) x572) fun x771 =>
          bnd (decide (x771.2.Scope = 0)) fun x772 =>
          bno (gd (x772 == true) (gix v290 x572) default) fun x773 =>
          chk ((x772 == true) = true → v290.length = 600) <|
          bno (gd (x772 == true) (v290[(x572 : Int).toNat]?) default) fun x775 =>
          bnd (x775 || v279) fun x776 =>
          bno (gd ((x772 == true) && (x776 == false)) (stid_Own x771.1 x572) default) fun x777 =>
          bnd (x776 || x777) fun x778 =>
          bno (gd ((x772 == true) && (x778 == false)) (stid_Class x771.1 x572) default) fun x779 =>
          bnd (!decide (x779 = 2)) fun x780 =>
          bnd (x778 || x780) fun x781 =>
          bnd (x772 && x781) fun x782 =>
          bif x782 then (
            some false
          ) else (
            bnd (decide (x771.2.Scope = 0)) fun x784 =>
            bif x784 then (
              bno (gix v290 x572) fun x786 =>
              chk (v290.length = 600) <|
              bno (v290[(x572 : Int).toNat]?) fun x788 =>
              bnd (v290.set ((x572 : Int).toNat) true) fun x789 =>
              sennitlaw22_StidOnce_J2 v280 (sennitlaw22_StidOnce_L0 a1 n0) v278 v279 x789 x771.1.Odd x771.1.Next x771.1.Last x771.1.Live x771.1.Cut x771.1.Mine x771.1.Hers x771.1.Heard x771.1.Told
            ) else (
              sennitlaw22_StidOnce_J2 v280 (sennitlaw22_StidOnce_L0 a1 n0) v278 v279 v290 x771.1.Odd x771.1.Next x771.1.Last x771.1.Live x771.1.Cut x771.1.Mine x771.1.Hers x771.1.Heard x771.1.Told
            )
          )
        ) else (
          bnd (decide (x742 = 2)) fun x790 =>
          bif x790 then (
            bno (gix a1 v280) fun x792 =>
            bno (quoI .u8 x792.ID 2) fun x793 =>
            bno (remI x793 2) fun x794 =>
            bnd (decide (x794 = 1)) fun x795 =>
            bno (stid_End (⟨v281, v282, v283, v284, v285, v286, v287, v288, v289⟩ : T_stid_State) x572 x795) fun x796 =>
            bno (stid_Class x796 x572) fun x797 =>
            bnd (decide (x797 = 2)) fun x798 =>
            bnd (!decide (x572 = 0)) fun x799 =>
            bnd (x798 && x799) fun x800 =>
            bif x800 then (
              some false
            ) else (
              sennitlaw22_StidOnce_J2 v280 (sennitlaw22_StidOnce_L0 a1 n0) v278 v279 v290 x796.Odd x796.Next x796.Last x796.Live x796.Cut x796.Mine x796.Hers x796.Heard x796.Told
            )
          ) else (
            bnd (decide (x742 = 3)) fun x802 =>
            bif x802 then (
              bno (stid_Away (⟨v281, v282, v283, v284, v285, v286, v287, v288, v289⟩ : T_stid_State) x572) fun x804 =>
              sennitlaw22_StidOnce_L4 v278 v279 v280 v281 v282 v283 v284 v285 v286 v287 v288 v289 v290 (sennitlaw22_StidOnce_L0 a1 n0) x572 x804 fuel 0
            ) else (
              bno (stid_Shut (⟨v281, v282, v283, v284, v285, v286, v287, v288, v289⟩ : T_stid_State)) fun x846 =>
              sennitlaw22_StidOnce_J2 v280 (sennitlaw22_StidOnce_L0 a1 n0) v278 true v290 x846.1.Odd x846.1.Next x846.1.Last x846.1.Live x846.1.Cut x846.1.Mine x846.1.Hers x846.1.Heard x846.1.Told
            )
          )
        )
      )
    ) else (
      bno (sennitlaw22_awake) fun x847 =>
      some x847
    )
def sennitlaw22_StidOnce (a0 : Bool) (a1 : (List T_sennitlaw22_Act)) : Option Bool :=
  bnd (decide (100 < (a1.length : Int))) fun x1 =>
  bif x1 then (
    bno (sennitlaw22_awake) fun x3 =>
    some x3
  ) else (
    bno (stid_New a0 8 5) fun x4 =>
    bnd (!decide (x4.2 = 0)) fun x5 =>
    bif x5 then (
      some false
    ) else (
      bnd ((List.replicate 600 false : (List Bool))) fun x7 =>
      sennitlaw22_StidOnce_L0 a1 fuel false false 0 x4.1.Odd x4.1.Next x4.1.Last x4.1.Live x4.1.Cut x4.1.Mine x4.1.Hers x4.1.Heard x4.1.Told x7
    )
  )

def sennitlaw22_StidAway_L1 (a2 : T_anon70) (x80 : (Int × Int)) (x82 : (T_stid_State × (List Int) × Bool)) (x84 : (T_stid_State × (List Int) × Bool)) (x85 : (Int × Int)) (x86 : (Int × Int)) : Nat → Int → Option Bool
  | 0, _ => none
  | n1 + 1, v97 =>
    bnd (decide (v97 < (x82.1.Live.length : Int))) fun x108 =>
    bif x108 then (
      bno (gix x82.1.Live v97) fun x110 =>
      bno (stid_Own x82.1 x110) fun x111 =>
      bno (gd (x111 == true) (gix x82.1.Live v97) default) fun x112 =>
      bnd (IntKind.wrap .i64 a2.c0) fun x113 =>
      bnd (decide (x113 < x112)) fun x114 =>
      bnd (x111 && x114) fun x115 =>
      bif x115 then (
        some false
      ) else (
        bnd (IntKind.wrap .i64 (v97 + 1)) fun x117 =>
        (sennitlaw22_StidAway_L1 a2 x80 x82 x84 x85 x86 n1) x117
      )
    ) else (
      bnd (decide (a2.c1 ≤ a2.c0)) fun x118 =>
      bnd (x84.2.2 == x118) fun x119 =>
      bnd (x82.2.2 && x119) fun x120 =>
      bnd (decide (x85.2 = x80.2)) fun x121 =>
      bnd (x120 && x121) fun x122 =>
      bnd (IntKind.wrap .i64 (x85.1 + (x82.2.1.length : Int))) fun x123 =>
      bnd (decide (x123 = x86.1)) fun x124 =>
      bnd (x122 && x124) fun x125 =>
      bnd (decide ((x84.2.1.length : Int) = 0)) fun x126 =>
      bno (gd (((x125 == true) && (x84.2.2 == false)) && (x126 == true)) (stid_Same x82.1 x84.1) default) fun x127 =>
      bnd (x126 && x127) fun x128 =>
      bnd (x84.2.2 || x128) fun x129 =>
      bnd (x125 && x129) fun x130 =>
      bno (gd (x130 == true) (stid_Check x84.1) default) fun x131 =>
      bnd (decide (x131 = 0)) fun x132 =>
      bnd (x130 && x132) fun x133 =>
      bno (gd (x133 == true) (sennitlaw22_awake) default) fun x134 =>
      bnd (x133 && x134) fun x135 =>
      some x135
    )
def sennitlaw22_StidAway_L0 (a1 : (List T_sennitlaw22_Act)) (a2 : T_anon70) : Nat → Int → Bool → Int → Int → (List Int) → (List Int) → Int → Int → Int → Int → Option Bool
  | 0, _, _, _, _, _, _, _, _, _, _ => none
  | n0 + 1, v28, v29, v30, v31, v32, v33, v34, v35, v36, v37 =>
    bnd (decide (v28 < (a1.length : Int))) fun x59 =>
    bif x59 then (
      bno (gix a1 v28) fun x61 =>
      bno (remI x61.Kind 3) fun x62 =>
      bnd (decide (x62 = 0)) fun x63 =>
      bif x63 then (
        bno (stid_Open (⟨v29, v30, v31, v32, v33, v34, v35, v36, v37⟩ : T_stid_State)) fun x65 =>
        bnd (IntKind.wrap .i64 (v28 + 1)) fun x66 =>
        (sennitlaw22_StidAway_L0 a1 a2 n0) x66 x65.1.Odd x65.1.Next x65.1.Last x65.1.Live x65.1.Cut x65.1.Mine x65.1.Hers x65.1.Heard x65.1.Told
      ) else (
        bnd (decide (x62 = 1)) fun x67 =>
        bif x67 then (
          bno (gix a1 v28) fun x69 =>
          bnd (IntKind.wrap .i64 x69.ID) fun x70 =>
          bno (stid_Begin (⟨v29, v30, v31, v32, v33, v34, v35, v36, v37⟩ : T_stid_State) x70) fun x71 =>
          bnd (IntKind.wrap .i64 (v28 + 1)) fun x72 =>
          (sennitlaw22_StidAway_L0 a1 a2 n0) x72 x71.1.Odd x71.1.Next x71.1.Last x71.1.Live x71.1.Cut x71.1.Mine x71.1.Hers x71.1.Heard x71.1.Told
        ) else (
          bno (gix a1 v28) fun x73 =>
          bnd (IntKind.wrap .i64 x73.ID) fun x74 =>
          bno (gix a1 v28) fun x75 =>
          bno (remI x75.ID 4) fun x76 =>
          bnd (decide (x76 < 2)) fun x77 =>
          bno (stid_End (⟨v29, v30, v31, v32, v33, v34, v35, v36, v37⟩ : T_stid_State) x74 x77) fun x78 =>
          bnd (IntKind.wrap .i64 (v28 + 1)) fun x79 =>
          (sennitlaw22_StidAway_L0 a1 a2 n0) x79 x78.Odd x78.Next x78.Last x78.Live x78.Cut x78.Mine x78.Hers x78.Heard x78.Told
        )
      )
    ) else (
      bno (stid_Count (⟨v29, v30, v31, v32, v33, v34, v35, v36, v37⟩ : T_stid_State)) fun x80 =>
      bnd (IntKind.wrap .i64 a2.c0) fun x81 =>
      bno (stid_Away (⟨v29, v30, v31, v32, v33, v34, v35, v36, v37⟩ : T_stid_State) x81) fun x82 =>
      bnd (IntKind.wrap .i64 a2.c1) fun x83 =>
      bno (stid_Away x82.1 x83) fun x84 =>
      bno (stid_Count x82.1) fun x85 =>
      bno (stid_Count (⟨v29, v30, v31, v32, v33, v34, v35, v36, v37⟩ : T_stid_State)) fun x86 =>
      sennitlaw22_StidAway_L1 a2 x80 x82 x84 x85 x86 fuel 0
    )
def sennitlaw22_StidAway (a0 : Bool) (a1 : (List T_sennitlaw22_Act)) (a2 : T_anon70) : Option Bool :=
  bnd (decide (60 < (a1.length : Int))) fun x1 =>
  bif x1 then (
    bno (sennitlaw22_awake) fun x3 =>
    some x3
  ) else (
    bno (stid_New a0 8 5) fun x4 =>
    bnd (!decide (x4.2 = 0)) fun x5 =>
    bif x5 then (
      some false
    ) else (
      sennitlaw22_StidAway_L0 a1 a2 fuel 0 x4.1.Odd x4.1.Next x4.1.Last x4.1.Live x4.1.Cut x4.1.Mine x4.1.Hers x4.1.Heard x4.1.Told
    )
  )
end Go.Fn
