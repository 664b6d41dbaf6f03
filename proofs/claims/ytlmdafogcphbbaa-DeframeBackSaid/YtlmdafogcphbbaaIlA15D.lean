/-
  A part of the proof: rules and plain facts. No condition.
-/
import Derived.Test.YtlmdafogcphbbaaIlZ
set_option linter.all false
set_option linter.unusedSimpArgs false
set_option linter.unusedVariables false
open Go Go.IL
namespace Go.Fn
structure T_api_Pair where
  ID : Int
  Value : Int
  deriving DecidableEq, Inhabited
def E_api_Pair : Enc T_api_Pair := ⟨⟨fun x => .agg [.int .i64 x.ID, .int .i64 x.Value], 2, by decide, fun _ => ⟨rfl, rfl⟩⟩, fun _ => rfl⟩
structure T_frame_Frame where
  Kind : Int
  Flag : Bool
  Stream : Int
  Offset : Int
  Dep : Int
  Weight : Int
  N : Int
  Code : Int
  Pairs : (List T_api_Pair)
  Data : (List UInt8)
  deriving DecidableEq, Inhabited
def E_frame_Frame : Enc T_frame_Frame := ⟨⟨fun x => .agg [.int .u8 x.Kind, .bool x.Flag, .int .i64 x.Stream, .int .i64 x.Offset, .int .i64 x.Dep, .int .i64 x.Weight, .int .i64 x.N, .int .i64 x.Code, .slice false (x.Pairs.map E_api_Pair.d), .str x.Data], 10, by decide, fun _ => ⟨rfl, rfl⟩⟩, fun _ => rfl⟩

def sennitref15_Light (a0 : T_frame_Frame) : Option Bool :=
  bnd (decide ((a0.Pairs.length : Int) ≤ 10)) fun x1 =>
  bnd (decide ((a0.Data.length : Int) ≤ 100)) fun x2 =>
  bnd (x1 && x2) fun x3 =>
  some x3

def frame_known (a0 : Int) : Option Bool :=
  bnd (decide (a0 ≤ 10)) fun x1 =>
  bnd (!decide (a0 = 5)) fun x2 =>
  bnd (x1 && x2) fun x3 =>
  some x3

def frame_in (a0 : Int) (a1 : Int) (a2 : Int) : Option Bool :=
  bnd (decide (a1 ≤ a0)) fun x1 =>
  bnd (decide (a0 ≤ a2)) fun x2 =>
  bnd (x1 && x2) fun x3 =>
  some x3

def frame_Frame_ranges_1 (a0 : T_api_Pair) : Option Bool :=
  bno (frame_in a0.ID 0 1099511627776) fun x1 =>
  bno (gd ((!x1) == false) (frame_in a0.Value 0 1099511627776) default) fun x2 =>
  bnd ((!x1) || (!x2)) fun x3 =>
  some x3

def slices_IndexFunc_api_Pair_api_Pair_ranges_1_L0 (a0 : (List T_api_Pair)) : Nat → Int → Option Int
  | 0, _ => none
  | n0 + 1, v7 =>
    bnd (decide (v7 < (a0.length : Int))) fun x14 =>
    bif x14 then (
      bno (gix a0 v7) fun x16 =>
      bno (frame_Frame_ranges_1 x16) fun x17 =>
      bif x17 then (
        some v7
      ) else (
        bnd (IntKind.wrap .i64 (v7 + 1)) fun x19 =>
        (slices_IndexFunc_api_Pair_api_Pair_ranges_1_L0 a0 n0) x19
      )
    ) else (
      some (-1)
    )
def slices_IndexFunc_api_Pair_api_Pair_ranges_1 (a0 : (List T_api_Pair)) : Option Int :=
  slices_IndexFunc_api_Pair_api_Pair_ranges_1_L0 a0 fuel 0

def slices_ContainsFunc_api_Pair_api_Pair_ranges_1 (a0 : (List T_api_Pair)) : Option Bool :=
  bno (slices_IndexFunc_api_Pair_api_Pair_ranges_1 a0) fun x1 =>
  bnd (decide (0 ≤ x1)) fun x2 =>
  some x2

def frame_Frame_ranges_J1 (a0 : T_frame_Frame) (v15 : Int) (v16 : Int) (v17 : Int) : Option Bool :=
  bno (slices_ContainsFunc_api_Pair_api_Pair_ranges_1 a0.Pairs) fun x18 =>
  bno (gd (x18 == false) (frame_in a0.N v15 v16) default) fun x19 =>
  bnd (x18 || (!x19)) fun x20 =>
  bno (gd (x20 == false) (frame_in a0.Code 0 v17) default) fun x21 =>
  bnd (x20 || (!x21)) fun x22 =>
  bif x22 then (
    some false
  ) else (
    bno (frame_in a0.Stream 0 1048576) fun x24 =>
    bno (gd (x24 == true) (frame_in a0.Dep 0 1048576) default) fun x25 =>
    bnd (x24 && x25) fun x26 =>
    bno (gd (x26 == true) (frame_in a0.Offset 0 1099511627776) default) fun x27 =>
    bnd (x26 && x27) fun x28 =>
    some x28
  )
def frame_Frame_ranges_J2 (a0 : T_frame_Frame) (v36 : Bool) : Option Bool :=
  bif v36 then (
    bno (frame_in a0.Weight 1 256) fun x38 =>
    bif (!x38) then (
      some false
    ) else (
      frame_Frame_ranges_J1 a0 0 1099511627776 255
    )
  ) else (
    frame_Frame_ranges_J1 a0 0 1099511627776 255
  )
def frame_Frame_ranges (a0 : T_frame_Frame) : Option Bool :=
  bnd (decide (a0.Kind = 8)) fun x29 =>
  bif x29 then (
    frame_Frame_ranges_J1 a0 1 1099511627776 255
  ) else (
    bnd (decide (a0.Kind = 10)) fun x31 =>
    bif x31 then (
      frame_Frame_ranges_J1 a0 0 3 1
    ) else (
      bnd (decide (a0.Kind = 1)) fun x40 =>
      bif x40 then (
        frame_Frame_ranges_J2 a0 x40
      ) else (
        bnd (decide (a0.Kind = 2)) fun x42 =>
        frame_Frame_ranges_J2 a0 x42
      )
    )
  )

def frame_Frame_numbers_h_J0 (v26 : (List Nat)) : Option (List Nat) :=
  bno (app 8 v26 ([6] : (List Nat))) fun x27 =>
  some x27
def frame_Frame_numbers_h (a0 : T_frame_Frame) : Option (List Nat) :=
  bnd (decide (a0.Kind = 0)) fun x28 =>
  bif x28 then (
    bno (app 8 ([] : (List Nat)) ([2, 3] : (List Nat))) fun x30 =>
    some x30
  ) else (
    bnd (decide (a0.Kind = 9)) fun x31 =>
    bif x31 then (
      bno (app 8 ([] : (List Nat)) ([2, 3] : (List Nat))) fun x33 =>
      some x33
    ) else (
      bnd (decide (a0.Kind = 1)) fun x34 =>
      bif x34 then (
        bno (app 8 ([] : (List Nat)) ([2, 4, 5] : (List Nat))) fun x36 =>
        some x36
      ) else (
        bnd (decide (a0.Kind = 2)) fun x37 =>
        bif x37 then (
          bno (app 8 ([] : (List Nat)) ([2, 4, 5] : (List Nat))) fun x39 =>
          some x39
        ) else (
          bnd (decide (a0.Kind = 3)) fun x40 =>
          bif x40 then (
            bno (app 8 ([] : (List Nat)) ([2, 6, 7] : (List Nat))) fun x42 =>
            some x42
          ) else (
            bnd (decide (a0.Kind = 7)) fun x43 =>
            bif x43 then (
              bno (app 8 ([] : (List Nat)) ([2, 7] : (List Nat))) fun x45 =>
              some x45
            ) else (
              bnd (decide (a0.Kind = 8)) fun x46 =>
              bif x46 then (
                bno (app 8 ([] : (List Nat)) ([2] : (List Nat))) fun x48 =>
                frame_Frame_numbers_h_J0 x48
              ) else (
                bnd (decide (a0.Kind = 6)) fun x49 =>
                bif x49 then (
                  frame_Frame_numbers_h_J0 ([] : (List Nat))
                ) else (
                  bnd (decide (a0.Kind = 10)) fun x51 =>
                  bif x51 then (
                    bno (app 8 ([] : (List Nat)) ([6, 7] : (List Nat))) fun x53 =>
                    some x53
                  ) else (
                    some ([] : (List Nat))
                  )
                )
              )
            )
          )
        )
      )
    )
  )

def frame_flagged (a0 : Int) : Option Bool :=
  bnd (decide (a0 = 0)) fun x1 =>
  bif x1 then (
    some true
  ) else (
    bnd (decide (a0 = 1)) fun x3 =>
    bif x3 then (
      some true
    ) else (
      bnd (decide (a0 = 2)) fun x5 =>
      bif x5 then (
        some true
      ) else (
        bnd (decide (a0 = 4)) fun x7 =>
        bif x7 then (
          some true
        ) else (
          bnd (decide (a0 = 6)) fun x9 =>
          bif x9 then (
            some true
          ) else (
            bnd (decide (a0 = 9)) fun x11 =>
            bif x11 then (
              some true
            ) else (
              some false
            )
          )
        )
      )
    )
  )

def frame_Frame_bare_J1 (a0 : T_frame_Frame) (v9 : Int) (v10 : Int) (v11 : Int) (v12 : Int) (v13 : Int) (v14 : Int) (v32 : (List T_api_Pair)) (v33 : (List UInt8)) : Option T_frame_Frame :=
  bno (frame_flagged a0.Kind) fun x34 =>
  bif x34 then (
    some (⟨a0.Kind, false, v9, v10, v11, v12, v13, v14, v32, v33⟩ : T_frame_Frame)
  ) else (
    some (⟨a0.Kind, a0.Flag, v9, v10, v11, v12, v13, v14, v32, v33⟩ : T_frame_Frame)
  )
def frame_Frame_bare_L0 (a0 : T_frame_Frame) (x1 : (List Nat)) : Nat → Int → Int → Int → Int → Int → Int → Int → Option T_frame_Frame
  | 0, _, _, _, _, _, _, _ => none
  | n0 + 1, v8, v9, v10, v11, v12, v13, v14 =>
    bnd (decide (v8 < (x1.length : Int))) fun x21 =>
    bif x21 then (
      bno (gix x1 v8) fun x23 =>
      bno (x1[(v8 : Int).toNat]?) fun x24 =>
      bno (icell [none, none, some v9, some v10, some v11, some v12, some v13, some v14, none, none] x24) fun x25 =>
      bnd (IntKind.wrap .i64 (v8 + 1)) fun x26 =>
      (frame_Frame_bare_L0 a0 x1 n0) x26 (bif Nat.beq x24 2 then 0 else v9) (bif Nat.beq x24 3 then 0 else v10) (bif Nat.beq x24 4 then 0 else v11) (bif Nat.beq x24 5 then 0 else v12) (bif Nat.beq x24 6 then 0 else v13) (bif Nat.beq x24 7 then 0 else v14)
    ) else (
      bnd (decide (a0.Kind = 0)) fun x36 =>
      bif x36 then (
        frame_Frame_bare_J1 a0 v9 v10 v11 v12 v13 v14 a0.Pairs ([] : (List UInt8))
      ) else (
        bnd (decide (a0.Kind = 4)) fun x38 =>
        bif x38 then (
          bif (!a0.Flag) then (
            frame_Frame_bare_J1 a0 v9 v10 v11 v12 v13 v14 ([] : (List T_api_Pair)) a0.Data
          ) else (
            frame_Frame_bare_J1 a0 v9 v10 v11 v12 v13 v14 a0.Pairs a0.Data
          )
        ) else (
          frame_Frame_bare_J1 a0 v9 v10 v11 v12 v13 v14 a0.Pairs a0.Data
        )
      )
    )
def frame_Frame_bare (a0 : T_frame_Frame) : Option T_frame_Frame :=
  bno (frame_Frame_numbers_h a0) fun x1 =>
  frame_Frame_bare_L0 a0 x1 fuel 0 a0.Stream a0.Offset a0.Dep a0.Weight a0.N a0.Code

def slices_Equal_api_Pair_api_Pair_L0 (a0 : (List T_api_Pair)) (a1 : (List T_api_Pair)) : Nat → Int → Option Bool
  | 0, _ => none
  | n0 + 1, v10 =>
    bnd (decide (v10 < (a0.length : Int))) fun x18 =>
    bif x18 then (
      bno (gix a0 v10) fun x20 =>
      bno (gix a1 v10) fun x21 =>
      bnd ((decide (x20.ID = x21.ID) && (decide (x20.Value = x21.Value) && true))) fun x22 =>
      bif (!x22) then (
        some false
      ) else (
        bnd (IntKind.wrap .i64 (v10 + 1)) fun x24 =>
        (slices_Equal_api_Pair_api_Pair_L0 a0 a1 n0) x24
      )
    ) else (
      some true
    )
def slices_Equal_api_Pair_api_Pair (a0 : (List T_api_Pair)) (a1 : (List T_api_Pair)) : Option Bool :=
  bnd (!decide ((a0.length : Int) = (a1.length : Int))) fun x1 =>
  bif x1 then (
    some false
  ) else (
    slices_Equal_api_Pair_api_Pair_L0 a0 a1 fuel 0
  )

def frame_Same (a0 : T_frame_Frame) (a1 : T_frame_Frame) : Option Bool :=
  bnd (!decide (a0.Kind = a1.Kind)) fun x1 =>
  bnd (!(a0.Flag == a1.Flag)) fun x2 =>
  bnd (x1 || x2) fun x3 =>
  bno (gd (x3 == false) (slices_Equal_api_Pair_api_Pair a0.Pairs a1.Pairs) default) fun x4 =>
  bnd (x3 || (!x4)) fun x5 =>
  bif x5 then (
    some false
  ) else (
    bnd (decide (a0.Stream = a1.Stream)) fun x7 =>
    bnd (decide (a0.Offset = a1.Offset)) fun x8 =>
    bnd (x7 && x8) fun x9 =>
    bnd (decide (a0.Dep = a1.Dep)) fun x10 =>
    bnd (x9 && x10) fun x11 =>
    bnd (decide (a0.Weight = a1.Weight)) fun x12 =>
    bnd (x11 && x12) fun x13 =>
    bnd (decide (a0.N = a1.N)) fun x14 =>
    bnd (x13 && x14) fun x15 =>
    bnd (decide (a0.Code = a1.Code)) fun x16 =>
    bnd (x15 && x16) fun x17 =>
    bnd (decide (a0.Data = a1.Data)) fun x18 =>
    bnd (x17 && x18) fun x19 =>
    some x19
  )

def frame_Check_J0 (a0 : T_frame_Frame) (v8 : Bool) : Option Int :=
  bif v8 then (
    some 5
  ) else (
    bno (frame_Frame_bare a0) fun x10 =>
    bno (frame_Same x10 (⟨a0.Kind, false, 0, 0, 0, 0, 0, 0, [], []⟩ : T_frame_Frame)) fun x11 =>
    bif (!x11) then (
      some 4
    ) else (
      some 0
    )
  )
def frame_Check (a0 : T_frame_Frame) : Option Int :=
  bno (frame_known a0.Kind) fun x1 =>
  bif (!x1) then (
    some 12
  ) else (
    bno (frame_Frame_ranges a0) fun x3 =>
    bif (!x3) then (
      some 8
    ) else (
      bnd (decide (32 < (a0.Data.length : Int))) fun x13 =>
      bif x13 then (
        frame_Check_J0 a0 x13
      ) else (
        bnd (decide (4 < (a0.Pairs.length : Int))) fun x15 =>
        frame_Check_J0 a0 x15
      )
    )
  )

def math_bits_Len64_J2 (v16 : Int) (v17 : Int) : Option Int :=
  bnd (IntKind.wrap .u8 v16) fun x18 =>
  bno (gix ([0, 1, 2, 2, 3, 3, 3, 3, 4, 4, 4, 4, 4, 4, 4, 4, 5, 5, 5, 5, 5, 5, 5, 5, 5, 5, 5, 5, 5, 5, 5, 5, 6, 6, 6, 6, 6, 6, 6, 6, 6, 6, 6, 6, 6, 6, 6, 6, 6, 6, 6, 6, 6, 6, 6, 6, 6, 6, 6, 6, 6, 6, 6, 6, 7, 7, 7, 7, 7, 7, 7, 7, 7, 7, 7, 7, 7, 7, 7, 7, 7, 7, 7, 7, 7, 7, 7, 7, 7, 7, 7, 7, 7, 7, 7, 7, 7, 7, 7, 7, 7, 7, 7, 7, 7, 7, 7, 7, 7, 7, 7, 7, 7, 7, 7, 7, 7, 7, 7, 7, 7, 7, 7, 7, 7, 7, 7, 7, 8, 8, 8, 8, 8, 8, 8, 8, 8, 8, 8, 8, 8, 8, 8, 8, 8, 8, 8, 8, 8, 8, 8, 8, 8, 8, 8, 8, 8, 8, 8, 8, 8, 8, 8, 8, 8, 8, 8, 8, 8, 8, 8, 8, 8, 8, 8, 8, 8, 8, 8, 8, 8, 8, 8, 8, 8, 8, 8, 8, 8, 8, 8, 8, 8, 8, 8, 8, 8, 8, 8, 8, 8, 8, 8, 8, 8, 8, 8, 8, 8, 8, 8, 8, 8, 8, 8, 8, 8, 8, 8, 8, 8, 8, 8, 8, 8, 8, 8, 8, 8, 8, 8, 8, 8, 8, 8, 8, 8, 8, 8, 8, 8, 8, 8, 8, 8, 8, 8, 8, 8, 8, 8, 8, 8, 8, 8, 8] : List UInt8) x18) fun x19 =>
  bnd (IntKind.wrap .i64 (x19.toNat : Int)) fun x20 =>
  bnd (IntKind.wrap .i64 (v17 + x20)) fun x21 =>
  some x21
def math_bits_Len64_J1 (v10 : Int) (v11 : Int) : Option Int :=
  bnd (decide (256 ≤ v10)) fun x22 =>
  bif x22 then (
    bno (shrI .u64 v10 8) fun x24 =>
    bnd (IntKind.wrap .i64 (v11 + 8)) fun x25 =>
    math_bits_Len64_J2 x24 x25
  ) else (
    math_bits_Len64_J2 v10 v11
  )
def math_bits_Len64_J0 (v4 : Int) (v5 : Int) : Option Int :=
  bnd (decide (65536 ≤ v4)) fun x26 =>
  bif x26 then (
    bno (shrI .u64 v4 16) fun x28 =>
    bnd (IntKind.wrap .i64 (v5 + 16)) fun x29 =>
    math_bits_Len64_J1 x28 x29
  ) else (
    math_bits_Len64_J1 v4 v5
  )
def math_bits_Len64 (a0 : Int) : Option Int :=
  bnd (decide (4294967296 ≤ a0)) fun x30 =>
  bif x30 then (
    bno (shrI .u64 a0 32) fun x32 =>
    math_bits_Len64_J0 x32 32
  ) else (
    math_bits_Len64_J0 a0 0
  )

def math_bits_Len (a0 : Int) : Option Int :=
  bno (math_bits_Len64 a0) fun x1 =>
  some x1

def varint_kind_L0 (a0 : Int) : Nat → Int → Option Int
  | 0, _ => none
  | n0 + 1, v14 =>
    bnd (decide (v14 < 4)) fun x24 =>
    bif x24 then (
      bnd (IntKind.wrap .u64 a0) fun x26 =>
      bno (math_bits_Len x26) fun x27 =>
      bno (shlI .i64 8 v14) fun x28 =>
      bnd (IntKind.wrap .i64 (x28 - 2)) fun x29 =>
      bnd (decide (x27 ≤ x29)) fun x30 =>
      bif x30 then (
        some v14
      ) else (
        bnd (IntKind.wrap .i64 (v14 + 1)) fun x32 =>
        (varint_kind_L0 a0 n0) x32
      )
    ) else (
      some (-1)
    )
def varint_kind (a0 : Int) : Option Int :=
  bnd (decide (a0 < 0)) fun x1 =>
  bnd (decide (4611686018427387903 < a0)) fun x2 =>
  bnd (x1 || x2) fun x3 =>
  bif x3 then (
    some (-1)
  ) else (
    varint_kind_L0 a0 fuel 0
  )

def varint_Put_L0 (x1 : Int) : Nat → Int → (List UInt8) → Int → Option ((List UInt8) × Int)
  | 0, _, _, _ => none
  | n0 + 1, v16, v17, v18 =>
    bnd (decide (0 ≤ v18)) fun x28 =>
    bif x28 then (
      bnd (IntKind.wrap .u8 v16) fun x30 =>
      bno (gix v17 v18) fun x31 =>
      bno (v17[(v18 : Int).toNat]?) fun x32 =>
      bno (toU8 x30) fun x33 =>
      bnd (v17.set ((v18 : Int).toNat) x33) fun x34 =>
      bno (shrI .i64 v16 8) fun x35 =>
      bnd (IntKind.wrap .i64 (v18 - 1)) fun x36 =>
      (varint_Put_L0 x1 n0) x35 x34 x36
    ) else (
      bno (gix v17 0) fun x37 =>
      bno (v17[(0 : Int).toNat]?) fun x38 =>
      bno (shlI .i64 x1 6) fun x39 =>
      bnd (IntKind.wrap .u8 x39) fun x40 =>
      bnd (orI .u8 (x38.toNat : Int) x40) fun x41 =>
      bno (gix v17 0) fun x42 =>
      bno (v17[(0 : Int).toNat]?) fun x43 =>
      bno (toU8 x41) fun x44 =>
      bnd (v17.set ((0 : Int).toNat) x44) fun x45 =>
      some (x45, 0)
    )
def varint_Put (a0 : Int) : Option ((List UInt8) × Int) :=
  bno (varint_kind a0) fun x1 =>
  bnd (decide (x1 < 0)) fun x2 =>
  bif x2 then (
    some ([], 8)
  ) else (
    bno (shlI .i64 1 x1) fun x4 =>
    bno (made 1 x4 (0 : UInt8)) fun x5 =>
    bnd (IntKind.wrap .i64 ((x5.length : Int) - 1)) fun x6 =>
    varint_Put_L0 x1 fuel a0 x5 x6
  )

def varint_join_L0 (a0 : (List Int)) : Nat → (List UInt8) → Int → Option ((List UInt8) × Int)
  | 0, _, _ => none
  | n0 + 1, v9, v10 =>
    bnd (decide (v10 < (a0.length : Int))) fun x19 =>
    bif x19 then (
      bno (gix a0 v10) fun x21 =>
      bno (varint_Put x21) fun x22 =>
      bnd (!decide (x22.2 = 0)) fun x23 =>
      bif x23 then (
        some ([], x22.2)
      ) else (
        bno (app 1 v9 x22.1) fun x25 =>
        bnd (IntKind.wrap .i64 (v10 + 1)) fun x26 =>
        (varint_join_L0 a0 n0) x25 x26
      )
    ) else (
      some (v9, 0)
    )
def varint_join (a0 : (List Int)) : Option ((List UInt8) × Int) :=
  varint_join_L0 a0 fuel ([] : (List UInt8)) 0

def varint_Join (a0 : (List Int)) : Option ((List UInt8) × Int) :=
  bno (varint_join a0) fun x1 =>
  some (x1.1, x1.2)

def frame_Frame_payload_L1 (a0 : T_frame_Frame) : Nat → (List Int) → Int → Option (List UInt8)
  | 0, _, _ => none
  | n1 + 1, v30, v31 =>
    bnd (decide (v31 < (a0.Pairs.length : Int))) fun x37 =>
    bif x37 then (
      bno (gix a0.Pairs v31) fun x39 =>
      bno (app 8 v30 ([x39.ID, x39.Value] : (List Int))) fun x40 =>
      bnd (IntKind.wrap .i64 (v31 + 1)) fun x41 =>
      (frame_Frame_payload_L1 a0 n1) x40 x41
    ) else (
      bno (varint_Join v30) fun x42 =>
      bno (cat x42.1 a0.Data) fun x43 =>
      some x43
    )
def frame_Frame_payload_L0 (a0 : T_frame_Frame) (x1 : (List Nat)) : Nat → (List Int) → Int → Option (List UInt8)
  | 0, _, _ => none
  | n0 + 1, v9, v10 =>
    bnd (decide (v10 < (x1.length : Int))) fun x18 =>
    bif x18 then (
      bno (gix x1 v10) fun x20 =>
      bno (x1[(v10 : Int).toNat]?) fun x21 =>
      bno (icell [none, none, some a0.Stream, some a0.Offset, some a0.Dep, some a0.Weight, some a0.N, some a0.Code, none, none] x21) fun x22 =>
      bno (app 8 v9 ([x22] : (List Int))) fun x23 =>
      bnd (IntKind.wrap .i64 (v10 + 1)) fun x24 =>
      (frame_Frame_payload_L0 a0 x1 n0) x23 x24
    ) else (
      frame_Frame_payload_L1 a0 fuel v9 0
    )
def frame_Frame_payload (a0 : T_frame_Frame) : Option (List UInt8) :=
  bno (frame_Frame_numbers_h a0) fun x1 =>
  frame_Frame_payload_L0 a0 x1 fuel ([] : (List Int)) 0

def slices_Clone_byte_byte_h (a0 : (List UInt8)) : Option (List UInt8) :=
  bothE a0 (
    some ([] : (List UInt8))
  ) (
    bno (app 1 ([] : (List UInt8)) a0) fun x3 =>
    some x3
  )

def cursor_Fits (a0 : Int) (a1 : Int) : Option Bool :=
  bnd (decide (0 ≤ a0)) fun x1 =>
  bnd (decide (1 ≤ a1)) fun x2 =>
  bnd (x1 && x2) fun x3 =>
  bnd (decide (a1 ≤ 7)) fun x4 =>
  bnd (x3 && x4) fun x5 =>
  bnd (IntKind.wrap .i64 (8 * a1)) fun x6 =>
  bno (gd (x5 == true) (shrI .i64 a0 x6) 0) fun x7 =>
  bnd (decide (x7 = 0)) fun x8 =>
  bnd (x5 && x8) fun x9 =>
  some x9

def cursor_Lay_L0 (a1 : Int) (a2 : Int) : Nat → (List UInt8) → Int → Option (List UInt8)
  | 0, _, _ => none
  | n0 + 1, v14, v15 =>
    bnd (decide (v15 < a2)) fun x26 =>
    bif x26 then (
      bnd (IntKind.wrap .i64 (a2 - 1)) fun x28 =>
      bnd (IntKind.wrap .i64 (x28 - v15)) fun x29 =>
      bnd (IntKind.wrap .i64 (8 * x29)) fun x30 =>
      bno (shrI .i64 a1 x30) fun x31 =>
      bnd (IntKind.wrap .u8 x31) fun x32 =>
      bno (toU8 x32) fun x33 =>
      bno (app 1 v14 ([x33] : (List UInt8))) fun x34 =>
      bnd (IntKind.wrap .i64 (v15 + 1)) fun x35 =>
      (cursor_Lay_L0 a1 a2 n0) x34 x35
    ) else (
      some v14
    )
def cursor_Lay (a0 : (List UInt8)) (a1 : Int) (a2 : Int) : Option (List UInt8) :=
  bno (slices_Clone_byte_byte_h a0) fun x1 =>
  bno (cursor_Fits a1 a2) fun x2 =>
  bif (!x2) then (
    some x1
  ) else (
    cursor_Lay_L0 a1 a2 fuel x1 0
  )

def frame_Put_J0 (a0 : T_frame_Frame) (v5 : Int) : Option ((List UInt8) × Int) :=
  bno (frame_Frame_payload a0) fun x6 =>
  bno (varint_Put (x6.length : Int)) fun x7 =>
  bnd (!decide (x7.2 = 0)) fun x8 =>
  bif x8 then (
    some ([], x7.2)
  ) else (
    bnd (IntKind.wrap .i64 a0.Kind) fun x10 =>
    bno (cursor_Lay ([] : (List UInt8)) x10 1) fun x11 =>
    bno (cursor_Lay x11 v5 1) fun x12 =>
    bno (cat x12 x7.1) fun x13 =>
    bno (cat x13 x6) fun x14 =>
    some (x14, 0)
  )
def frame_Put (a0 : T_frame_Frame) : Option ((List UInt8) × Int) :=
  bno (frame_Check a0) fun x1 =>
  bnd (!decide (x1 = 0)) fun x2 =>
  bif x2 then (
    some ([], x1)
  ) else (
    bif a0.Flag then (
      frame_Put_J0 a0 1
    ) else (
      frame_Put_J0 a0 0
    )
  )

def varint_Get_L0 (x5 : Int) (x6 : Int) (x12 : (List UInt8)) : Nat → Int → Int → Option (Int × Int × Int)
  | 0, _, _ => none
  | n0 + 1, v20, v21 =>
    bnd (decide (v21 < (x12.length : Int))) fun x29 =>
    bif x29 then (
      bno (gix x12 v21) fun x31 =>
      bno (shlI .i64 v20 8) fun x32 =>
      bnd (IntKind.wrap .i64 (x31.toNat : Int)) fun x33 =>
      bnd (orI .i64 x32 x33) fun x34 =>
      bnd (IntKind.wrap .i64 (v21 + 1)) fun x35 =>
      (varint_Get_L0 x5 x6 x12 n0) x34 x35
    ) else (
      bno (varint_kind v20) fun x36 =>
      bnd (!decide (x36 = x5)) fun x37 =>
      bif x37 then (
        some (0, 0, 4)
      ) else (
        some (v20, x6, 0)
      )
    )
def varint_Get (a0 : (List UInt8)) : Option (Int × Int × Int) :=
  bnd (decide (a0 = ([] : List UInt8))) fun x1 =>
  bif x1 then (
    some (0, 0, 3)
  ) else (
    bno (gix a0 0) fun x3 =>
    bno (shrI .u8 (x3.toNat : Int) 6) fun x4 =>
    bnd (IntKind.wrap .i64 x4) fun x5 =>
    bno (shlI .i64 1 x5) fun x6 =>
    bnd (decide ((a0.length : Int) < x6)) fun x7 =>
    bif x7 then (
      some (0, 0, 3)
    ) else (
      bno (gix a0 0) fun x9 =>
      bnd (andI .u8 (x9.toNat : Int) 63) fun x10 =>
      bnd (IntKind.wrap .i64 x10) fun x11 =>
      bno (cut a0 1 x6) fun x12 =>
      varint_Get_L0 x5 x6 x12 fuel x11 0
    )
  )

def frame_head (a0 : (List UInt8)) : Option (T_frame_Frame × Int × Int × Int) :=
  bnd (decide (a0 = ([] : List UInt8))) fun x1 =>
  bif x1 then (
    some ((⟨0, false, 0, 0, 0, 0, 0, 0, [], []⟩ : T_frame_Frame), 0, 0, 3)
  ) else (
    bno (gix a0 0) fun x3 =>
    bno (frame_known (x3.toNat : Int)) fun x4 =>
    bif (!x4) then (
      some ((⟨0, false, 0, 0, 0, 0, 0, 0, [], []⟩ : T_frame_Frame), 0, 0, 12)
    ) else (
      bnd (decide ((a0.length : Int) < 2)) fun x6 =>
      bif x6 then (
        some ((⟨0, false, 0, 0, 0, 0, 0, 0, [], []⟩ : T_frame_Frame), 0, 0, 3)
      ) else (
        bno (gix a0 1) fun x8 =>
        bnd (decide (1 < (x8.toNat : Int))) fun x9 =>
        bif x9 then (
          some ((⟨0, false, 0, 0, 0, 0, 0, 0, [], []⟩ : T_frame_Frame), 0, 0, 4)
        ) else (
          bno (cut a0 2 (a0.length : Int)) fun x11 =>
          bno (varint_Get x11) fun x12 =>
          bnd (!decide (x12.2.2 = 0)) fun x13 =>
          bif x13 then (
            some ((⟨0, false, 0, 0, 0, 0, 0, 0, [], []⟩ : T_frame_Frame), 0, 0, x12.2.2)
          ) else (
            bnd (decide (64 < x12.1)) fun x15 =>
            bif x15 then (
              some ((⟨0, false, 0, 0, 0, 0, 0, 0, [], []⟩ : T_frame_Frame), 0, 0, 5)
            ) else (
              bnd (IntKind.wrap .i64 ((a0.length : Int) - 2)) fun x17 =>
              bnd (IntKind.wrap .i64 (x17 - x12.2.1)) fun x18 =>
              bnd (decide (x18 < x12.1)) fun x19 =>
              bif x19 then (
                some ((⟨0, false, 0, 0, 0, 0, 0, 0, [], []⟩ : T_frame_Frame), 0, 0, 3)
              ) else (
                bno (gix a0 0) fun x21 =>
                bno (gix a0 1) fun x22 =>
                bnd (decide ((x22.toNat : Int) = 1)) fun x23 =>
                bnd (IntKind.wrap .i64 (2 + x12.2.1)) fun x24 =>
                bnd (IntKind.wrap .i64 (2 + x12.2.1)) fun x25 =>
                bnd (IntKind.wrap .i64 (x25 + x12.1)) fun x26 =>
                some ((⟨(x21.toNat : Int), x23, 0, 0, 0, 0, 0, 0, [], []⟩ : T_frame_Frame), x24, x26, 0)
              )
            )
          )
        )
      )
    )
  )

def varint_All_L0  : Nat → (List UInt8) → (List Int) → Option ((List Int) × Int)
  | 0, _, _ => none
  | n0 + 1, v8, v9 =>
    bnd (!decide (v8 = ([] : List UInt8))) fun x17 =>
    bif x17 then (
      bno (varint_Get v8) fun x19 =>
      bnd (!decide (x19.2.2 = 0)) fun x20 =>
      bif x20 then (
        some ([], x19.2.2)
      ) else (
        bno (app 8 v9 ([x19.1] : (List Int))) fun x22 =>
        bno (cut v8 x19.2.1 (v8.length : Int)) fun x23 =>
        (varint_All_L0 n0) x23 x22
      )
    ) else (
      some (v9, 0)
    )
def varint_All (a0 : (List UInt8)) : Option ((List Int) × Int) :=
  varint_All_L0 fuel a0 ([] : (List Int))

def frame_settings_L0  : Nat → (List Int) → (List T_api_Pair) → Option ((List T_api_Pair) × Bool)
  | 0, _, _ => none
  | n0 + 1, v13, v14 =>
    bnd (decide (0 < (v13.length : Int))) fun x21 =>
    bif x21 then (
      bno (gix v13 0) fun x23 =>
      bno (gix v13 1) fun x24 =>
      bno (app 16 v14 (([(⟨x23, x24⟩ : T_api_Pair)] : (List T_api_Pair)))) fun x25 =>
      bno (cut v13 2 (v13.length : Int)) fun x26 =>
      (frame_settings_L0 n0) x26 x25
    ) else (
      some (v14, true)
    )
def frame_settings (a0 : (List UInt8)) : Option ((List T_api_Pair) × Bool) :=
  bno (varint_All a0) fun x1 =>
  bnd (!decide (x1.2 = 0)) fun x2 =>
  bno (gd (x2 == false) (remI (x1.1.length : Int) 2) 0) fun x3 =>
  bnd (decide (x3 = 1)) fun x4 =>
  bnd (x2 || x4) fun x5 =>
  bif x5 then (
    some ([], false)
  ) else (
    frame_settings_L0 fuel x1.1 ([] : (List T_api_Pair))
  )

def frame_Frame_read_h_L0 (a1 : T_frame_Frame) (x1 : (List Nat)) : Nat → (List UInt8) → Int → Int → Int → Int → Int → Int → Int → Option (Bool × T_frame_Frame)
  | 0, _, _, _, _, _, _, _, _ => none
  | n0 + 1, v12, v13, v14, v15, v16, v17, v18, v19 =>
    bnd (decide (v13 < (x1.length : Int))) fun x30 =>
    bif x30 then (
      bno (gix x1 v13) fun x32 =>
      bno (x1[(v13 : Int).toNat]?) fun x33 =>
      bno (varint_Get v12) fun x34 =>
      bnd (!decide (x34.2.2 = 0)) fun x35 =>
      bif x35 then (
        some (false, (⟨a1.Kind, a1.Flag, v14, v15, v16, v17, v18, v19, a1.Pairs, a1.Data⟩ : T_frame_Frame))
      ) else (
        bno (icell [none, none, some v14, some v15, some v16, some v17, some v18, some v19, none, none] x33) fun x37 =>
        bno (cut v12 x34.2.1 (v12.length : Int)) fun x38 =>
        bnd (IntKind.wrap .i64 (v13 + 1)) fun x39 =>
        (frame_Frame_read_h_L0 a1 x1 n0) x38 x39 (bif Nat.beq x33 2 then x34.1 else v14) (bif Nat.beq x33 3 then x34.1 else v15) (bif Nat.beq x33 4 then x34.1 else v16) (bif Nat.beq x33 5 then x34.1 else v17) (bif Nat.beq x33 6 then x34.1 else v18) (bif Nat.beq x33 7 then x34.1 else v19)
      )
    ) else (
      bnd (decide (a1.Kind = 0)) fun x40 =>
      bif x40 then (
        some (true, (⟨a1.Kind, a1.Flag, v14, v15, v16, v17, v18, v19, a1.Pairs, v12⟩ : T_frame_Frame))
      ) else (
        bnd (decide (a1.Kind = 4)) fun x42 =>
        bif x42 then (
          bno (frame_settings v12) fun x44 =>
          some (x44.2, (⟨a1.Kind, a1.Flag, v14, v15, v16, v17, v18, v19, x44.1, a1.Data⟩ : T_frame_Frame))
        ) else (
          bnd (decide (v12 = ([] : List UInt8))) fun x45 =>
          some (x45, (⟨a1.Kind, a1.Flag, v14, v15, v16, v17, v18, v19, a1.Pairs, a1.Data⟩ : T_frame_Frame))
        )
      )
    )
def frame_Frame_read_h (a0 : (List UInt8)) (a1 : T_frame_Frame) : Option (Bool × T_frame_Frame) :=
  bno (frame_Frame_numbers_h a1) fun x1 =>
  frame_Frame_read_h_L0 a1 x1 fuel a0 0 a1.Stream a1.Offset a1.Dep a1.Weight a1.N a1.Code

def frame_Get (a0 : (List UInt8)) : Option (T_frame_Frame × Int × Int) :=
  bno (frame_head a0) fun x1 =>
  bnd (!decide (x1.2.2.2 = 0)) fun x2 =>
  bif x2 then (
    some ((⟨0, false, 0, 0, 0, 0, 0, 0, [], []⟩ : T_frame_Frame), 0, x1.2.2.2)
  ) else (
    bno (cut a0 x1.2.1 x1.2.2.1) fun x4 =>
    bno (frame_Frame_read_h x4 x1.1) fun x5 =>
    bif (!x5.1) then (
      some ((⟨0, false, 0, 0, 0, 0, 0, 0, [], []⟩ : T_frame_Frame), 0, 4)
    ) else (
      bno (frame_Check x5.2) fun x7 =>
      bnd (!decide (x7 = 0)) fun x8 =>
      bif x8 then (
        some ((⟨0, false, 0, 0, 0, 0, 0, 0, [], []⟩ : T_frame_Frame), 0, x7)
      ) else (
        some (x5.2, x1.2.2.1, 0)
      )
    )
  )

def frame_Size (a0 : T_frame_Frame) : Option Int :=
  bno (frame_Put a0) fun x1 =>
  some (x1.1.length : Int)

def sennitlaw15_awake  : Option Bool :=
  bno (frame_Put (⟨3, false, 3, 0, 0, 0, 5, 8, [], []⟩ : T_frame_Frame)) fun x1 =>
  bno (cat x1.1 ([120] : List UInt8)) fun x2 =>
  bno (frame_Get x2) fun x3 =>
  bno (frame_Get [5, 0]) fun x4 =>
  bno (frame_Get [3, 0, 3, 3]) fun x5 =>
  bno (frame_Get [3, 0, 1, 3]) fun x6 =>
  bno (frame_Put (⟨0, true, 5, 100, 0, 0, 0, 0, [], [97, 98]⟩ : T_frame_Frame)) fun x7 =>
  bnd (decide (x1.1 = ([3, 0, 3, 3, 5, 8] : List UInt8))) fun x8 =>
  bnd (decide (x1.2 = 0)) fun x9 =>
  bnd (x8 && x9) fun x10 =>
  bno (gd (x10 == true) (frame_Same (⟨3, false, 3, 0, 0, 0, 5, 8, [], []⟩ : T_frame_Frame) x3.1) default) fun x11 =>
  bnd (x10 && x11) fun x12 =>
  bnd (decide (x3.2.1 = 6)) fun x13 =>
  bnd (x12 && x13) fun x14 =>
  bnd (decide (x3.2.2 = 0)) fun x15 =>
  bnd (x14 && x15) fun x16 =>
  bnd (decide (x4.2.2 = 12)) fun x17 =>
  bnd (x16 && x17) fun x18 =>
  bnd (decide (x5.2.2 = 3)) fun x19 =>
  bnd (x18 && x19) fun x20 =>
  bnd (decide (x6.2.2 = 4)) fun x21 =>
  bnd (x20 && x21) fun x22 =>
  bnd (decide (x7.1 = ([0, 1, 5, 5, 64, 100, 97, 98] : List UInt8))) fun x23 =>
  bnd (x22 && x23) fun x24 =>
  bnd (decide (x7.2 = 0)) fun x25 =>
  bnd (x24 && x25) fun x26 =>
  bno (gd (x26 == true) (frame_Size (⟨3, false, 3, 0, 0, 0, 5, 8, [], []⟩ : T_frame_Frame)) default) fun x27 =>
  bnd (decide (x27 = 6)) fun x28 =>
  bnd (x26 && x28) fun x29 =>
  bno (gd (x29 == true) (frame_Check (⟨8, false, 0, 0, 0, 0, 0, 0, [], []⟩ : T_frame_Frame)) default) fun x30 =>
  bnd (decide (x30 = 8)) fun x31 =>
  bnd (x29 && x31) fun x32 =>
  bno (gd (x32 == true) (frame_Same (⟨3, false, 3, 0, 0, 0, 5, 8, [], []⟩ : T_frame_Frame) (⟨0, false, 0, 0, 0, 0, 0, 0, [], []⟩ : T_frame_Frame)) default) fun x33 =>
  bnd (x32 && (!x33)) fun x34 =>
  bnd (bif x34 then true else false) fun x35 =>
  bnd (bif x35 then true else false) fun x36 =>
  bnd (bif x36 then true else false) fun x37 =>
  bnd (bif x37 then true else false) fun x38 =>
  bnd (bif x38 then true else false) fun x39 =>
  bnd (bif x39 then true else false) fun x40 =>
  bnd (bif x40 then true else false) fun x41 =>
  bnd (bif x41 then true else false) fun x42 =>
  some x42

def sennitref15_fields_J1 (a0 : Int) (v9 : Bool) : Option (List UInt8) :=
  bif v9 then (
    some [115, 100, 119]
  ) else (
    bnd (decide (a0 = 3)) fun x11 =>
    bif x11 then (
      some [115, 110, 99]
    ) else (
      bnd (decide (a0 = 7)) fun x13 =>
      bif x13 then (
        some [115, 99]
      ) else (
        bnd (decide (a0 = 4)) fun x15 =>
        bif x15 then (
          some []
        ) else (
          bnd (decide (a0 = 6)) fun x17 =>
          bif x17 then (
            some [110]
          ) else (
            bnd (decide (a0 = 8)) fun x19 =>
            bif x19 then (
              some [115, 110]
            ) else (
              bnd (decide (a0 = 10)) fun x21 =>
              bif x21 then (
                some [110, 99]
              ) else (
                some [45]
              )
            )
          )
        )
      )
    )
  )
def sennitref15_fields_J0 (a0 : Int) (v4 : Bool) : Option (List UInt8) :=
  bif v4 then (
    some [115, 111]
  ) else (
    bnd (decide (a0 = 1)) fun x23 =>
    bif x23 then (
      sennitref15_fields_J1 a0 x23
    ) else (
      bnd (decide (a0 = 2)) fun x25 =>
      sennitref15_fields_J1 a0 x25
    )
  )
def sennitref15_fields (a0 : Int) : Option (List UInt8) :=
  bnd (decide (a0 = 0)) fun x26 =>
  bif x26 then (
    sennitref15_fields_J0 a0 x26
  ) else (
    bnd (decide (a0 = 9)) fun x28 =>
    sennitref15_fields_J0 a0 x28
  )

def sennitref15_in (a0 : Int) (a1 : Int) (a2 : Int) : Option Bool :=
  bnd (decide (a1 ≤ a0)) fun x1 =>
  bnd (decide (a0 ≤ a2)) fun x2 =>
  bnd (x1 && x2) fun x3 =>
  some x3

def sennitref15_ranges_L3 (a0 : T_frame_Frame) (v3 : Int) (v6 : Int) (v7 : Int) (v13 : Bool) : Nat → Int → Option Bool
  | 0, _ => none
  | n3 + 1, v23 =>
    bnd (decide (v23 < (a0.Pairs.length : Int))) fun x33 =>
    bif x33 then (
      bno (gix a0.Pairs v23) fun x35 =>
      bno (sennitref15_in x35.ID 0 1099511627776) fun x36 =>
      bno (gd ((!x36) == false) (gix a0.Pairs v23) default) fun x37 =>
      bno (gd ((!x36) == false) (sennitref15_in x37.Value 0 1099511627776) default) fun x38 =>
      bnd ((!x36) || (!x38)) fun x39 =>
      bif x39 then (
        some false
      ) else (
        bnd (IntKind.wrap .i64 (v23 + 1)) fun x41 =>
        (sennitref15_ranges_L3 a0 v3 v6 v7 v13 n3) x41
      )
    ) else (
      bno (sennitref15_in a0.Stream 0 1048576) fun x42 =>
      bno (gd (x42 == true) (sennitref15_in a0.Offset 0 1099511627776) default) fun x43 =>
      bnd (x42 && x43) fun x44 =>
      bno (gd (x44 == true) (sennitref15_in a0.Dep 0 1048576) default) fun x45 =>
      bnd (x44 && x45) fun x46 =>
      bnd (x46 && v13) fun x47 =>
      bno (gd (x47 == true) (sennitref15_in a0.N v3 v6) default) fun x48 =>
      bnd (x47 && x48) fun x49 =>
      bno (gd (x49 == true) (sennitref15_in a0.Code 0 v7) default) fun x50 =>
      bnd (x49 && x50) fun x51 =>
      some x51
    )
def sennitref15_ranges_J2 (a0 : T_frame_Frame) (v3 : Int) (v6 : Int) (v7 : Int) (v13 : Bool) : Option Bool :=
  sennitref15_ranges_L3 a0 v3 v6 v7 v13 fuel 0
def sennitref15_ranges_J1 (a0 : T_frame_Frame) (v3 : Int) (v6 : Int) (v7 : Int) : Option Bool :=
  bno (sennitref15_in a0.Weight 1 256) fun x8 =>
  bnd (!decide (a0.Kind = 1)) fun x52 =>
  bnd (!decide (a0.Kind = 2)) fun x53 =>
  bnd (x52 && x53) fun x54 =>
  bif x54 then (
    sennitref15_ranges_J2 a0 v3 v6 v7 true
  ) else (
    sennitref15_ranges_J2 a0 v3 v6 v7 x8
  )
def sennitref15_ranges_J0 (a0 : T_frame_Frame) (v3 : Int) : Option Bool :=
  bnd (decide (a0.Kind = 10)) fun x56 =>
  bif x56 then (
    sennitref15_ranges_J1 a0 v3 3 1
  ) else (
    sennitref15_ranges_J1 a0 v3 1099511627776 255
  )
def sennitref15_ranges (a0 : T_frame_Frame) : Option Bool :=
  bnd (decide (a0.Kind = 8)) fun x58 =>
  bif x58 then (
    sennitref15_ranges_J0 a0 1
  ) else (
    sennitref15_ranges_J0 a0 0
  )

def sennitref15_has_L0 (a0 : (List UInt8)) (a1 : Int) : Nat → Int → Option Bool
  | 0, _ => none
  | n0 + 1, v7 =>
    bnd (decide (v7 < (a0.length : Int))) fun x14 =>
    bif x14 then (
      bno (gix a0 v7) fun x16 =>
      bnd (decide ((x16.toNat : Int) = a1)) fun x17 =>
      bif x17 then (
        some true
      ) else (
        bnd (IntKind.wrap .i64 (v7 + 1)) fun x19 =>
        (sennitref15_has_L0 a0 a1 n0) x19
      )
    ) else (
      some false
    )
def sennitref15_has (a0 : (List UInt8)) (a1 : Int) : Option Bool :=
  sennitref15_has_L0 a0 a1 fuel 0

def sennitref15_value (a0 : T_frame_Frame) (a1 : Int) : Option Int :=
  bnd (decide (a1 = 115)) fun x1 =>
  bif x1 then (
    some a0.Stream
  ) else (
    bnd (decide (a1 = 111)) fun x3 =>
    bif x3 then (
      some a0.Offset
    ) else (
      bnd (decide (a1 = 100)) fun x5 =>
      bif x5 then (
        some a0.Dep
      ) else (
        bnd (decide (a1 = 119)) fun x7 =>
        bif x7 then (
          some a0.Weight
        ) else (
          bnd (decide (a1 = 110)) fun x9 =>
          bif x9 then (
            some a0.N
          ) else (
            some a0.Code
          )
        )
      )
    )
  )

def sennitref15_flagged (a0 : Int) : Option Bool :=
  bnd (decide (a0 ≤ 2)) fun x1 =>
  bnd (decide (a0 = 4)) fun x2 =>
  bnd (x1 || x2) fun x3 =>
  bnd (decide (a0 = 6)) fun x4 =>
  bnd (x3 || x4) fun x5 =>
  bnd (decide (a0 = 9)) fun x6 =>
  bnd (x5 || x6) fun x7 =>
  some x7

def sennitref15_spare_L0 (a0 : T_frame_Frame) : Nat → Int → Option Bool
  | 0, _ => none
  | n0 + 1, v12 =>
    bnd (decide (v12 < (([115, 111, 100, 119, 110, 99] : List UInt8).length : Int))) fun x24 =>
    bif x24 then (
      bno (sennitref15_fields a0.Kind) fun x26 =>
      bno (gix ([115, 111, 100, 119, 110, 99] : List UInt8) v12) fun x27 =>
      bno (sennitref15_has x26 (x27.toNat : Int)) fun x28 =>
      bno (gd ((!x28) == true) (gix ([115, 111, 100, 119, 110, 99] : List UInt8) v12) 0) fun x29 =>
      bno (gd ((!x28) == true) (sennitref15_value a0 (x29.toNat : Int)) default) fun x30 =>
      bnd (!decide (x30 = 0)) fun x31 =>
      bnd ((!x28) && x31) fun x32 =>
      bif x32 then (
        some true
      ) else (
        bnd (IntKind.wrap .i64 (v12 + 1)) fun x34 =>
        (sennitref15_spare_L0 a0 n0) x34
      )
    ) else (
      bnd (!decide (a0.Kind = 0)) fun x35 =>
      bnd (!decide (a0.Data = ([] : List UInt8))) fun x36 =>
      bnd (x35 && x36) fun x37 =>
      bnd (!decide (a0.Kind = 4)) fun x38 =>
      bnd (decide (0 < (a0.Pairs.length : Int))) fun x39 =>
      bnd (x38 && x39) fun x40 =>
      bnd (x37 || x40) fun x41 =>
      bno (gd ((x41 == false) && (a0.Flag == true)) (sennitref15_flagged a0.Kind) default) fun x42 =>
      bnd (decide (0 < (a0.Pairs.length : Int))) fun x43 =>
      bnd ((!x42) || x43) fun x44 =>
      bnd (a0.Flag && x44) fun x45 =>
      bnd (x41 || x45) fun x46 =>
      some x46
    )
def sennitref15_spare (a0 : T_frame_Frame) : Option Bool :=
  sennitref15_spare_L0 a0 fuel 0

def sennitref15_Check (a0 : T_frame_Frame) : Option Int :=
  bno (sennitref15_fields a0.Kind) fun x1 =>
  bnd (decide (x1 = ([45] : List UInt8))) fun x2 =>
  bif x2 then (
    some 12
  ) else (
    bno (sennitref15_ranges a0) fun x4 =>
    bif (!x4) then (
      some 8
    ) else (
      bnd (decide (32 < (a0.Data.length : Int))) fun x6 =>
      bnd (decide (4 < (a0.Pairs.length : Int))) fun x7 =>
      bnd (x6 || x7) fun x8 =>
      bif x8 then (
        some 5
      ) else (
        bno (sennitref15_spare a0) fun x10 =>
        bif x10 then (
          some 4
        ) else (
          some 0
        )
      )
    )
  )

def sennitref02_Size (a0 : Int) : Option Int :=
  bnd (decide (a0 < 0)) fun x1 =>
  bnd (decide (4611686018427387903 < a0)) fun x2 =>
  bnd (x1 || x2) fun x3 =>
  bif x3 then (
    some 0
  ) else (
    bnd (decide (a0 < 64)) fun x5 =>
    bif x5 then (
      some 1
    ) else (
      bnd (decide (a0 < 16384)) fun x7 =>
      bif x7 then (
        some 2
      ) else (
        bnd (decide (a0 < 1073741824)) fun x9 =>
        bif x9 then (
          some 4
        ) else (
          some 8
        )
      )
    )
  )

def sennitref02_mark (a0 : Int) : Option Int :=
  bnd (decide (a0 = 1)) fun x1 =>
  bif x1 then (
    some 0
  ) else (
    bnd (decide (a0 = 2)) fun x3 =>
    bif x3 then (
      some 64
    ) else (
      bnd (decide (a0 = 4)) fun x5 =>
      bif x5 then (
        some 128
      ) else (
        some 192
      )
    )
  )

def sennitref02_Put_L0 (x1 : Int) : Nat → Int → (List UInt8) → Int → Option ((List UInt8) × Int)
  | 0, _, _, _ => none
  | n0 + 1, v12, v13, v14 =>
    bnd (decide (v14 < x1)) fun x23 =>
    bif x23 then (
      bno (remI v12 256) fun x25 =>
      bnd (IntKind.wrap .u8 x25) fun x26 =>
      bno (toU8 x26) fun x27 =>
      bno (app 1 ([x27] : (List UInt8)) v13) fun x28 =>
      bno (quoI .i64 v12 256) fun x29 =>
      bnd (IntKind.wrap .i64 (v14 + 1)) fun x30 =>
      (sennitref02_Put_L0 x1 n0) x29 x28 x30
    ) else (
      bno (gix v13 0) fun x31 =>
      bno (v13[(0 : Int).toNat]?) fun x32 =>
      bno (sennitref02_mark x1) fun x33 =>
      bnd (IntKind.wrap .u8 x33) fun x34 =>
      bnd (IntKind.wrap .u8 ((x32.toNat : Int) + x34)) fun x35 =>
      bno (gix v13 0) fun x36 =>
      bno (v13[(0 : Int).toNat]?) fun x37 =>
      bno (toU8 x35) fun x38 =>
      bnd (v13.set ((0 : Int).toNat) x38) fun x39 =>
      some (x39, 0)
    )
def sennitref02_Put (a0 : Int) : Option ((List UInt8) × Int) :=
  bno (sennitref02_Size a0) fun x1 =>
  bnd (decide (x1 = 0)) fun x2 =>
  bif x2 then (
    some ([], 8)
  ) else (
    sennitref02_Put_L0 x1 fuel a0 ([] : (List UInt8)) 0
  )

def sennitref02_Join_L0 (a0 : (List Int)) : Nat → (List UInt8) → Int → Option ((List UInt8) × Int)
  | 0, _, _ => none
  | n0 + 1, v9, v10 =>
    bnd (decide (v10 < (a0.length : Int))) fun x19 =>
    bif x19 then (
      bno (gix a0 v10) fun x21 =>
      bno (sennitref02_Put x21) fun x22 =>
      bnd (!decide (x22.2 = 0)) fun x23 =>
      bif x23 then (
        some ([], x22.2)
      ) else (
        bno (app 1 v9 x22.1) fun x25 =>
        bnd (IntKind.wrap .i64 (v10 + 1)) fun x26 =>
        (sennitref02_Join_L0 a0 n0) x25 x26
      )
    ) else (
      some (v9, 0)
    )
def sennitref02_Join (a0 : (List Int)) : Option ((List UInt8) × Int) :=
  sennitref02_Join_L0 a0 fuel ([] : (List UInt8)) 0

def sennitref15_payload_L1 (a0 : T_frame_Frame) : Nat → (List Int) → Int → Option (List UInt8)
  | 0, _, _ => none
  | n1 + 1, v28, v29 =>
    bnd (decide (v29 < (a0.Pairs.length : Int))) fun x36 =>
    bif x36 then (
      bno (gix a0.Pairs v29) fun x38 =>
      bno (gix a0.Pairs v29) fun x39 =>
      bno (app 8 v28 ([x38.ID, x39.Value] : (List Int))) fun x40 =>
      bnd (IntKind.wrap .i64 (v29 + 1)) fun x41 =>
      (sennitref15_payload_L1 a0 n1) x40 x41
    ) else (
      bno (sennitref02_Join v28) fun x42 =>
      bno (cat x42.1 a0.Data) fun x43 =>
      some x43
    )
def sennitref15_payload_L0 (a0 : T_frame_Frame) (x1 : (List UInt8)) : Nat → (List Int) → Int → Option (List UInt8)
  | 0, _, _ => none
  | n0 + 1, v8, v9 =>
    bnd (decide (v9 < (x1.length : Int))) fun x16 =>
    bif x16 then (
      bno (gix x1 v9) fun x18 =>
      bno (sennitref15_value a0 (x18.toNat : Int)) fun x19 =>
      bno (app 8 v8 ([x19] : (List Int))) fun x20 =>
      bnd (IntKind.wrap .i64 (v9 + 1)) fun x21 =>
      (sennitref15_payload_L0 a0 x1 n0) x20 x21
    ) else (
      sennitref15_payload_L1 a0 fuel v8 0
    )
def sennitref15_payload (a0 : T_frame_Frame) : Option (List UInt8) :=
  bno (sennitref15_fields a0.Kind) fun x1 =>
  sennitref15_payload_L0 a0 x1 fuel ([] : (List Int)) 0

def sennitref15_Put_J0 (a0 : T_frame_Frame) (v5 : Int) : Option ((List UInt8) × Int) :=
  bno (sennitref15_payload a0) fun x6 =>
  bno (sennitref02_Put (x6.length : Int)) fun x7 =>
  bno (toU8 a0.Kind) fun x8 =>
  bno (toU8 v5) fun x9 =>
  bno (cat ([x8, x9] : (List UInt8)) x7.1) fun x10 =>
  bno (cat x10 x6) fun x11 =>
  some (x11, 0)
def sennitref15_Put (a0 : T_frame_Frame) : Option ((List UInt8) × Int) :=
  bno (sennitref15_Check a0) fun x1 =>
  bnd (!decide (x1 = 0)) fun x2 =>
  bif x2 then (
    some ([], x1)
  ) else (
    bif a0.Flag then (
      sennitref15_Put_J0 a0 1
    ) else (
      sennitref15_Put_J0 a0 0
    )
  )

def sennitref15_Size (a0 : T_frame_Frame) : Option Int :=
  bno (sennitref15_Put a0) fun x1 =>
  some (x1.1.length : Int)

def sennitref15_Same_L0 (a0 : T_frame_Frame) (a1 : T_frame_Frame) : Nat → Int → Option Bool
  | 0, _ => none
  | n0 + 1, v10 =>
    bnd (decide (v10 < (a0.Pairs.length : Int))) fun x18 =>
    bif x18 then (
      bno (gix a0.Pairs v10) fun x20 =>
      bno (gix a1.Pairs v10) fun x21 =>
      bnd ((decide (x20.ID = x21.ID) && (decide (x20.Value = x21.Value) && true))) fun x22 =>
      bif (!x22) then (
        some false
      ) else (
        bnd (IntKind.wrap .i64 (v10 + 1)) fun x24 =>
        (sennitref15_Same_L0 a0 a1 n0) x24
      )
    ) else (
      bnd (decide (a0.Kind = a1.Kind)) fun x25 =>
      bnd (a0.Flag == a1.Flag) fun x26 =>
      bnd (x25 && x26) fun x27 =>
      bnd (decide (a0.Stream = a1.Stream)) fun x28 =>
      bnd (x27 && x28) fun x29 =>
      bnd (decide (a0.Offset = a1.Offset)) fun x30 =>
      bnd (x29 && x30) fun x31 =>
      bnd (decide (a0.Dep = a1.Dep)) fun x32 =>
      bnd (x31 && x32) fun x33 =>
      bnd (decide (a0.Weight = a1.Weight)) fun x34 =>
      bnd (x33 && x34) fun x35 =>
      bnd (decide (a0.N = a1.N)) fun x36 =>
      bnd (x35 && x36) fun x37 =>
      bnd (decide (a0.Code = a1.Code)) fun x38 =>
      bnd (x37 && x38) fun x39 =>
      bnd (decide (a0.Data = a1.Data)) fun x40 =>
      bnd (x39 && x40) fun x41 =>
      some x41
    )
def sennitref15_Same (a0 : T_frame_Frame) (a1 : T_frame_Frame) : Option Bool :=
  bnd (!decide ((a0.Pairs.length : Int) = (a1.Pairs.length : Int))) fun x1 =>
  bif x1 then (
    some false
  ) else (
    sennitref15_Same_L0 a0 a1 fuel 0
  )

def sennitlaw15_FramePuts (a0 : T_frame_Frame) (a1 : T_frame_Frame) : Option Bool :=
  bno (sennitref15_Light a0) fun x1 =>
  bno (gd ((!x1) == false) (sennitref15_Light a1) default) fun x2 =>
  bnd ((!x1) || (!x2)) fun x3 =>
  bif x3 then (
    bno (sennitlaw15_awake) fun x5 =>
    some x5
  ) else (
    bno (frame_Put a0) fun x6 =>
    bno (sennitref15_Put a0) fun x7 =>
    bnd (decide (x6.1 = x7.1)) fun x8 =>
    bnd (decide (x6.2 = x7.2)) fun x9 =>
    bnd (x8 && x9) fun x10 =>
    bno (gd (x10 == true) (frame_Check a0) default) fun x11 =>
    bno (gd (x10 == true) (sennitref15_Check a0) default) fun x12 =>
    bnd (decide (x11 = x12)) fun x13 =>
    bnd (x10 && x13) fun x14 =>
    bno (gd (x14 == true) (frame_Size a0) default) fun x15 =>
    bno (gd (x14 == true) (sennitref15_Size a0) default) fun x16 =>
    bnd (decide (x15 = x16)) fun x17 =>
    bnd (x14 && x17) fun x18 =>
    bno (gd (x18 == true) (frame_Same a0 a1) default) fun x19 =>
    bno (gd (x18 == true) (sennitref15_Same a0 a1) default) fun x20 =>
    bnd (x19 == x20) fun x21 =>
    bnd (x18 && x21) fun x22 =>
    bno (gd (x22 == true) (sennitlaw15_awake) default) fun x23 =>
    bnd (x22 && x23) fun x24 =>
    some x24
  )

def sennitref02_long (a0 : Int) : Option Int :=
  bno (quoI .u8 a0 64) fun x1 =>
  bnd (decide (x1 = 0)) fun x2 =>
  bif x2 then (
    some 1
  ) else (
    bnd (decide (x1 = 1)) fun x4 =>
    bif x4 then (
      some 2
    ) else (
      bnd (decide (x1 = 2)) fun x6 =>
      bif x6 then (
        some 4
      ) else (
        some 8
      )
    )
  )

def sennitref02_Get_L0 (a0 : (List UInt8)) (x8 : Int) : Nat → Int → Int → Option (Int × Int × Int)
  | 0, _, _ => none
  | n0 + 1, v19, v20 =>
    bnd (decide (v20 < x8)) fun x28 =>
    bif x28 then (
      bnd (IntKind.wrap .i64 (256 * v19)) fun x30 =>
      bno (gix a0 v20) fun x31 =>
      bnd (IntKind.wrap .i64 (x31.toNat : Int)) fun x32 =>
      bnd (IntKind.wrap .i64 (x30 + x32)) fun x33 =>
      bnd (IntKind.wrap .i64 (v20 + 1)) fun x34 =>
      (sennitref02_Get_L0 a0 x8 n0) x33 x34
    ) else (
      bno (sennitref02_Size v19) fun x35 =>
      bnd (!decide (x35 = x8)) fun x36 =>
      bif x36 then (
        some (0, 0, 4)
      ) else (
        some (v19, x8, 0)
      )
    )
def sennitref02_Get (a0 : (List UInt8)) : Option (Int × Int × Int) :=
  bnd (decide (a0 = ([] : List UInt8))) fun x1 =>
  bno (gd (x1 == false) (gix a0 0) 0) fun x2 =>
  bno (gd (x1 == false) (sennitref02_long (x2.toNat : Int)) default) fun x3 =>
  bnd (decide ((a0.length : Int) < x3)) fun x4 =>
  bnd (x1 || x4) fun x5 =>
  bif x5 then (
    some (0, 0, 3)
  ) else (
    bno (gix a0 0) fun x7 =>
    bno (sennitref02_long (x7.toNat : Int)) fun x8 =>
    bno (gix a0 0) fun x9 =>
    bno (remI (x9.toNat : Int) 64) fun x10 =>
    bnd (IntKind.wrap .i64 x10) fun x11 =>
    sennitref02_Get_L0 a0 x8 fuel x11 1
  )

def sennitref15_set_n (a0 : Int) (a1 : Bool) (a2 : Int) (a3 : Int) (a4 : Int) (a5 : Int) (a6 : Int) (a7 : Int) (a8 : (List UInt8)) (a9 : Int) (a10 : Int) : Option (Int × Bool × Int × Int × Int × Int × Int × Int × (List UInt8)) :=
  bnd (decide (a9 = 115)) fun x1 =>
  bif x1 then (
    some (a0, a1, a10, a3, a4, a5, a6, a7, a8)
  ) else (
    bnd (decide (a9 = 111)) fun x3 =>
    bif x3 then (
      some (a0, a1, a2, a10, a4, a5, a6, a7, a8)
    ) else (
      bnd (decide (a9 = 100)) fun x5 =>
      bif x5 then (
        some (a0, a1, a2, a3, a10, a5, a6, a7, a8)
      ) else (
        bnd (decide (a9 = 119)) fun x7 =>
        bif x7 then (
          some (a0, a1, a2, a3, a4, a10, a6, a7, a8)
        ) else (
          bnd (decide (a9 = 110)) fun x9 =>
          bif x9 then (
            some (a0, a1, a2, a3, a4, a5, a10, a7, a8)
          ) else (
            some (a0, a1, a2, a3, a4, a5, a6, a10, a8)
          )
        )
      )
    )
  )

def sennitref02_All_L0 (a0 : (List UInt8)) : Nat → (List Int) → Int → Option ((List Int) × Int)
  | 0, _, _ => none
  | n0 + 1, v9, v10 =>
    bnd (decide (v10 < (a0.length : Int))) fun x19 =>
    bif x19 then (
      bno (cut a0 v10 (a0.length : Int)) fun x21 =>
      bno (sennitref02_Get x21) fun x22 =>
      bnd (!decide (x22.2.2 = 0)) fun x23 =>
      bif x23 then (
        some ([], x22.2.2)
      ) else (
        bno (app 8 v9 ([x22.1] : (List Int))) fun x25 =>
        bnd (IntKind.wrap .i64 (v10 + x22.2.1)) fun x26 =>
        (sennitref02_All_L0 a0 n0) x25 x26
      )
    ) else (
      some (v9, 0)
    )
def sennitref02_All (a0 : (List UInt8)) : Option ((List Int) × Int) :=
  sennitref02_All_L0 a0 fuel ([] : (List Int)) 0

def sennitref15_read_n_L1 (v13 : Int) (v14 : Bool) (v15 : Int) (v16 : Int) (v17 : Int) (v18 : Int) (v19 : Int) (v20 : Int) (v21 : (List UInt8)) (x44 : ((List Int) × Int)) : Nat → Int → (List T_api_Pair) → Option (T_frame_Frame × Bool)
  | 0, _, _ => none
  | n1 + 1, v58, v59 =>
    bnd (IntKind.wrap .i64 (v58 + 1)) fun x68 =>
    bnd (decide (x68 < (x44.1.length : Int))) fun x69 =>
    bif x69 then (
      bno (gix x44.1 v58) fun x71 =>
      bnd (IntKind.wrap .i64 (v58 + 1)) fun x72 =>
      bno (gix x44.1 x72) fun x73 =>
      bno (app 16 v59 (([(⟨x71, x73⟩ : T_api_Pair)] : (List T_api_Pair)))) fun x74 =>
      bnd (IntKind.wrap .i64 (v58 + 2)) fun x75 =>
      (sennitref15_read_n_L1 v13 v14 v15 v16 v17 v18 v19 v20 v21 x44 n1) x75 x74
    ) else (
      some ((⟨v13, v14, v15, v16, v17, v18, v19, v20, v59, v21⟩ : T_frame_Frame), true)
    )
def sennitref15_read_n_L0 (x1 : (List UInt8)) : Nat → (List UInt8) → Int → Int → Bool → Int → Int → Int → Int → Int → Int → (List UInt8) → Option (T_frame_Frame × Bool)
  | 0, _, _, _, _, _, _, _, _, _, _, _ => none
  | n0 + 1, v11, v12, v13, v14, v15, v16, v17, v18, v19, v20, v21 =>
    bnd (decide (v12 < (x1.length : Int))) fun x31 =>
    bif x31 then (
      bno (sennitref02_Get v11) fun x33 =>
      bnd (!decide (x33.2.2 = 0)) fun x34 =>
      bif x34 then (
        some ((⟨v13, v14, v15, v16, v17, v18, v19, v20, [], v21⟩ : T_frame_Frame), false)
      ) else (
        bno (gix x1 v12) fun x36 =>
        bno (sennitref15_set_n v13 v14 v15 v16 v17 v18 v19 v20 v21 (x36.toNat : Int) x33.1) fun x37 =>
        bno (cut v11 x33.2.1 (v11.length : Int)) fun x38 =>
        bnd (IntKind.wrap .i64 (v12 + 1)) fun x39 =>
        (sennitref15_read_n_L0 x1 n0) x38 x39 x37.1 x37.2.1 x37.2.2.1 x37.2.2.2.1 x37.2.2.2.2.1 x37.2.2.2.2.2.1 x37.2.2.2.2.2.2.1 x37.2.2.2.2.2.2.2.1 x37.2.2.2.2.2.2.2.2
      )
    ) else (
      bnd (decide (v13 = 0)) fun x40 =>
      bif x40 then (
        some ((⟨v13, v14, v15, v16, v17, v18, v19, v20, [], v11⟩ : T_frame_Frame), true)
      ) else (
        bnd (decide (v13 = 4)) fun x42 =>
        bif x42 then (
          bno (sennitref02_All v11) fun x44 =>
          bnd (!decide (x44.2 = 0)) fun x45 =>
          bno (gd (x45 == false) (remI (x44.1.length : Int) 2) 0) fun x46 =>
          bnd (!decide (x46 = 0)) fun x47 =>
          bnd (x45 || x47) fun x48 =>
          bif x48 then (
            some ((⟨v13, v14, v15, v16, v17, v18, v19, v20, [], v21⟩ : T_frame_Frame), false)
          ) else (
            sennitref15_read_n_L1 v13 v14 v15 v16 v17 v18 v19 v20 v21 x44 fuel 0 ([] : (List T_api_Pair))
          )
        ) else (
          bnd (decide (v11 = ([] : List UInt8))) fun x76 =>
          some ((⟨v13, v14, v15, v16, v17, v18, v19, v20, [], v21⟩ : T_frame_Frame), x76)
        )
      )
    )
def sennitref15_read_n (a0 : Int) (a1 : Bool) (a2 : Int) (a3 : Int) (a4 : Int) (a5 : Int) (a6 : Int) (a7 : Int) (a8 : (List UInt8)) (a9 : (List UInt8)) : Option (T_frame_Frame × Bool) :=
  bno (sennitref15_fields a0) fun x1 =>
  sennitref15_read_n_L0 x1 fuel a9 0 a0 a1 a2 a3 a4 a5 a6 a7 a8

def sennitref15_Get (a0 : (List UInt8)) : Option (T_frame_Frame × Int × Int) :=
  bnd (decide (a0 = ([] : List UInt8))) fun x1 =>
  bif x1 then (
    some ((⟨0, false, 0, 0, 0, 0, 0, 0, [], []⟩ : T_frame_Frame), 0, 3)
  ) else (
    bno (gix a0 0) fun x3 =>
    bno (sennitref15_fields (x3.toNat : Int)) fun x4 =>
    bnd (decide (x4 = ([45] : List UInt8))) fun x5 =>
    bif x5 then (
      some ((⟨0, false, 0, 0, 0, 0, 0, 0, [], []⟩ : T_frame_Frame), 0, 12)
    ) else (
      bnd (decide ((a0.length : Int) < 2)) fun x7 =>
      bif x7 then (
        some ((⟨0, false, 0, 0, 0, 0, 0, 0, [], []⟩ : T_frame_Frame), 0, 3)
      ) else (
        bno (gix a0 1) fun x9 =>
        bnd (decide (1 < (x9.toNat : Int))) fun x10 =>
        bif x10 then (
          some ((⟨0, false, 0, 0, 0, 0, 0, 0, [], []⟩ : T_frame_Frame), 0, 4)
        ) else (
          bno (cut a0 2 (a0.length : Int)) fun x12 =>
          bno (sennitref02_Get x12) fun x13 =>
          bnd (!decide (x13.2.2 = 0)) fun x14 =>
          bif x14 then (
            some ((⟨0, false, 0, 0, 0, 0, 0, 0, [], []⟩ : T_frame_Frame), 0, x13.2.2)
          ) else (
            bnd (decide (64 < x13.1)) fun x16 =>
            bif x16 then (
              some ((⟨0, false, 0, 0, 0, 0, 0, 0, [], []⟩ : T_frame_Frame), 0, 5)
            ) else (
              bnd (IntKind.wrap .i64 ((a0.length : Int) - 2)) fun x18 =>
              bnd (IntKind.wrap .i64 (x18 - x13.2.1)) fun x19 =>
              bnd (decide (x19 < x13.1)) fun x20 =>
              bif x20 then (
                some ((⟨0, false, 0, 0, 0, 0, 0, 0, [], []⟩ : T_frame_Frame), 0, 3)
              ) else (
                bno (gix a0 0) fun x22 =>
                bno (gix a0 1) fun x23 =>
                bnd (decide ((x23.toNat : Int) = 1)) fun x24 =>
                bnd (IntKind.wrap .i64 (2 + x13.2.1)) fun x25 =>
                bnd (IntKind.wrap .i64 (2 + x13.2.1)) fun x26 =>
                bnd (IntKind.wrap .i64 (x26 + x13.1)) fun x27 =>
                bno (cut a0 x25 x27) fun x28 =>
                bno (sennitref15_read_n (x22.toNat : Int) x24 0 0 0 0 0 0 [] x28) fun x29 =>
                bif (!x29.2) then (
                  some ((⟨0, false, 0, 0, 0, 0, 0, 0, [], []⟩ : T_frame_Frame), 0, 4)
                ) else (
                  bno (sennitref15_Check x29.1) fun x31 =>
                  bnd (!decide (x31 = 0)) fun x32 =>
                  bif x32 then (
                    bno (sennitref15_Check x29.1) fun x34 =>
                    some ((⟨0, false, 0, 0, 0, 0, 0, 0, [], []⟩ : T_frame_Frame), 0, x34)
                  ) else (
                    bnd (IntKind.wrap .i64 (2 + x13.2.1)) fun x35 =>
                    bnd (IntKind.wrap .i64 (x35 + x13.1)) fun x36 =>
                    some (x29.1, x36, 0)
                  )
                )
              )
            )
          )
        )
      )
    )
  )

def sennitlaw15_FrameGets (a0 : (List UInt8)) : Option Bool :=
  bnd (decide (120 < (a0.length : Int))) fun x1 =>
  bif x1 then (
    bno (sennitlaw15_awake) fun x3 =>
    some x3
  ) else (
    bno (frame_Get a0) fun x4 =>
    bno (sennitref15_Get a0) fun x5 =>
    bno (sennitref15_Same x4.1 x5.1) fun x6 =>
    bnd (decide (x4.2.1 = x5.2.1)) fun x7 =>
    bnd (x6 && x7) fun x8 =>
    bnd (decide (x4.2.2 = x5.2.2)) fun x9 =>
    bnd (x8 && x9) fun x10 =>
    bno (gd (x10 == true) (sennitlaw15_awake) default) fun x11 =>
    bnd (x10 && x11) fun x12 =>
    some x12
  )

def sennitlaw15_FrameBack (a0 : T_frame_Frame) (a1 : (List UInt8)) : Option Bool :=
  bno (sennitref15_Light a0) fun x1 =>
  bnd (decide (40 < (a1.length : Int))) fun x2 =>
  bnd ((!x1) || x2) fun x3 =>
  bif x3 then (
    bno (sennitlaw15_awake) fun x5 =>
    some x5
  ) else (
    bno (frame_Put a0) fun x6 =>
    bno (frame_Check a0) fun x7 =>
    bnd (!decide (x7 = 0)) fun x8 =>
    bif x8 then (
      bno (frame_Check a0) fun x10 =>
      bnd (decide (x6.2 = x10)) fun x11 =>
      bnd (decide (x6.1 = ([] : List UInt8))) fun x12 =>
      bnd (x11 && x12) fun x13 =>
      bno (gd (x13 == true) (frame_Size a0) default) fun x14 =>
      bnd (decide (x14 = 0)) fun x15 =>
      bnd (x13 && x15) fun x16 =>
      bno (gd (x16 == true) (sennitlaw15_awake) default) fun x17 =>
      bnd (x16 && x17) fun x18 =>
      some x18
    ) else (
      bno (cat x6.1 a1) fun x19 =>
      bno (frame_Get x19) fun x20 =>
      bnd (!decide (x6.2 = 0)) fun x21 =>
      bnd (decide (x6.1 = ([] : List UInt8))) fun x22 =>
      bnd (x21 || x22) fun x23 =>
      bif x23 then (
        some false
      ) else (
        bnd (IntKind.wrap .i64 ((x6.1.length : Int) - 1)) fun x25 =>
        bno (cut x6.1 0 x25) fun x26 =>
        bno (frame_Get x26) fun x27 =>
        bnd (decide (x20.2.2 = 0)) fun x28 =>
        bnd (decide (x20.2.1 = (x6.1.length : Int))) fun x29 =>
        bnd (x28 && x29) fun x30 =>
        bno (gd (x30 == true) (frame_Same a0 x20.1) default) fun x31 =>
        bnd (x30 && x31) fun x32 =>
        bnd (decide (x27.2.1 = 0)) fun x33 =>
        bnd (x32 && x33) fun x34 =>
        bnd (decide (x27.2.2 = 3)) fun x35 =>
        bnd (x34 && x35) fun x36 =>
        bno (gd (x36 == true) (frame_Size a0) default) fun x37 =>
        bnd (decide (x37 = (x6.1.length : Int))) fun x38 =>
        bnd (x36 && x38) fun x39 =>
        bnd (decide ((x6.1.length : Int) ≤ 68)) fun x40 =>
        bnd (x39 && x40) fun x41 =>
        bno (gd (x41 == true) (sennitlaw15_awake) default) fun x42 =>
        bnd (x41 && x42) fun x43 =>
        some x43
      )
    )
  )

def sennitlaw15_FrameAgain (a0 : (List UInt8)) : Option Bool :=
  bnd (decide (120 < (a0.length : Int))) fun x1 =>
  bif x1 then (
    bno (sennitlaw15_awake) fun x3 =>
    some x3
  ) else (
    bno (frame_Get a0) fun x4 =>
    bnd (!decide (x4.2.2 = 0)) fun x5 =>
    bif x5 then (
      bnd (decide (x4.2.1 = 0)) fun x7 =>
      bno (gd (x7 == true) (frame_Same x4.1 (⟨0, false, 0, 0, 0, 0, 0, 0, [], []⟩ : T_frame_Frame)) default) fun x8 =>
      bnd (x7 && x8) fun x9 =>
      bno (gd (x9 == true) (sennitlaw15_awake) default) fun x10 =>
      bnd (x9 && x10) fun x11 =>
      some x11
    ) else (
      bno (frame_Put x4.1) fun x12 =>
      bnd (decide (x12.2 = 0)) fun x13 =>
      bnd (decide (0 < x4.2.1)) fun x14 =>
      bnd (x13 && x14) fun x15 =>
      bnd (decide (x4.2.1 ≤ (a0.length : Int))) fun x16 =>
      bnd (x15 && x16) fun x17 =>
      bno (gd (x17 == true) (cut a0 0 x4.2.1) []) fun x18 =>
      bnd (decide (x12.1 = x18)) fun x19 =>
      bnd (x17 && x19) fun x20 =>
      bno (gd (x20 == true) (frame_Check x4.1) default) fun x21 =>
      bnd (decide (x21 = 0)) fun x22 =>
      bnd (x20 && x22) fun x23 =>
      bno (gd (x23 == true) (sennitlaw15_awake) default) fun x24 =>
      bnd (x23 && x24) fun x25 =>
      some x25
    )
  )

def sennitlaw15_FrameUnlike (a0 : T_frame_Frame) (a1 : T_frame_Frame) : Option Bool :=
  bno (sennitref15_Light a0) fun x1 =>
  bno (gd ((!x1) == false) (sennitref15_Light a1) default) fun x2 =>
  bnd ((!x1) || (!x2)) fun x3 =>
  bif x3 then (
    bno (sennitlaw15_awake) fun x5 =>
    some x5
  ) else (
    bno (frame_Put a0) fun x6 =>
    bno (frame_Put a1) fun x7 =>
    bnd (!decide (x6.2 = 0)) fun x8 =>
    bnd (!decide (x7.2 = 0)) fun x9 =>
    bnd (x8 || x9) fun x10 =>
    bif x10 then (
      bno (frame_Check a0) fun x12 =>
      bnd (decide (x12 = x6.2)) fun x13 =>
      bno (gd (x13 == true) (frame_Check a1) default) fun x14 =>
      bnd (decide (x14 = x7.2)) fun x15 =>
      bnd (x13 && x15) fun x16 =>
      bno (gd (x16 == true) (sennitlaw15_awake) default) fun x17 =>
      bnd (x16 && x17) fun x18 =>
      some x18
    ) else (
      bnd (decide ((x6.1.length : Int) ≤ (x7.1.length : Int))) fun x19 =>
      bno (gd (x19 == true) (cut x7.1 0 (x6.1.length : Int)) []) fun x20 =>
      bnd (decide (x20 = x6.1)) fun x21 =>
      bnd (x19 && x21) fun x22 =>
      bnd (decide (x6.1 = x7.1)) fun x23 =>
      bno (frame_Same a0 a1) fun x24 =>
      bnd (x23 == x24) fun x25 =>
      bno (gd (x25 == true) (frame_Same a0 a1) default) fun x26 =>
      bnd (x22 == x26) fun x27 =>
      bnd (x25 && x27) fun x28 =>
      bno (gd (x28 == true) (frame_Size a0) default) fun x29 =>
      bnd (decide (x29 = (x6.1.length : Int))) fun x30 =>
      bnd (x28 && x30) fun x31 =>
      bno (gd (x31 == true) (sennitlaw15_awake) default) fun x32 =>
      bnd (x31 && x32) fun x33 =>
      some x33
    )
  )
end Go.Fn
