/-
  A part of the proof: rules and plain facts. No condition.
-/
import Derived.Test.YtlmdafogcphbbaaIlRg
import Derived.Test.YtlmdafogcphbbaaIlA15D
set_option linter.all false
set_option linter.unusedSimpArgs false
set_option linter.unusedVariables false
open Go Go.IL
namespace Go.Fn
structure T_deframe_State where
  Buf : (List UInt8)
  Bad : Int
  Seen : Int
  deriving DecidableEq, Inhabited
def E_deframe_State : Enc T_deframe_State := ⟨⟨fun x => .agg [.str x.Buf, .int .i64 x.Bad, .int .i64 x.Seen], 3, by decide, fun _ => ⟨rfl, rfl⟩⟩, fun _ => rfl⟩


def deframe_Check (a0 : T_deframe_State) : Option Int :=
  bnd (!decide (a0.Bad = 0)) fun x1 =>
  bnd (!decide (a0.Buf = ([] : List UInt8))) fun x2 =>
  bnd (x1 && x2) fun x3 =>
  bif x3 then (
    some 4
  ) else (
    bno (frame_Get a0.Buf) fun x5 =>
    bnd (!decide (x5.2.2 = 3)) fun x6 =>
    bnd (decide (80 < (a0.Buf.length : Int))) fun x7 =>
    bnd (x6 || x7) fun x8 =>
    bif x8 then (
      some 5
    ) else (
      bnd (decide (a0.Seen < 0)) fun x10 =>
      bif x10 then (
        some 8
      ) else (
        some 0
      )
    )
  )

def deframe_Feed_J1 (v37 : (List UInt8)) (v38 : Int) (v39 : Int) (v40 : (List T_frame_Frame)) : Option (T_deframe_State × (List T_frame_Frame)) :=
  some ((⟨v37, v38, v39⟩ : T_deframe_State), v40)
def deframe_Feed_L2 (a0 : T_deframe_State) : Nat → (List UInt8) → Int → (List T_frame_Frame) → Option (T_deframe_State × (List T_frame_Frame))
  | 0, _, _, _ => none
  | n2 + 1, v50, v51, v52 =>
    bno (frame_Get v50) fun x62 =>
    bnd (decide (x62.2.2 = 0)) fun x63 =>
    bif x63 then (
      bno (cut v50 x62.2.1 (v50.length : Int)) fun x65 =>
      bnd (IntKind.wrap .i64 (v51 + 1)) fun x66 =>
      bno (app 96 v52 ([x62.1] : (List T_frame_Frame))) fun x67 =>
      bif (!true) then (
        deframe_Feed_J1 x65 a0.Bad x66 x67
      ) else (
        (deframe_Feed_L2 a0 n2) x65 x66 x67
      )
    ) else (
      bnd (decide (x62.2.2 = 3)) fun x69 =>
      bif x69 then (
        deframe_Feed_J1 v50 a0.Bad v51 v52
      ) else (
        deframe_Feed_J1 ([] : (List UInt8)) x62.2.2 v51 v52
      )
    )
def deframe_Feed (a0 : T_deframe_State) (a1 : (List UInt8)) : Option (T_deframe_State × (List T_frame_Frame)) :=
  bnd (!decide (a0.Bad = 0)) fun x1 =>
  bno (gd (x1 == false) (deframe_Check a0) default) fun x2 =>
  bnd (!decide (x2 = 0)) fun x3 =>
  bnd (x1 || x3) fun x4 =>
  bif x4 then (
    some (a0, [])
  ) else (
    bno (cat a0.Buf a1) fun x6 =>
    deframe_Feed_L2 a0 fuel x6 a0.Seen ([] : (List T_frame_Frame))
  )

def deframe_All (a0 : (List UInt8)) : Option ((List T_frame_Frame) × Int) :=
  bno (deframe_Feed (⟨[], 0, 0⟩ : T_deframe_State) a0) fun x1 =>
  bnd (!decide (x1.1.Bad = 0)) fun x2 =>
  bif x2 then (
    some ([], x1.1.Bad)
  ) else (
    bnd (!decide (x1.1.Buf = ([] : List UInt8))) fun x4 =>
    bif x4 then (
      some ([], 3)
    ) else (
      some (x1.2, 0)
    )
  )

def deframe_Need (a0 : T_deframe_State) : Option Int :=
  bnd (!decide (a0.Bad = 0)) fun x1 =>
  bno (gd (x1 == false) (deframe_Check a0) default) fun x2 =>
  bnd (!decide (x2 = 0)) fun x3 =>
  bnd (x1 || x3) fun x4 =>
  bif x4 then (
    some 0
  ) else (
    bnd (decide ((a0.Buf.length : Int) ≤ 2)) fun x6 =>
    bif x6 then (
      some 1
    ) else (
      bno (cut a0.Buf 2 (a0.Buf.length : Int)) fun x8 =>
      bno (varint_Get x8) fun x9 =>
      bnd (!decide (x9.2.2 = 0)) fun x10 =>
      bif x10 then (
        some 1
      ) else (
        bnd (IntKind.wrap .i64 (2 + x9.2.1)) fun x12 =>
        bnd (IntKind.wrap .i64 (x12 + x9.1)) fun x13 =>
        bnd (IntKind.wrap .i64 (x13 - (a0.Buf.length : Int))) fun x14 =>
        some x14
      )
    )
  )

def sennitlaw16_awake  : Option Bool :=
  bno (deframe_Feed (⟨[], 0, 0⟩ : T_deframe_State) [7, 0, 2, 3]) fun x1 =>
  bno (deframe_Feed x1.1 [8, 4, 1, 0, 6]) fun x2 =>
  bno (deframe_Feed x2.1 [2]) fun x3 =>
  bno (deframe_All [4, 1, 0, 4]) fun x4 =>
  bno (deframe_All [4, 1, 0, 4, 1, 0]) fun x5 =>
  bnd (decide ((x1.2.length : Int) = 0)) fun x6 =>
  bno (gd (x6 == true) (deframe_Need x1.1) default) fun x7 =>
  bnd (decide (x7 = 1)) fun x8 =>
  bnd (x6 && x8) fun x9 =>
  bnd (decide ((x2.2.length : Int) = 2)) fun x10 =>
  bnd (x9 && x10) fun x11 =>
  bno (gd (x11 == true) (gix x2.2 0) default) fun x12 =>
  bnd (decide (x12.Kind = 7)) fun x13 =>
  bnd (x11 && x13) fun x14 =>
  bno (gd (x14 == true) (gix x2.2 1) default) fun x15 =>
  bnd (decide (x15.Kind = 4)) fun x16 =>
  bnd (x14 && x16) fun x17 =>
  bnd (decide (x2.1.Buf = ([6] : List UInt8))) fun x18 =>
  bnd (x17 && x18) fun x19 =>
  bnd (decide (x2.1.Seen = 2)) fun x20 =>
  bnd (x19 && x20) fun x21 =>
  bnd (decide (x3.1.Bad = 4)) fun x22 =>
  bnd (x21 && x22) fun x23 =>
  bnd (decide (x3.1.Buf = ([] : List UInt8))) fun x24 =>
  bnd (x23 && x24) fun x25 =>
  bnd (decide ((x3.2.length : Int) = 0)) fun x26 =>
  bnd (x25 && x26) fun x27 =>
  bno (gd (x27 == true) (deframe_Need x3.1) default) fun x28 =>
  bnd (decide (x28 = 0)) fun x29 =>
  bnd (x27 && x29) fun x30 =>
  bnd (decide (x4.2 = 3)) fun x31 =>
  bnd (x30 && x31) fun x32 =>
  bnd (decide ((x5.1.length : Int) = 2)) fun x33 =>
  bnd (x32 && x33) fun x34 =>
  bnd (decide (x5.2 = 0)) fun x35 =>
  bnd (x34 && x35) fun x36 =>
  bno (gd (x36 == true) (deframe_Check x2.1) default) fun x37 =>
  bnd (decide (x37 = 0)) fun x38 =>
  bnd (x36 && x38) fun x39 =>
  bno (gd (x39 == true) (deframe_Check (⟨[], 0, (-1)⟩ : T_deframe_State)) default) fun x40 =>
  bnd (decide (x40 = 8)) fun x41 =>
  bnd (x39 && x41) fun x42 =>
  bnd (bif x42 then true else false) fun x43 =>
  bnd (bif x43 then true else false) fun x44 =>
  bnd (bif x44 then true else false) fun x45 =>
  some x45

def sennitlaw16_Frames_L0 (a0 : (List T_frame_Frame)) : Nat → (List T_frame_Frame) → Int → Option (List T_frame_Frame)
  | 0, _, _ => none
  | n0 + 1, v6, v7 =>
    bnd (decide (v7 < (a0.length : Int))) fun x13 =>
    bif x13 then (
      bno (gix a0 v7) fun x15 =>
      bno (app 96 v6 ([x15] : (List T_frame_Frame))) fun x16 =>
      bnd (IntKind.wrap .i64 (v7 + 1)) fun x17 =>
      (sennitlaw16_Frames_L0 a0 n0) x16 x17
    ) else (
      some v6
    )
def sennitlaw16_Frames (a0 : (List T_frame_Frame)) : Option (List T_frame_Frame) :=
  sennitlaw16_Frames_L0 a0 fuel ([] : (List T_frame_Frame)) 0

def sennitref15_SameAll_L0 (a0 : (List T_frame_Frame)) (a1 : (List T_frame_Frame)) : Nat → Int → Option Bool
  | 0, _ => none
  | n0 + 1, v10 =>
    bnd (decide (v10 < (a0.length : Int))) fun x18 =>
    bif x18 then (
      bno (gix a0 v10) fun x20 =>
      bno (gix a1 v10) fun x21 =>
      bno (sennitref15_Same x20 x21) fun x22 =>
      bif (!x22) then (
        some false
      ) else (
        bnd (IntKind.wrap .i64 (v10 + 1)) fun x24 =>
        (sennitref15_SameAll_L0 a0 a1 n0) x24
      )
    ) else (
      some true
    )
def sennitref15_SameAll (a0 : (List T_frame_Frame)) (a1 : (List T_frame_Frame)) : Option Bool :=
  bnd (!decide ((a0.length : Int) = (a1.length : Int))) fun x1 =>
  bif x1 then (
    some false
  ) else (
    sennitref15_SameAll_L0 a0 a1 fuel 0
  )

def sennitlaw16_DeframePieces_L0 (a0 : (List UInt8)) (x7 : (T_deframe_State × (List T_frame_Frame))) (x9 : (T_deframe_State × (List T_frame_Frame))) (x11 : (T_deframe_State × (List T_frame_Frame))) : Nat → (List T_frame_Frame) → Int → (List UInt8) → Int → Int → Option Bool
  | 0, _, _, _, _, _ => none
  | n0 + 1, v24, v25, v26, v27, v28 =>
    bnd (decide (v25 < (a0.length : Int))) fun x41 =>
    bif x41 then (
      bnd (IntKind.wrap .i64 (v25 + 1)) fun x43 =>
      bno (cut a0 v25 x43) fun x44 =>
      bno (deframe_Feed (⟨v26, v27, v28⟩ : T_deframe_State) x44) fun x45 =>
      bnd (decide (1 < (x45.2.length : Int))) fun x46 =>
      bno (gd (x46 == false) (deframe_Check x45.1) default) fun x47 =>
      bnd (!decide (x47 = 0)) fun x48 =>
      bnd (x46 || x48) fun x49 =>
      bif x49 then (
        some false
      ) else (
        bno (app 96 v24 x45.2) fun x51 =>
        bnd (IntKind.wrap .i64 (v25 + 1)) fun x52 =>
        (sennitlaw16_DeframePieces_L0 a0 x7 x9 x11 n0) x51 x52 x45.1.Buf x45.1.Bad x45.1.Seen
      )
    ) else (
      bno (app 96 ([] : (List T_frame_Frame)) x9.2) fun x53 =>
      bno (app 96 x53 x11.2) fun x54 =>
      bnd ((decide (x7.1.Buf = x11.1.Buf) && (decide (x7.1.Bad = x11.1.Bad) && (decide (x7.1.Seen = x11.1.Seen) && true)))) fun x55 =>
      bnd ((decide (x7.1.Buf = v26) && (decide (x7.1.Bad = v27) && (decide (x7.1.Seen = v28) && true)))) fun x56 =>
      bnd (x55 && x56) fun x57 =>
      bno (gd (x57 == true) (sennitlaw16_Frames x7.2) default) fun x58 =>
      bno (gd (x57 == true) (sennitlaw16_Frames x54) default) fun x59 =>
      bno (gd (x57 == true) (sennitref15_SameAll x58 x59) default) fun x60 =>
      bnd (x57 && x60) fun x61 =>
      bno (gd (x61 == true) (sennitlaw16_Frames x7.2) default) fun x62 =>
      bno (gd (x61 == true) (sennitlaw16_Frames v24) default) fun x63 =>
      bno (gd (x61 == true) (sennitref15_SameAll x62 x63) default) fun x64 =>
      bnd (x61 && x64) fun x65 =>
      bnd (decide (x7.1.Seen = (x7.2.length : Int))) fun x66 =>
      bnd (x65 && x66) fun x67 =>
      bno (gd (x67 == true) (sennitlaw16_awake) default) fun x68 =>
      bnd (x67 && x68) fun x69 =>
      some x69
    )
def sennitlaw16_DeframePieces (a0 : (List UInt8)) (a1 : Int) : Option Bool :=
  bnd (decide (200 < (a0.length : Int))) fun x1 =>
  bif x1 then (
    bno (sennitlaw16_awake) fun x3 =>
    some x3
  ) else (
    bnd (IntKind.wrap .i64 a1) fun x4 =>
    bnd (IntKind.wrap .i64 ((a0.length : Int) + 1)) fun x5 =>
    bno (remI x4 x5) fun x6 =>
    bno (deframe_Feed (⟨[], 0, 0⟩ : T_deframe_State) a0) fun x7 =>
    bno (cut a0 0 x6) fun x8 =>
    bno (deframe_Feed (⟨[], 0, 0⟩ : T_deframe_State) x8) fun x9 =>
    bno (cut a0 x6 (a0.length : Int)) fun x10 =>
    bno (deframe_Feed x9.1 x10) fun x11 =>
    sennitlaw16_DeframePieces_L0 a0 x7 x9 x11 fuel ([] : (List T_frame_Frame)) 0 ([] : (List UInt8)) 0 0
  )

def sennitlaw16_DeframeBad (a0 : (List UInt8)) (a1 : (List UInt8)) (a2 : Int) : Option Bool :=
  bnd (decide (100 < (a0.length : Int))) fun x1 =>
  bnd (decide (100 < (a1.length : Int))) fun x2 =>
  bnd (x1 || x2) fun x3 =>
  bif x3 then (
    bno (sennitlaw16_awake) fun x5 =>
    some x5
  ) else (
    bno (cat a0 ([5] : List UInt8)) fun x6 =>
    bno (cat x6 a1) fun x7 =>
    bno (deframe_Feed (⟨[], 0, 0⟩ : T_deframe_State) x7) fun x8 =>
    bnd (IntKind.wrap .i64 a2) fun x9 =>
    bnd (IntKind.wrap .i64 ((a0.length : Int) + 1)) fun x10 =>
    bno (remI x9 x10) fun x11 =>
    bno (cut a0 0 x11) fun x12 =>
    bno (deframe_Feed (⟨[], 0, 0⟩ : T_deframe_State) x12) fun x13 =>
    bno (cut a0 x11 (a0.length : Int)) fun x14 =>
    bno (cat x14 ([5] : List UInt8)) fun x15 =>
    bno (cat x15 a1) fun x16 =>
    bno (deframe_Feed x13.1 x16) fun x17 =>
    bnd ((decide (x8.1.Buf = x17.1.Buf) && (decide (x8.1.Bad = x17.1.Bad) && (decide (x8.1.Seen = x17.1.Seen) && true)))) fun x18 =>
    bnd (IntKind.wrap .i64 ((x13.2.length : Int) + (x17.2.length : Int))) fun x19 =>
    bnd (!decide ((x8.2.length : Int) = x19)) fun x20 =>
    bnd ((!x18) || x20) fun x21 =>
    bif x21 then (
      some false
    ) else (
      bno (deframe_Feed x8.1 a1) fun x23 =>
      bnd (!decide (x8.1.Bad = 0)) fun x24 =>
      bnd ((decide (x23.1.Buf = x8.1.Buf) && (decide (x23.1.Bad = x8.1.Bad) && (decide (x23.1.Seen = x8.1.Seen) && true)))) fun x25 =>
      bnd (!decide ((x23.2.length : Int) = 0)) fun x26 =>
      bnd ((!x25) || x26) fun x27 =>
      bno (gd ((x24 == true) && (x27 == false)) (deframe_Need x8.1) default) fun x28 =>
      bnd (!decide (x28 = 0)) fun x29 =>
      bnd (x27 || x29) fun x30 =>
      bnd (!decide (x8.1.Buf = ([] : List UInt8))) fun x31 =>
      bnd (x30 || x31) fun x32 =>
      bnd (!decide (x8.1.Seen = (x8.2.length : Int))) fun x33 =>
      bnd (x32 || x33) fun x34 =>
      bnd (x24 && x34) fun x35 =>
      bif x35 then (
        some false
      ) else (
        bno (deframe_All a0) fun x37 =>
        bnd (!decide (x37.2 = 0)) fun x38 =>
        bnd (decide (x8.1.Bad = 12)) fun x39 =>
        bnd (x38 || x39) fun x40 =>
        bno (gd (x40 == true) (sennitlaw16_awake) default) fun x41 =>
        bnd (x40 && x41) fun x42 =>
        some x42
      )
    )
  )

def sennitlaw16_DeframeBack_L1 (v19 : (List UInt8)) (v20 : (List T_frame_Frame)) (x52 : ((List T_frame_Frame) × Int)) : Nat → (List T_frame_Frame) → Int → (List UInt8) → Int → Int → Option Bool
  | 0, _, _, _, _, _ => none
  | n1 + 1, v66, v67, v68, v69, v70 =>
    bnd (decide (v67 < (v19.length : Int))) fun x84 =>
    bif x84 then (
      bno (deframe_Need (⟨v68, v69, v70⟩ : T_deframe_State)) fun x86 =>
      bnd (decide (x86 < 1)) fun x87 =>
      bnd (IntKind.wrap .i64 ((v19.length : Int) - v67)) fun x88 =>
      bnd (decide (x88 < x86)) fun x89 =>
      bnd (x87 || x89) fun x90 =>
      bif x90 then (
        some false
      ) else (
        bnd (IntKind.wrap .i64 (v67 + x86)) fun x92 =>
        bno (cut v19 v67 x92) fun x93 =>
        bno (deframe_Feed (⟨v68, v69, v70⟩ : T_deframe_State) x93) fun x94 =>
        bno (app 96 v66 x94.2) fun x95 =>
        bnd (IntKind.wrap .i64 (v67 + x86)) fun x96 =>
        (sennitlaw16_DeframeBack_L1 v19 v20 x52 n1) x95 x96 x94.1.Buf x94.1.Bad x94.1.Seen
      )
    ) else (
      bnd (decide (x52.2 = 0)) fun x97 =>
      bno (gd (x97 == true) (sennitlaw16_Frames x52.1) default) fun x98 =>
      bno (gd (x97 == true) (sennitref15_SameAll x98 v20) default) fun x99 =>
      bnd (x97 && x99) fun x100 =>
      bno (gd (x100 == true) (sennitlaw16_Frames v66) default) fun x101 =>
      bno (gd (x100 == true) (sennitref15_SameAll x101 v20) default) fun x102 =>
      bnd (x100 && x102) fun x103 =>
      bnd (decide (v68 = ([] : List UInt8))) fun x104 =>
      bnd (x103 && x104) fun x105 =>
      bno (gd (x105 == true) (sennitlaw16_awake) default) fun x106 =>
      bnd (x105 && x106) fun x107 =>
      some x107
    )
def sennitlaw16_DeframeBack_L0 (a0 : (List T_frame_Frame)) : Nat → (List UInt8) → (List T_frame_Frame) → Int → Option Bool
  | 0, _, _, _ => none
  | n0 + 1, v19, v20, v21 =>
    bnd (decide (v21 < (a0.length : Int))) fun x37 =>
    bif x37 then (
      bno (gix a0 v21) fun x39 =>
      bno (sennitref15_Light x39) fun x40 =>
      bif (!x40) then (
        bno (sennitlaw16_awake) fun x42 =>
        some x42
      ) else (
        bno (gix a0 v21) fun x43 =>
        bno (frame_Put x43) fun x44 =>
        bnd (decide (x44.2 = 0)) fun x45 =>
        bif x45 then (
          bno (cat v19 x44.1) fun x47 =>
          bno (gix a0 v21) fun x48 =>
          bno (app 96 v20 ([x48] : (List T_frame_Frame))) fun x49 =>
          bnd (IntKind.wrap .i64 (v21 + 1)) fun x50 =>
          (sennitlaw16_DeframeBack_L0 a0 n0) x47 x49 x50
        ) else (
          bnd (IntKind.wrap .i64 (v21 + 1)) fun x51 =>
          (sennitlaw16_DeframeBack_L0 a0 n0) v19 v20 x51
        )
      )
    ) else (
      bno (deframe_All v19) fun x52 =>
      sennitlaw16_DeframeBack_L1 v19 v20 x52 fuel ([] : (List T_frame_Frame)) 0 ([] : (List UInt8)) 0 0
    )
def sennitlaw16_DeframeBack (a0 : (List T_frame_Frame)) : Option Bool :=
  bnd (decide (12 < (a0.length : Int))) fun x1 =>
  bif x1 then (
    bno (sennitlaw16_awake) fun x3 =>
    some x3
  ) else (
    sennitlaw16_DeframeBack_L0 a0 fuel ([] : (List UInt8)) ([] : (List T_frame_Frame)) 0
  )
end Go.Fn
