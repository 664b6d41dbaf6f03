/-
  A part of the proof: rules and plain facts. No condition.
-/
import Derived.Test.YthjfhdlaockolaaIlSh
set_option linter.all false
open Go Go.IL
namespace Go.Fn
structure dI where
  Kind : Int
  ID : Int
  Dep : Int
  Weight : Int
  Only : Bool
  deriving DecidableEq,Inhabited
def nK : Enc dI:=⟨⟨fun x=>.agg [.int .u8 x.Kind,.int .i64 x.ID,.int .i64 x.Dep,.int .i64 x.Weight,.bool x.Only],5,by decide,fun _=>⟨rfl,rfl⟩⟩,fun _=>rfl⟩

structure aF where
  ID : Int
  Parent : Int
  Weight : Int
  Closed : Bool
  deriving DecidableEq,Inhabited
def aB : Enc aF:=⟨⟨fun x=>.agg [.int .i64 x.ID,.int .i64 x.Parent,.int .i64 x.Weight,.bool x.Closed],4,by decide,fun _=>⟨rfl,rfl⟩⟩,fun _=>rfl⟩

structure aK where
  Room : Int
  Keep : Int
  Nodes : (List aF)
  Ended : (List Int)
  deriving DecidableEq,Inhabited
def vY : Enc aK:=⟨⟨fun x=>.agg [.int .i64 x.Room,.int .i64 x.Keep,.slice false (x.Nodes.map aB.d),.slice false (x.Ended.map (eInt .i64).d)],4,by decide,fun _=>⟨rfl,rfl⟩⟩,fun _=>rfl⟩

def eJ (a0 : (List aF)) : Option (List aF) :=
  vW a0 (
    some ([] : (List aF))
  ) (
    bno (app 32 ([] : (List aF)) a0) fun x3 =>
    some x3
  )

def iH (a0 : (List Int)) : Option (List Int) :=
  vW a0 (
    some ([] : (List Int))
  ) (
    bno (app 8 ([] : (List Int)) a0) fun x3 =>
    some x3
  )

def kR (a0 : aK) : Option (Int × Int × (List aF) × (List Int)) :=
  bno (eJ a0.Nodes) fun x1 =>
  bno (iH a0.Ended) fun x2 =>
  some (a0.Room,a0.Keep,x1,x2)

def nA (a0 : aF) : Option Bool :=
  bnd (decide (a0.ID < 1)) fun x1 =>
  bnd (decide (1048576 < a0.ID)) fun x2 =>
  bnd (x1 || x2) fun x3 =>
  bnd (decide (a0.Weight < 1)) fun x4 =>
  bnd (x3 || x4) fun x5 =>
  bnd (decide (256 < a0.Weight)) fun x6 =>
  bnd (x5 || x6) fun x7 =>
  some x7

def cC (a0 : (List aF)) : Nat → Int → Option Int
  | 0,_=>none
  | n0 + 1, v7 =>
    bnd (decide (v7 < (a0.length : Int))) fun x14 =>
    bif x14 then (
      bno (gix a0 v7) fun x16 =>
      bno (nA x16) fun x17 =>
      bif x17 then (
        some v7
      ) else (
        bnd (IntKind.wrap .i64 (v7 + 1)) fun x19 =>
        (cC a0 n0) x19
      )
    ) else (
      some (-1)
    )
def dW (a0 : (List aF)) : Option Int :=
  cC a0 fuel 0

def cE (a0 : (List aF)) : Option Bool :=
  bno (dW a0) fun x1 =>
  bnd (decide (0 ≤ x1)) fun x2 =>
  some x2

def gW (a0 : aF) (a1 : Int) : Option Int :=
  bnd (IntKind.wrap .i64 (a0.ID - a1)) fun x1 =>
  some x1

def aZ (a0 : (List aF)) (a1 : Int) : Nat → Int → Int → Option (Int × Bool)
  | 0,_,_=>none
  | n0 + 1, v12, v13 =>
    bnd (decide (v12 < v13)) fun x25 =>
    bif x25 then (
      bnd (IntKind.wrap .i64 (v12 + v13)) fun x27 =>
      bnd (IntKind.wrap .u64 x27) fun x28 =>
      bno (shrI .u64 x28 1) fun x29 =>
      bnd (IntKind.wrap .i64 x29) fun x30 =>
      bno (gix a0 x30) fun x31 =>
      bno (gW x31 a1) fun x32 =>
      bnd (decide (x32 < 0)) fun x33 =>
      bif x33 then (
        bnd (IntKind.wrap .i64 (x30 + 1)) fun x35 =>
        (aZ a0 a1 n0) x35 v13
      ) else (
        (aZ a0 a1 n0) v12 x30
      )
    ) else (
      bnd (decide (v12 < (a0.length : Int))) fun x36 =>
      bno (gd (x36 == true) (gix a0 v12) default) fun x37 =>
      bno (gd (x36 == true) (gW x37 a1) default) fun x38 =>
      bnd (decide (x38 = 0)) fun x39 =>
      bnd (x36 && x39) fun x40 =>
      some (v12,x40)
    )
def cA (a0 : (List aF)) (a1 : Int) : Option (Int × Bool) :=
  aZ a0 a1 fuel 0 (a0.length : Int)

def dC (a0 : aK) (a1 : Int) : Option (Int × Bool) :=
  bno (cA a0.Nodes a1) fun x1 =>
  some (x1.1,x1.2)

def lJ (a0 : aK) (a1 : aF) : Option Bool :=
  bno (dC a0 a1.Parent) fun x1 =>
  bnd (!decide (a1.Parent = 0)) fun x2 =>
  bnd (x2 && (!x1.2)) fun x3 =>
  some x3

def cH (a0 : (List aF)) (a1 : aK) : Nat → Int → Option Int
  | 0,_=>none
  | n0 + 1, v7 =>
    bnd (decide (v7 < (a0.length : Int))) fun x14 =>
    bif x14 then (
      bno (gix a0 v7) fun x16 =>
      bno (lJ a1 x16) fun x17 =>
      bif x17 then (
        some v7
      ) else (
        bnd (IntKind.wrap .i64 (v7 + 1)) fun x19 =>
        (cH a0 a1 n0) x19
      )
    ) else (
      some (-1)
    )
def eD (a0 : (List aF)) (a1 : aK) : Option Int :=
  cH a0 a1 fuel 0

def bS (a0 : (List aF)) (a1 : aK) : Option Bool :=
  bno (eD a0 a1) fun x1 =>
  bnd (decide (0 ≤ x1)) fun x2 =>
  some x2

def fW (a0 : aK) : Nat → Int → (List Int) → Int → Option (List Int)
  | 0,_,_,_=>none
  | n0 + 1, v11, v12, v13 =>
    bnd (decide (v13 < (a0.Nodes.length : Int))) fun x24 =>
    bif x24 then (
      bno (dC a0 v11) fun x26 =>
      bno (gd ((!x26.2) == false) (gix a0.Nodes x26.1) default) fun x27 =>
      bnd (decide (x27.Parent = 0)) fun x28 =>
      bnd ((!x26.2) || x28) fun x29 =>
      bif x29 then (
        some v12
      ) else (
        bno (gix a0.Nodes x26.1) fun x31 =>
        bno (app 8 v12 ([x31.Parent] : (List Int))) fun x32 =>
        bnd (IntKind.wrap .i64 (v13 + 1)) fun x33 =>
        (fW a0 n0) x31.Parent x32 x33
      )
    ) else (
      some v12
    )
def iN (a0 : aK) (a1 : Int) : Option (List Int) :=
  fW a0 fuel a1 ([] : (List Int)) 0

def gE (a0 : (List Int)) (a1 : Int) : Nat → Int → Option Int
  | 0,_=>none
  | n0 + 1, v7 =>
    bnd (decide (v7 < (a0.length : Int))) fun x14 =>
    bif x14 then (
      bno (gix a0 v7) fun x16 =>
      bnd (decide (a1 = x16)) fun x17 =>
      bif x17 then (
        some v7
      ) else (
        bnd (IntKind.wrap .i64 (v7 + 1)) fun x19 =>
        (gE a0 a1 n0) x19
      )
    ) else (
      some (-1)
    )
def kC (a0 : (List Int)) (a1 : Int) : Option Int :=
  gE a0 a1 fuel 0

def eR (a0 : (List Int)) (a1 : Int) : Option Bool :=
  bno (kC a0 a1) fun x1 =>
  bnd (decide (0 ≤ x1)) fun x2 =>
  some x2

def kQ (a0 : aK) (a1 : aF) : Option Bool :=
  bno (iN a0 a1.ID) fun x1 =>
  bno (eR x1 a1.ID) fun x2 =>
  some x2

def cD (a0 : (List aF)) (a1 : aK) : Nat → Int → Option Int
  | 0,_=>none
  | n0 + 1, v7 =>
    bnd (decide (v7 < (a0.length : Int))) fun x14 =>
    bif x14 then (
      bno (gix a0 v7) fun x16 =>
      bno (kQ a1 x16) fun x17 =>
      bif x17 then (
        some v7
      ) else (
        bnd (IntKind.wrap .i64 (v7 + 1)) fun x19 =>
        (cD a0 a1 n0) x19
      )
    ) else (
      some (-1)
    )
def dX (a0 : (List aF)) (a1 : aK) : Option Int :=
  cD a0 a1 fuel 0

def bR (a0 : (List aF)) (a1 : aK) : Option Bool :=
  bno (dX a0 a1) fun x1 =>
  bnd (decide (0 ≤ x1)) fun x2 =>
  some x2

def iP (a0 : aK) (v14 : Int) (kk0 : Int → Int → Option Bool) (x29 : aF) (v32 : Int) : Option Bool :=
  bno (eR a0.Ended x29.ID) fun x33 =>
  bnd (!(x29.Closed == x33)) fun x34 =>
  bif x34 then (
    some false
  ) else (
    bnd (IntKind.wrap .i64 (v14 + 1)) fun x36 =>
    kk0 v32 x36
  )
def dT (a0 : aK) : Nat → Int → Int → Option Bool
  | 0,_,_=>none
  | n0 + 1, v13, v14 =>
    bnd (decide (v14 < (a0.Nodes.length : Int))) fun x27 =>
    bif x27 then (
      bno (gix a0.Nodes v14) fun x29 =>
      bif x29.Closed then (
        bnd (IntKind.wrap .i64 (v13 + 1)) fun x38 =>
        iP a0 v14 (dT a0 n0) x29 x38
      ) else (
        iP a0 v14 (dT a0 n0) x29 v13
      )
    ) else (
      bnd (decide (v13 = (a0.Ended.length : Int))) fun x39 =>
      some x39
    )
def jO (a0 : aK) : Option Bool :=
  dT a0 fuel 0 0

def iS (a0 : aK) : Nat → Int → Option Int
  | 0,_=>none
  | n0 + 1, v23 =>
    bnd (decide (v23 < (a0.Nodes.length : Int))) fun x32 =>
    bif x32 then (
      bnd (IntKind.wrap .i64 (v23 - 1)) fun x34 =>
      bno (gix a0.Nodes x34) fun x35 =>
      bno (gix a0.Nodes v23) fun x36 =>
      bnd (decide (x36.ID ≤ x35.ID)) fun x37 =>
      bif x37 then (
        some 10
      ) else (
        bnd (IntKind.wrap .i64 (v23 + 1)) fun x39 =>
        (iS a0 n0) x39
      )
    ) else (
      bno (bS a0.Nodes a0) fun x40 =>
      bif x40 then (
        some 6
      ) else (
        bno (bR a0.Nodes a0) fun x42 =>
        bif x42 then (
          some 4
        ) else (
          bno (jO a0) fun x44 =>
          bif (!x44) then (
            some 9
          ) else (
            some 0
          )
        )
      )
    )
def kJ (a0 : aK) : Option Int :=
  bnd (decide (a0.Room < 1)) fun x1 =>
  bnd (decide (24 < a0.Room)) fun x2 =>
  bnd (x1 || x2) fun x3 =>
  bnd (decide (a0.Keep < 0)) fun x4 =>
  bnd (x3 || x4) fun x5 =>
  bnd (decide (a0.Room < a0.Keep)) fun x6 =>
  bnd (x5 || x6) fun x7 =>
  bno (gd (x7 == false) (cE a0.Nodes) default) fun x8 =>
  bnd (x7 || x8) fun x9 =>
  bif x9 then (
    some 8
  ) else (
    bnd (decide (a0.Room < (a0.Nodes.length : Int))) fun x11 =>
    bnd (decide (a0.Keep < (a0.Ended.length : Int))) fun x12 =>
    bnd (x11 || x12) fun x13 =>
    bif x13 then (
      some 7
    ) else (
      iS a0 fuel 1
    )
  )

def eV (a0 : Int) (a1 : Int) (a3 : (List aF)) (a4 : (List Int)) : Nat → Int → (List Int) → Int → Option (List Int)
  | 0,_,_,_=>none
  | n0 + 1, v13, v14, v15 =>
    bnd (decide (v15 < (a3.length : Int))) fun x28 =>
    bif x28 then (
      bno (dC (⟨a0,a1,a3,a4⟩ : aK) v13) fun x30 =>
      bno (gd ((!x30.2) == false) (gix a3 x30.1) default) fun x31 =>
      bno (gd ((!x30.2) == false) (a3[(x30.1 : Int).toNat]?) default) fun x32 =>
      bnd (decide (x32.Parent = 0)) fun x33 =>
      bnd ((!x30.2) || x33) fun x34 =>
      bif x34 then (
        some v14
      ) else (
        bno (gix a3 x30.1) fun x36 =>
        bno (a3[(x30.1 : Int).toNat]?) fun x37 =>
        bno (app 8 v14 ([x37.Parent] : (List Int))) fun x38 =>
        bnd (IntKind.wrap .i64 (v15 + 1)) fun x39 =>
        (eV a0 a1 a3 a4 n0) x37.Parent x38 x39
      )
    ) else (
      some v14
    )
def kE (a0 : Int) (a1 : Int) (a2 : Int) (a3 : (List aF)) (a4 : (List Int)) : Option (List Int) :=
  eV a0 a1 a3 a4 fuel a2 ([] : (List Int)) 0

def fF (a0 : Int) (a1 : Int) (a2 : dI) (a4 : (List Int)) (v6 : Int) (v7 : Int) (v8 : Bool) (x9 : (Int × Bool)) (v21 : (List aF)) : Nat → Int → (List aF) → Option (Int × Int × (List aF) × (List Int))
  | 0,_,_=>none
  | n2 + 1, v36, v37 =>
    bnd (decide (v36 < (v21.length : Int))) fun x52 =>
    bif x52 then (
      bno (gix v37 v36) fun x54 =>
      bno (gd (v8 == true) (v37[(v36 : Int).toNat]?) default) fun x55 =>
      bnd (decide (x55.Parent = v6)) fun x56 =>
      bnd (v8 && x56) fun x57 =>
      bno (gd (x57 == true) (v37[(v36 : Int).toNat]?) default) fun x58 =>
      bnd (!decide (x58.ID = a2.ID)) fun x59 =>
      bnd (x57 && x59) fun x60 =>
      bif x60 then (
        bno (v37[(v36 : Int).toNat]?) fun x62 =>
        bnd (v37.set ((v36 : Int).toNat) (⟨x62.ID,a2.ID,x62.Weight,x62.Closed⟩ : aF)) fun x63 =>
        bnd (IntKind.wrap .i64 (v36 + 1)) fun x64 =>
        (fF a0 a1 a2 a4 v6 v7 v8 x9 v21 n2) x64 x63
      ) else (
        bnd (IntKind.wrap .i64 (v36 + 1)) fun x65 =>
        (fF a0 a1 a2 a4 v6 v7 v8 x9 v21 n2) x65 v37
      )
    ) else (
      bno (gix v37 x9.1) fun x66 =>
      bno (v37[(x9.1 : Int).toNat]?) fun x67 =>
      bnd (v37.set ((x9.1 : Int).toNat) (⟨x67.ID,v6,x67.Weight,x67.Closed⟩ : aF)) fun x68 =>
      bno (gix x68 x9.1) fun x69 =>
      bno (x68[(x9.1 : Int).toNat]?) fun x70 =>
      bnd (x68.set ((x9.1 : Int).toNat) (⟨x70.ID,x70.Parent,v7,x70.Closed⟩ : aF)) fun x71 =>
      some (a0,a1,x71,a4)
    )
def gJ (a0 : Int) (a1 : Int) (a2 : dI) (a4 : (List Int)) (v6 : Int) (v7 : Int) (v8 : Bool) (x9 : (Int × Bool)) (v21 : (List aF)) : Option (Int × Int × (List aF) × (List Int)) :=
  fF a0 a1 a2 a4 v6 v7 v8 x9 v21 fuel 0 v21
def gK (a0 : Int) (a1 : Int) (a2 : dI) (a3 : (List aF)) (a4 : (List Int)) (x1 : (Int × Bool)) (v5 : Int) (v6 : Int) (v7 : Int) (v8 : Bool) : Option (Int × Int × (List aF) × (List Int)) :=
  bno (dC (⟨a0,a1,a3,a4⟩ : aK) a2.ID) fun x9 =>
  bif x1.2 then (
    bno (kE a0 a1 v6 a3 a4) fun x73 =>
    bno (eR x73 a2.ID) fun x74 =>
    bnd (bif x1.2 then x74 else false) fun x75 =>
    bif x75 then (
      bno (gix a3 x9.1) fun x77 =>
      bno (a3[(x9.1 : Int).toNat]?) fun x78 =>
      bno (gix a3 x1.1) fun x79 =>
      bno (a3[(x1.1 : Int).toNat]?) fun x80 =>
      bnd (a3.set ((x1.1 : Int).toNat) (⟨x80.ID,x78.Parent,x80.Weight,x80.Closed⟩ : aF)) fun x81 =>
      gJ a0 a1 a2 a4 v6 v7 v8 x9 x81
    ) else (
      gJ a0 a1 a2 a4 v6 v7 v8 x9 a3
    )
  ) else (
    bnd (x1.2 && false) fun x82 =>
    gJ a0 a1 a2 a4 v6 v7 v8 x9 a3
  )
def iO (a0 : Int) (a1 : Int) (a2 : dI) (a3 : (List aF)) (a4 : (List Int)) : Option (Int × Int × (List aF) × (List Int)) :=
  bno (dC (⟨a0,a1,a3,a4⟩ : aK) a2.Dep) fun x1 =>
  bnd (!decide (a2.Dep = 0)) fun x83 =>
  bnd ((!x1.2) && x83) fun x84 =>
  bif x84 then (
    gK a0 a1 a2 a3 a4 x1 0 0 16 false
  ) else (
    gK a0 a1 a2 a3 a4 x1 a2.Kind a2.Dep a2.Weight a2.Only
  )

def fD (a0 : Int) (a1 : Int) (a2 : (List aF)) : Option (List aF):=delS a2 a0 a1

def gH (a0 : aK) (a1 : Int) : Nat → Int → Int → Option Int
  | 0,_,_=>none
  | n0 + 1, v9, v10 =>
    bnd (decide (v10 < (a0.Nodes.length : Int))) fun x19 =>
    bif x19 then (
      bno (gix a0.Nodes v10) fun x21 =>
      bnd (decide (x21.Parent = a1)) fun x22 =>
      bif x22 then (
        bnd (IntKind.wrap .i64 (v9 + x21.Weight)) fun x24 =>
        bnd (IntKind.wrap .i64 (v10 + 1)) fun x25 =>
        (gH a0 a1 n0) x24 x25
      ) else (
        bnd (IntKind.wrap .i64 (v10 + 1)) fun x26 =>
        (gH a0 a1 n0) v9 x26
      )
    ) else (
      some v9
    )
def lS (a0 : aK) (a1 : Int) : Option Int :=
  gH a0 a1 fuel 0 0

def kS (a0 : Int) (a1 : Int) : Option Bool :=
  bnd (decide (a0 = a1)) fun x1 =>
  some x1

def dR (a0 : (List Int)) (a1 : Int) : Nat → Int → Option Int
  | 0,_=>none
  | n0 + 1, v7 =>
    bnd (decide (v7 < (a0.length : Int))) fun x14 =>
    bif x14 then (
      bno (gix a0 v7) fun x16 =>
      bno (kS x16 a1) fun x17 =>
      bif x17 then (
        some v7
      ) else (
        bnd (IntKind.wrap .i64 (v7 + 1)) fun x19 =>
        (dR a0 a1 n0) x19
      )
    ) else (
      some (-1)
    )
def iT (a0 : (List Int)) (a1 : Int) : Option Int :=
  dR a0 a1 fuel 0

def cR (a1 : Int) : Nat → (List Int) → Int → Int → Option (List Int)
  | 0,_,_,_=>none
  | n0 + 1, v17, v18, v19 =>
    bnd (decide (v19 < (v17.length : Int))) fun x32 =>
    bif x32 then (
      bno (gix v17 v19) fun x34 =>
      bno (v17[(v19 : Int).toNat]?) fun x35 =>
      bno (kS x35 a1) fun x36 =>
      bif (!x36) then (
        bno (gix v17 v18) fun x38 =>
        bno (v17[(v18 : Int).toNat]?) fun x39 =>
        bnd (v17.set ((v18 : Int).toNat) x35) fun x40 =>
        bnd (IntKind.wrap .i64 (v18 + 1)) fun x41 =>
        bnd (IntKind.wrap .i64 (v19 + 1)) fun x42 =>
        (cR a1 n0) x40 x41 x42
      ) else (
        bnd (IntKind.wrap .i64 (v19 + 1)) fun x43 =>
        (cR a1 n0) v17 v18 x43
      )
    ) else (
      bno (cut v17 0 v18) fun x44 =>
      bno (cut x44 0 v18) fun x45 =>
      some x45
    )
def eQ (a0 : (List Int)) (a1 : Int) : Option (List Int) :=
  bno (iT a0 a1) fun x1 =>
  bnd (decide (x1 = (-1))) fun x2 =>
  bif x2 then (
    some a0
  ) else (
    bnd (IntKind.wrap .i64 (x1 + 1)) fun x4 =>
    cR a1 fuel a0 x1 x4
  )

def fQ (a0 : Int) (a1 : Int) (a2 : Int) (a4 : (List Int)) (x3 : aF) (x5 : (List aF)) (x6 : Int) : Nat → Int → (List aF) → Option (Int × Int × (List aF) × (List Int))
  | 0,_,_=>none
  | n0 + 1, v23, v24 =>
    bnd (decide (v23 < (x5.length : Int))) fun x41 =>
    bif x41 then (
      bno (gix v24 v23) fun x43 =>
      bno (v24[(v23 : Int).toNat]?) fun x44 =>
      bnd (decide (x44.Parent = a2)) fun x45 =>
      bif x45 then (
        bno (v24[(v23 : Int).toNat]?) fun x47 =>
        bnd (IntKind.wrap .i64 (x3.Weight * x47.Weight)) fun x48 =>
        bno (quoI .i64 x48 x6) fun x49 =>
        bnd (max x49 1) fun x50 =>
        bno (v24[(v23 : Int).toNat]?) fun x51 =>
        bnd (v24.set ((v23 : Int).toNat) (⟨x51.ID,x3.Parent,x51.Weight,x51.Closed⟩ : aF)) fun x52 =>
        bno (x52[(v23 : Int).toNat]?) fun x53 =>
        bnd (x52.set ((v23 : Int).toNat) (⟨x53.ID,x53.Parent,x50,x53.Closed⟩ : aF)) fun x54 =>
        bnd (IntKind.wrap .i64 (v23 + 1)) fun x55 =>
        (fQ a0 a1 a2 a4 x3 x5 x6 n0) x55 x54
      ) else (
        bnd (IntKind.wrap .i64 (v23 + 1)) fun x56 =>
        (fQ a0 a1 a2 a4 x3 x5 x6 n0) x56 v24
      )
    ) else (
      bno (eQ a4 a2) fun x57 =>
      some (a0,a1,v24,x57)
    )
def fR (a0 : Int) (a1 : Int) (a2 : Int) (a3 : (List aF)) (a4 : (List Int)) : Option (Int × Int × (List aF) × (List Int)) :=
  bno (dC (⟨a0,a1,a3,a4⟩ : aK) a2) fun x1 =>
  bno (gix a3 x1.1) fun x2 =>
  bno (a3[(x1.1 : Int).toNat]?) fun x3 =>
  bnd (IntKind.wrap .i64 (x1.1 + 1)) fun x4 =>
  bno (fD x1.1 x4 a3) fun x5 =>
  bno (lS (⟨a0,a1,x5,a4⟩ : aK) a2) fun x6 =>
  fQ a0 a1 a2 a4 x3 x5 x6 fuel 0 x5

def fC (a0 : Int) (a1 : (List aF)) (a2 : (List aF)) : Option (List aF):=insS 32 a2 a0 a1

def fO (a2 : dI) (v22 : Int) (v23 : Int) (v24 : (List aF)) (v25 : (List Int)) : Option (Int × Int × (List aF) × (List Int) × Int) :=
  bno (dC (⟨v22,v23,v24,v25⟩ : aK) a2.ID) fun x26 =>
  bno (fC x26.1 ([(⟨a2.ID,a2.ID,16,false⟩ : aF)] : (List aF)) v24) fun x27 =>
  bno (iO v22 v23 a2 x27 v25) fun x28 =>
  some (x28.1,x28.2.1,x28.2.2.1,x28.2.2.2,0)
def dH (a0 : Int) (a1 : Int) (a2 : dI) (a3 : (List aF)) (a4 : (List Int)) (v6 : Bool) : Option (Int × Int × (List aF) × (List Int) × Int) :=
  bif v6 then (
    some (a0,a1,a3,a4,8)
  ) else (
    bnd (decide (a2.ID = a2.Dep)) fun x8 =>
    bif x8 then (
      some (a0,a1,a3,a4,4)
    ) else (
      bno (dC (⟨a0,a1,a3,a4⟩ : aK) a2.ID) fun x10 =>
      bif x10.2 then (
        bnd (decide (a2.Kind = 0)) fun x12 =>
        bif x12 then (
          some (a0,a1,a3,a4,13)
        ) else (
          bno (iO a0 a1 a2 a3 a4) fun x14 =>
          some (x14.1,x14.2.1,x14.2.2.1,x14.2.2.2,0)
        )
      ) else (
        bnd (decide (a0 ≤ (a3.length : Int))) fun x29 =>
        bif x29 then (
          bnd (decide ((a4.length : Int) = 0)) fun x31 =>
          bif x31 then (
            some (a0,a1,a3,a4,7)
          ) else (
            bno (gix a4 0) fun x33 =>
            bno (a4[(0 : Int).toNat]?) fun x34 =>
            bno (fR a0 a1 x34 a3 a4) fun x35 =>
            fO a2 x35.1 x35.2.1 x35.2.2.1 x35.2.2.2
          )
        ) else (
          fO a2 a0 a1 a3 a4
        )
      )
    )
  )
def gP (a0 : Int) (a1 : Int) (a2 : dI) (a3 : (List aF)) (a4 : (List Int)) : Option (Int × Int × (List aF) × (List Int) × Int) :=
  bno (nA (⟨a2.ID,0,a2.Weight,false⟩ : aF)) fun x36 =>
  bif x36 then (
    dH a0 a1 a2 a3 a4 x36
  ) else (
    bnd (decide (a2.Dep < 0)) fun x38 =>
    bif x38 then (
      dH a0 a1 a2 a3 a4 x38
    ) else (
      bnd (decide (1048576 < a2.Dep)) fun x40 =>
      dH a0 a1 a2 a3 a4 x40
    )
  )

def iM (a0 : Int) (a1 : Int) (a2 : Int) (a3 : (List aF)) (a4 : (List Int)) : Option (Int × Int × (List aF) × (List Int) × Int) :=
  bno (dC (⟨a0,a1,a3,a4⟩ : aK) a2) fun x1 =>
  bif (!x1.2) then (
    some (a0,a1,a3,a4,6)
  ) else (
    bno (gix a3 x1.1) fun x3 =>
    bno (a3[(x1.1 : Int).toNat]?) fun x4 =>
    bif x4.Closed then (
      some (a0,a1,a3,a4,9)
    ) else (
      bno (gix a3 x1.1) fun x6 =>
      bno (a3[(x1.1 : Int).toNat]?) fun x7 =>
      bnd (a3.set ((x1.1 : Int).toNat) (⟨x7.ID,x7.Parent,x7.Weight,true⟩ : aF)) fun x8 =>
      bno (app 8 a4 ([a2] : (List Int))) fun x9 =>
      bnd (decide (a1 < (x9.length : Int))) fun x10 =>
      bif x10 then (
        bno (gix x9 0) fun x12 =>
        bno (x9[(0 : Int).toNat]?) fun x13 =>
        bno (fR a0 a1 x13 x8 x9) fun x14 =>
        some (x14.1,x14.2.1,x14.2.2.1,x14.2.2.2,0)
      ) else (
        some (a0,a1,x8,x9,0)
      )
    )
  )

def lO (a1 : dI) (x1 : (Int × Int × (List aF) × (List Int))) (v8 : Bool) : Option (aK × Int) :=
  bif v8 then (
    bno (gP x1.1 x1.2.1 a1 x1.2.2.1 x1.2.2.2) fun x10 =>
    some ((⟨x10.1,x10.2.1,x10.2.2.1,x10.2.2.2.1⟩ : aK),x10.2.2.2.2)
  ) else (
    bnd (decide (a1.Kind = 2)) fun x11 =>
    bif x11 then (
      bno (iM x1.1 x1.2.1 a1.ID x1.2.2.1 x1.2.2.2) fun x13 =>
      some ((⟨x13.1,x13.2.1,x13.2.2.1,x13.2.2.2.1⟩ : aK),x13.2.2.2.2)
    ) else (
      bnd (decide (a1.Kind = 3)) fun x14 =>
      bif x14 then (
        bno (dC (⟨x1.1,x1.2.1,x1.2.2.1,x1.2.2.2⟩ : aK) a1.ID) fun x16 =>
        bif (!x16.2) then (
          some ((⟨x1.1,x1.2.1,x1.2.2.1,x1.2.2.2⟩ : aK),6)
        ) else (
          bno (fR x1.1 x1.2.1 a1.ID x1.2.2.1 x1.2.2.2) fun x18 =>
          some ((⟨x18.1,x18.2.1,x18.2.2.1,x18.2.2.2⟩ : aK),0)
        )
      ) else (
        some ((⟨x1.1,x1.2.1,x1.2.2.1,x1.2.2.2⟩ : aK),12)
      )
    )
  )
def pZ (a0 : aK) (a1 : dI) : Option (aK × Int) :=
  bno (kR a0) fun x1 =>
  bno (kJ a0) fun x2 =>
  bnd (!decide (x2 = 0)) fun x3 =>
  bif x3 then (
    some ((⟨x1.1,x1.2.1,x1.2.2.1,x1.2.2.2⟩ : aK),x2)
  ) else (
    bnd (decide (a1.Kind = 0)) fun x19 =>
    bif x19 then (
      lO a1 x1 x19
    ) else (
      bnd (decide (a1.Kind = 1)) fun x21 =>
      lO a1 x1 x21
    )
  )

def nJ (a1 : (List dI)) : Nat → (List Int) → Int → Int → Int → (List aF) → (List Int) → Option (aK × (List Int))
  | 0,_,_,_,_,_,_=>none
  | n0 + 1, v7, v8, v9, v10, v11, v12 =>
    bnd (decide (v8 < (a1.length : Int))) fun x19 =>
    bif x19 then (
      bno (gix a1 v8) fun x21 =>
      bno (pZ (⟨v9,v10,v11,v12⟩ : aK) x21) fun x22 =>
      bno (app 8 v7 ([x22.2] : (List Int))) fun x23 =>
      bnd (IntKind.wrap .i64 (v8 + 1)) fun x24 =>
      (nJ a1 n0) x23 x24 x22.1.Room x22.1.Keep x22.1.Nodes x22.1.Ended
    ) else (
      some ((⟨v9,v10,v11,v12⟩ : aK),v7)
    )
def uO (a0 : aK) (a1 : (List dI)) : Option (aK × (List Int)) :=
  nJ a1 fuel ([] : (List Int)) 0 a0.Room a0.Keep a0.Nodes a0.Ended

def iZ (a0 : aK) (a1 : Int) : Option Bool :=
  bno (dC a0 a1) fun x1 =>
  bno (gd (x1.2 == true) (kJ a0) default) fun x2 =>
  bnd (decide (x2 = 0)) fun x3 =>
  bnd (x1.2 && x3) fun x4 =>
  some x4

def pL (a0 : aK) (a1 : Int) : Option Int :=
  bno (iZ a0 a1) fun x1 =>
  bif (!x1) then (
    some 0
  ) else (
    bno (iN a0 a1) fun x3 =>
    bnd (IntKind.wrap .i64 ((x3.length : Int) + 1)) fun x4 =>
    some x4
  )

def mS (x6 : (List Int)) (x8 : (List Int)) : Nat → Int → Option Int
  | 0,_=>none
  | n0 + 1, v16 =>
    bnd (decide (v16 < (x8.length : Int))) fun x24 =>
    bif x24 then (
      bno (gix x8 v16) fun x26 =>
      bno (x8[(v16 : Int).toNat]?) fun x27 =>
      bno (eR x6 x27) fun x28 =>
      bif x28 then (
        some x27
      ) else (
        bnd (IntKind.wrap .i64 (v16 + 1)) fun x30 =>
        (mS x6 x8 n0) x30
      )
    ) else (
      some 0
    )
def qS (a0 : aK) (a1 : Int) (a2 : Int) : Option Int :=
  bno (iZ a0 a1) fun x1 =>
  bno (gd ((!x1) == false) (iZ a0 a2) default) fun x2 =>
  bnd ((!x1) || (!x2)) fun x3 =>
  bif x3 then (
    some 0
  ) else (
    bno (iN a0 a2) fun x5 =>
    bno (app 8 x5 ([a2] : (List Int))) fun x6 =>
    bno (iN a0 a1) fun x7 =>
    bno (app 8 ([a1] : (List Int)) x7) fun x8 =>
    mS x6 x8 fuel 0
  )

def iD (rec0 : Int → aK → (List Int) → Option (List Int)) (a0 : Int) (a1 : aK) : Nat → Int → (List Int) → Option (List Int)
  | 0,_,_=>none
  | n0 + 1, v10, v11 =>
    bnd (decide (v10 < (a1.Nodes.length : Int))) fun x21 =>
    bif x21 then (
      bno (gix a1.Nodes v10) fun x23 =>
      bnd (decide (x23.Parent = a0)) fun x24 =>
      bif x24 then (
        bno (app 8 v11 ([x23.ID] : (List Int))) fun x26 =>
        bno (rec0 x23.ID a1 x26) fun x27 =>
        bnd (IntKind.wrap .i64 (v10 + 1)) fun x28 =>
        (iD rec0 a0 a1 n0) x28 x27
      ) else (
        bnd (IntKind.wrap .i64 (v10 + 1)) fun x29 =>
        (iD rec0 a0 a1 n0) x29 v11
      )
    ) else (
      some v11
    )
def lW (rec0 : Int → aK → (List Int) → Option (List Int)) (a0 : Int) (a1 : aK) (a2 : (List Int)) : Option (List Int) :=
  iD rec0 a0 a1 fuel 0 a2
def kK : Nat → Int → aK → (List Int) → Option (List Int)
  | 0,_,_,_=>none
  | nr + 1,a0,a1,a2=>lW (kK nr) a0 a1 a2

def jI (a0 : Int) (a1 : aK) : Nat → Int → (List Int) → Option (List Int)
  | 0,_,_=>none
  | n0 + 1, v10, v11 =>
    bnd (decide (v10 < (a1.Nodes.length : Int))) fun x21 =>
    bif x21 then (
      bno (gix a1.Nodes v10) fun x23 =>
      bnd (decide (x23.Parent = a0)) fun x24 =>
      bif x24 then (
        bno (app 8 v11 ([x23.ID] : (List Int))) fun x26 =>
        bno (kK fuel x23.ID a1 x26) fun x27 =>
        bnd (IntKind.wrap .i64 (v10 + 1)) fun x28 =>
        (jI a0 a1 n0) x28 x27
      ) else (
        bnd (IntKind.wrap .i64 (v10 + 1)) fun x29 =>
        (jI a0 a1 n0) x29 v11
      )
    ) else (
      some v11
    )
def nW (a0 : Int) (a1 : aK) : Option (List Int) :=
  jI a0 a1 fuel 0 ([] : (List Int))

def kZ (v16 : Int) (v17 : Int) : Option Int :=
  bnd (IntKind.wrap .u8 v16) fun x18 =>
  bno (gix ([0,1,2,2,3,3,3,3,4,4,4,4,4,4,4,4,5,5,5,5,5,5,5,5,5,5,5,5,5,5,5,5,6,6,6,6,6,6,6,6,6,6,6,6,6,6,6,6,6,6,6,6,6,6,6,6,6,6,6,6,6,6,6,6,7,7,7,7,7,7,7,7,7,7,7,7,7,7,7,7,7,7,7,7,7,7,7,7,7,7,7,7,7,7,7,7,7,7,7,7,7,7,7,7,7,7,7,7,7,7,7,7,7,7,7,7,7,7,7,7,7,7,7,7,7,7,7,7,8,8,8,8,8,8,8,8,8,8,8,8,8,8,8,8,8,8,8,8,8,8,8,8,8,8,8,8,8,8,8,8,8,8,8,8,8,8,8,8,8,8,8,8,8,8,8,8,8,8,8,8,8,8,8,8,8,8,8,8,8,8,8,8,8,8,8,8,8,8,8,8,8,8,8,8,8,8,8,8,8,8,8,8,8,8,8,8,8,8,8,8,8,8,8,8,8,8,8,8,8,8,8,8,8,8,8,8,8,8,8,8,8,8,8,8,8,8,8,8,8,8,8,8,8,8,8,8] : List UInt8) x18) fun x19 =>
  bnd (IntKind.wrap .i64 (x19.toNat : Int)) fun x20 =>
  bnd (IntKind.wrap .i64 (v17 + x20)) fun x21 =>
  some x21
def lA (v10 : Int) (v11 : Int) : Option Int :=
  bnd (decide (256 ≤ v10)) fun x22 =>
  bif x22 then (
    bno (shrI .u64 v10 8) fun x24 =>
    bnd (IntKind.wrap .i64 (v11 + 8)) fun x25 =>
    kZ x24 x25
  ) else (
    kZ v10 v11
  )
def lB (v4 : Int) (v5 : Int) : Option Int :=
  bnd (decide (65536 ≤ v4)) fun x26 =>
  bif x26 then (
    bno (shrI .u64 v4 16) fun x28 =>
    bnd (IntKind.wrap .i64 (v5 + 16)) fun x29 =>
    lA x28 x29
  ) else (
    lA v4 v5
  )
def nG (a0 : Int) : Option Int :=
  bnd (decide (4294967296 ≤ a0)) fun x30 =>
  bif x30 then (
    bno (shrI .u64 a0 32) fun x32 =>
    lB x32 32
  ) else (
    lB a0 0
  )

def mW (a0 : Int) : Option Int :=
  bno (nG a0) fun x1 =>
  some x1

def mZ (a0 : Int) : Option Bool :=
  bnd (!decide (a0 = a0)) fun x1 =>
  some x1

def fX (a0 : Int) (a1 : Int) : Option Bool :=
  bno (mZ a0) fun x1 =>
  bno (gd (x1 == true) (mZ a1) default) fun x2 =>
  bnd (x1 && (!x2)) fun x3 =>
  bnd (decide (a0 < a1)) fun x4 =>
  bnd (x3 || x4) fun x5 =>
  some x5

def eI (a0 : Int) (v74 : Int) (kk0 : (List Int) → Int → Option (List Int)) : Nat → (List Int) → Int → Option (List Int)
  | 0,_,_=>none
  | n1 + 1, v170, v171 =>
    bnd (decide (a0 < v171)) fun x194 =>
    bno (gd (x194 == true) (gix v170 v171) default) fun x195 =>
    bno (gd (x194 == true) (v170[(v171 : Int).toNat]?) default) fun x196 =>
    bnd (IntKind.wrap .i64 (v171 - 1)) fun x197 =>
    bno (gd (x194 == true) (gix v170 x197) default) fun x198 =>
    bno (gd (x194 == true) (v170[(x197 : Int).toNat]?) default) fun x199 =>
    bno (gd (x194 == true) (fX x196 x199) default) fun x200 =>
    bnd (x194 && x200) fun x201 =>
    bif x201 then (
      bnd (IntKind.wrap .i64 (v171 - 1)) fun x203 =>
      bnd (IntKind.wrap .i64 (v171 - 1)) fun x204 =>
      bno (gix v170 x204) fun x205 =>
      bno (v170[(x204 : Int).toNat]?) fun x206 =>
      bno (gix v170 v171) fun x207 =>
      bno (v170[(v171 : Int).toNat]?) fun x208 =>
      bno (gix v170 v171) fun x209 =>
      bno (v170[(v171 : Int).toNat]?) fun x210 =>
      bnd (v170.set ((v171 : Int).toNat) x206) fun x211 =>
      bno (gix x211 x203) fun x212 =>
      bno (x211[(x203 : Int).toNat]?) fun x213 =>
      bnd (x211.set ((x203 : Int).toNat) x208) fun x214 =>
      bnd (IntKind.wrap .i64 (v171 - 1)) fun x215 =>
      (eI a0 v74 kk0 n1) x214 x215
    ) else (
      bnd (IntKind.wrap .i64 (v74 + 1)) fun x216 =>
      kk0 v170 x216
    )
def dL (a0 : Int) (a1 : Int) : Nat → (List Int) → Int → Option (List Int)
  | 0,_,_=>none
  | n0 + 1, v73, v74 =>
    bnd (decide (v74 < a1)) fun x146 =>
    bif x146 then (
      eI a0 v74 (dL a0 a1 n0) fuel v73 v74
    ) else (
      some v73
    )
def gZ (a0 : Int) (a1 : Int) (a2 : (List Int)) : Option (List Int) :=
  bnd (IntKind.wrap .i64 (a0 + 1)) fun x1 =>
  dL a0 a1 fuel a2 x1

def gD (a2 : Int) (v54 : (List Int)) (v55 : Int) (kk0 : (List Int) → Int → Option (List Int)) (v126 : Int) : Option (List Int) :=
  bnd (IntKind.wrap .i64 (a2 + v55)) fun x127 =>
  bno (gix v54 x127) fun x128 =>
  bno (v54[(x127 : Int).toNat]?) fun x129 =>
  bnd (IntKind.wrap .i64 (a2 + v126)) fun x130 =>
  bno (gix v54 x130) fun x131 =>
  bno (v54[(x130 : Int).toNat]?) fun x132 =>
  bno (fX x129 x132) fun x133 =>
  bif (!x133) then (
    some v54
  ) else (
    bnd (IntKind.wrap .i64 (a2 + v55)) fun x135 =>
    bnd (IntKind.wrap .i64 (a2 + v126)) fun x136 =>
    bnd (IntKind.wrap .i64 (a2 + v126)) fun x137 =>
    bno (gix v54 x137) fun x138 =>
    bno (v54[(x137 : Int).toNat]?) fun x139 =>
    bnd (IntKind.wrap .i64 (a2 + v55)) fun x140 =>
    bno (gix v54 x140) fun x141 =>
    bno (v54[(x140 : Int).toNat]?) fun x142 =>
    bno (gix v54 x135) fun x143 =>
    bno (v54[(x135 : Int).toNat]?) fun x144 =>
    bnd (v54.set ((x135 : Int).toNat) x139) fun x145 =>
    bno (gix x145 x136) fun x146 =>
    bno (x145[(x136 : Int).toNat]?) fun x147 =>
    bnd (x145.set ((x136 : Int).toNat) x142) fun x148 =>
    kk0 x148 v126
  )
def dM (a1 : Int) (a2 : Int) : Nat → (List Int) → Int → Option (List Int)
  | 0,_,_=>none
  | n0 + 1, v54, v55 =>
    bnd (IntKind.wrap .i64 (2 * v55)) fun x109 =>
    bnd (IntKind.wrap .i64 (x109 + 1)) fun x110 =>
    bnd (decide (a1 ≤ x110)) fun x111 =>
    bif x111 then (
      some v54
    ) else (
      bnd (IntKind.wrap .i64 (x110 + 1)) fun x149 =>
      bnd (decide (x149 < a1)) fun x150 =>
      bnd (IntKind.wrap .i64 (a2 + x110)) fun x151 =>
      bno (gd (x150 == true) (gix v54 x151) default) fun x152 =>
      bno (gd (x150 == true) (v54[(x151 : Int).toNat]?) default) fun x153 =>
      bnd (IntKind.wrap .i64 (a2 + x110)) fun x154 =>
      bnd (IntKind.wrap .i64 (x154 + 1)) fun x155 =>
      bno (gd (x150 == true) (gix v54 x155) default) fun x156 =>
      bno (gd (x150 == true) (v54[(x155 : Int).toNat]?) default) fun x157 =>
      bno (gd (x150 == true) (fX x153 x157) default) fun x158 =>
      bnd (x150 && x158) fun x159 =>
      bif x159 then (
        bnd (IntKind.wrap .i64 (x110 + 1)) fun x161 =>
        gD a2 v54 v55 (dM a1 a2 n0) x161
      ) else (
        gD a2 v54 v55 (dM a1 a2 n0) x110
      )
    )
def gX (a0 : Int) (a1 : Int) (a2 : Int) (a3 : (List Int)) : Option (List Int) :=
  dM a1 a2 fuel a3 a0

def fG (a0 : Int) : Nat → (List Int) → Int → Option (List Int)
  | 0,_,_=>none
  | n1 + 1, v39, v40 =>
    bnd (decide (0 ≤ v40)) fun x58 =>
    bif x58 then (
      bnd (IntKind.wrap .i64 (a0 + v40)) fun x60 =>
      bnd (IntKind.wrap .i64 (a0 + v40)) fun x61 =>
      bno (gix v39 x61) fun x62 =>
      bno (v39[(x61 : Int).toNat]?) fun x63 =>
      bno (gix v39 a0) fun x64 =>
      bno (v39[(a0 : Int).toNat]?) fun x65 =>
      bno (gix v39 a0) fun x66 =>
      bno (v39[(a0 : Int).toNat]?) fun x67 =>
      bnd (v39.set ((a0 : Int).toNat) x63) fun x68 =>
      bno (gix x68 x60) fun x69 =>
      bno (x68[(x60 : Int).toNat]?) fun x70 =>
      bnd (x68.set ((x60 : Int).toNat) x65) fun x71 =>
      bno (gX 0 v40 a0 x71) fun x72 =>
      chk (x72.length = v39.length) <|bnd (IntKind.wrap .i64 (v40 - 1)) fun x74 =>
      (fG a0 n1) x72 x74
    ) else (
      some v39
    )
def fH (a0 : Int) (x1 : Int) : Nat → (List Int) → Int → Option (List Int)
  | 0,_,_=>none
  | n0 + 1, v9, v10 =>
    bnd (decide (0 ≤ v10)) fun x16 =>
    bif x16 then (
      bno (gX v10 x1 a0 v9) fun x18 =>
      chk (x18.length = v9.length) <|bnd (IntKind.wrap .i64 (v10 - 1)) fun x20 =>
      (fH a0 x1 n0) x18 x20
    ) else (
      bnd (IntKind.wrap .i64 (x1 - 1)) fun x21 =>
      fG a0 fuel v9 x21
    )
def jB (a0 : Int) (a1 : Int) (a2 : (List Int)) : Option (List Int) :=
  bnd (IntKind.wrap .i64 (a1 - a0)) fun x1 =>
  bnd (IntKind.wrap .i64 (x1 - 1)) fun x2 =>
  bno (quoI .i64 x2 2) fun x3 =>
  fH a0 x1 fuel a2 x3

def lD (a0 : Int) : Option Int :=
  bnd (IntKind.wrap .u64 a0) fun x1 =>
  bno (mW x1) fun x2 =>
  bno (shlI .u64 1 x2) fun x3 =>
  some x3

def kU (a0 : Int) : Option (Int × Int) :=
  bno (shlI .u64 a0 13) fun x1 =>
  bnd (xorI .u64 a0 x1) fun x2 =>
  bno (shrI .u64 x2 7) fun x3 =>
  bnd (xorI .u64 x2 x3) fun x4 =>
  bno (shlI .u64 x4 17) fun x5 =>
  bnd (xorI .u64 x4 x5) fun x6 =>
  some (x6,x6)

def fK (a0 : Int) (v40 : (List Int)) (v41 : Int) (kk0 : (List Int) → Int → Int → Option (List Int)) (x79 : (Int × Int)) (v86 : Int) : Option (List Int) :=
  bnd (IntKind.wrap .i64 (a0 + v86)) fun x87 =>
  bnd (IntKind.wrap .i64 (a0 + v86)) fun x88 =>
  bno (gix v40 x88) fun x89 =>
  bno (v40[(x88 : Int).toNat]?) fun x90 =>
  bno (gix v40 v41) fun x91 =>
  bno (v40[(v41 : Int).toNat]?) fun x92 =>
  bno (gix v40 v41) fun x93 =>
  bno (v40[(v41 : Int).toNat]?) fun x94 =>
  bnd (v40.set ((v41 : Int).toNat) x90) fun x95 =>
  bno (gix x95 x87) fun x96 =>
  bno (x95[(x87 : Int).toNat]?) fun x97 =>
  bnd (x95.set ((x87 : Int).toNat) x92) fun x98 =>
  bnd (IntKind.wrap .i64 (v41 + 1)) fun x99 =>
  kk0 x98 x99 x79.2
def cQ (a0 : Int) (x1 : Int) (x5 : Int) : Nat → (List Int) → Int → Int → Option (List Int)
  | 0,_,_,_=>none
  | n0 + 1, v40, v41, v42 =>
    bno (quoI .i64 x1 4) fun x73 =>
    bnd (IntKind.wrap .i64 (x73 * 2)) fun x74 =>
    bnd (IntKind.wrap .i64 (a0 + x74)) fun x75 =>
    bnd (IntKind.wrap .i64 (x75 + 1)) fun x76 =>
    bnd (decide (v41 ≤ x76)) fun x77 =>
    bif x77 then (
      bno (kU v42) fun x79 =>
      bnd (IntKind.wrap .u64 (x5 - 1)) fun x80 =>
      bnd (andI .u64 x79.1 x80) fun x81 =>
      bnd (IntKind.wrap .i64 x81) fun x82 =>
      bnd (decide (x1 ≤ x82)) fun x100 =>
      bif x100 then (
        bnd (IntKind.wrap .i64 (x82 - x1)) fun x102 =>
        fK a0 v40 v41 (cQ a0 x1 x5 n0) x79 x102
      ) else (
        fK a0 v40 v41 (cQ a0 x1 x5 n0) x79 x82
      )
    ) else (
      some v40
    )
def hD (a0 : Int) (a1 : Int) (a2 : (List Int)) : Option (List Int) :=
  bnd (IntKind.wrap .i64 (a1 - a0)) fun x1 =>
  bnd (decide (8 ≤ x1)) fun x2 =>
  bif x2 then (
    bnd (IntKind.wrap .u64 x1) fun x4 =>
    bno (lD x1) fun x5 =>
    bno (quoI .i64 x1 4) fun x6 =>
    bnd (IntKind.wrap .i64 (x6 * 2)) fun x7 =>
    bnd (IntKind.wrap .i64 (a0 + x7)) fun x8 =>
    bnd (IntKind.wrap .i64 (x8 - 1)) fun x9 =>
    cQ a0 x1 x5 fuel a2 x9 x4
  ) else (
    some a2
  )

def gI (a0 : (List Int)) (a1 : Int) (a2 : Int) (a3 : Int) : Option (Int × Int × Int) :=
  bno (gix a0 a2) fun x1 =>
  bno (gix a0 a1) fun x2 =>
  bno (fX x1 x2) fun x3 =>
  bif x3 then (
    bnd (IntKind.wrap .i64 (a3 + 1)) fun x5 =>
    some (a2,a1,x5)
  ) else (
    some (a1,a2,a3)
  )

def iG (a0 : (List Int)) (a1 : Int) (a2 : Int) (a3 : Int) (a4 : Int) : Option (Int × Int) :=
  bno (gI a0 a1 a2 a4) fun x1 =>
  bno (gI a0 x1.2.1 a3 x1.2.2) fun x2 =>
  bno (gI a0 x1.1 x2.1 x2.2.2) fun x3 =>
  some (x3.2.1,x3.2.2)

def eO (a0 : (List Int)) (a1 : Int) (a2 : Int) : Option (Int × Int) :=
  bnd (IntKind.wrap .i64 (a1 - 1)) fun x1 =>
  bnd (IntKind.wrap .i64 (a1 + 1)) fun x2 =>
  bno (iG a0 x1 a1 x2 a2) fun x3 =>
  some (x3.1,x3.2)

def gA (v28 : Int) (v29 : Int) : Option (Int × Int) :=
  bnd (decide (v29 = 0)) fun x30 =>
  bif x30 then (
    some (v28,1)
  ) else (
    bnd (decide (v29 = 12)) fun x32 =>
    bif x32 then (
      some (v28,2)
    ) else (
      some (v28,0)
    )
  )
def fZ (a0 : (List Int)) (v41 : Int) (v42 : Int) (v43 : Int) (v44 : Int) : Option (Int × Int) :=
  bno (iG a0 v41 v42 v43 v44) fun x45 =>
  gA x45.1 x45.2
def iX (a0 : (List Int)) (a1 : Int) (a2 : Int) : Option (Int × Int) :=
  bnd (IntKind.wrap .i64 (a2 - a1)) fun x1 =>
  bno (quoI .i64 x1 4) fun x2 =>
  bnd (IntKind.wrap .i64 (x2 * 1)) fun x3 =>
  bnd (IntKind.wrap .i64 (a1 + x3)) fun x4 =>
  bno (quoI .i64 x1 4) fun x5 =>
  bnd (IntKind.wrap .i64 (x5 * 2)) fun x6 =>
  bnd (IntKind.wrap .i64 (a1 + x6)) fun x7 =>
  bno (quoI .i64 x1 4) fun x8 =>
  bnd (IntKind.wrap .i64 (x8 * 3)) fun x9 =>
  bnd (IntKind.wrap .i64 (a1 + x9)) fun x10 =>
  bnd (decide (8 ≤ x1)) fun x34 =>
  bif x34 then (
    bnd (decide (50 ≤ x1)) fun x46 =>
    bif x46 then (
      bno (eO a0 x4 0) fun x48 =>
      bno (eO a0 x7 x48.2) fun x49 =>
      bno (eO a0 x10 x49.2) fun x50 =>
      fZ a0 x48.1 x49.1 x50.1 x50.2
    ) else (
      fZ a0 x4 x7 x10 0
    )
  ) else (
    gA x7 0
  )

def eK  : Nat → (List Int) → Int → Int → Option (List Int)
  | 0,_,_,_=>none
  | n0 + 1, v16, v17, v18 =>
    bnd (decide (v17 < v18)) fun x33 =>
    bif x33 then (
      bno (gix v16 v18) fun x35 =>
      bno (v16[(v18 : Int).toNat]?) fun x36 =>
      bno (gix v16 v17) fun x37 =>
      bno (v16[(v17 : Int).toNat]?) fun x38 =>
      bno (gix v16 v17) fun x39 =>
      bno (v16[(v17 : Int).toNat]?) fun x40 =>
      bnd (v16.set ((v17 : Int).toNat) x36) fun x41 =>
      bno (gix x41 v18) fun x42 =>
      bno (x41[(v18 : Int).toNat]?) fun x43 =>
      bnd (x41.set ((v18 : Int).toNat) x38) fun x44 =>
      bnd (IntKind.wrap .i64 (v17 + 1)) fun x45 =>
      bnd (IntKind.wrap .i64 (v18 - 1)) fun x46 =>
      (eK n0) x44 x45 x46
    ) else (
      some v16
    )
def iF (a0 : Int) (a1 : Int) (a2 : (List Int)) : Option (List Int) :=
  bnd (IntKind.wrap .i64 (a1 - 1)) fun x1 =>
  eK fuel a2 a0 x1

def cY (a1 : Int) (v274 : Int) (kk0 : (List Int) → Int → Int → Option (Bool × (List Int))) (v557 : Int) : Nat → (List Int) → Int → Option (Bool × (List Int))
  | 0,_,_=>none
  | n4 + 1, v694, v695 =>
    bnd (decide (v695 < a1)) fun x718 =>
    bif x718 then (
      bno (gix v694 v695) fun x720 =>
      bno (v694[(v695 : Int).toNat]?) fun x721 =>
      bnd (IntKind.wrap .i64 (v695 - 1)) fun x722 =>
      bno (gix v694 x722) fun x723 =>
      bno (v694[(x722 : Int).toNat]?) fun x724 =>
      bno (fX x721 x724) fun x725 =>
      bif (!x725) then (
        bnd (IntKind.wrap .i64 (v274 + 1)) fun x727 =>
        kk0 v694 v557 x727
      ) else (
        bnd (IntKind.wrap .i64 (v695 - 1)) fun x728 =>
        bnd (IntKind.wrap .i64 (v695 - 1)) fun x729 =>
        bno (gix v694 x729) fun x730 =>
        bno (v694[(x729 : Int).toNat]?) fun x731 =>
        bno (gix v694 v695) fun x732 =>
        bno (v694[(v695 : Int).toNat]?) fun x733 =>
        bno (gix v694 v695) fun x734 =>
        bno (v694[(v695 : Int).toNat]?) fun x735 =>
        bnd (v694.set ((v695 : Int).toNat) x731) fun x736 =>
        bno (gix x736 x728) fun x737 =>
        bno (x736[(x728 : Int).toNat]?) fun x738 =>
        bnd (x736.set ((x728 : Int).toNat) x733) fun x739 =>
        bnd (IntKind.wrap .i64 (v695 + 1)) fun x740 =>
        (cY a1 v274 kk0 v557 n4) x739 x740
      )
    ) else (
      bnd (IntKind.wrap .i64 (v274 + 1)) fun x741 =>
      kk0 v694 v557 x741
    )
def dA (a1 : Int) (v274 : Int) (kk0 : (List Int) → Int → Int → Option (Bool × (List Int))) (v557 : Int) (v667 : (List Int)) : Option (Bool × (List Int)) :=
  bnd (IntKind.wrap .i64 (a1 - v557)) fun x668 =>
  bnd (decide (2 ≤ x668)) fun x669 =>
  bif x669 then (
    bnd (IntKind.wrap .i64 (v557 + 1)) fun x671 =>
    cY a1 v274 kk0 v557 fuel v667 x671
  ) else (
    bnd (IntKind.wrap .i64 (v274 + 1)) fun x742 =>
    kk0 v667 v557 x742
  )
def cX (a1 : Int) (v274 : Int) (kk0 : (List Int) → Int → Int → Option (Bool × (List Int))) (v557 : Int) : Nat → (List Int) → Int → Option (Bool × (List Int))
  | 0,_,_=>none
  | n5 + 1, v769, v770 =>
    bnd (decide (1 ≤ v770)) fun x793 =>
    bif x793 then (
      bno (gix v769 v770) fun x795 =>
      bno (v769[(v770 : Int).toNat]?) fun x796 =>
      bnd (IntKind.wrap .i64 (v770 - 1)) fun x797 =>
      bno (gix v769 x797) fun x798 =>
      bno (v769[(x797 : Int).toNat]?) fun x799 =>
      bno (fX x796 x799) fun x800 =>
      bif (!x800) then (
        dA a1 v274 kk0 v557 v769
      ) else (
        bnd (IntKind.wrap .i64 (v770 - 1)) fun x802 =>
        bnd (IntKind.wrap .i64 (v770 - 1)) fun x803 =>
        bno (gix v769 x803) fun x804 =>
        bno (v769[(x803 : Int).toNat]?) fun x805 =>
        bno (gix v769 v770) fun x806 =>
        bno (v769[(v770 : Int).toNat]?) fun x807 =>
        bno (gix v769 v770) fun x808 =>
        bno (v769[(v770 : Int).toNat]?) fun x809 =>
        bnd (v769.set ((v770 : Int).toNat) x805) fun x810 =>
        bno (gix x810 x802) fun x811 =>
        bno (x810[(x802 : Int).toNat]?) fun x812 =>
        bnd (x810.set ((x802 : Int).toNat) x807) fun x813 =>
        bnd (IntKind.wrap .i64 (v770 - 1)) fun x814 =>
        (cX a1 v274 kk0 v557 n5) x813 x814
      )
    ) else (
      dA a1 v274 kk0 v557 v769
    )
def cZ (a0 : Int) (a1 : Int) (v272 : (List Int)) (v274 : Int) (kk0 : (List Int) → Int → Int → Option (Bool × (List Int))) : Nat → Int → Option (Bool × (List Int))
  | 0,_=>none
  | n1 + 1, v557 =>
    bnd (decide (v557 < a1)) fun x568 =>
    bno (gd (x568 == true) (gix v272 v557) default) fun x569 =>
    bno (gd (x568 == true) (v272[(v557 : Int).toNat]?) default) fun x570 =>
    bnd (IntKind.wrap .i64 (v557 - 1)) fun x571 =>
    bno (gd (x568 == true) (gix v272 x571) default) fun x572 =>
    bno (gd (x568 == true) (v272[(x571 : Int).toNat]?) default) fun x573 =>
    bno (gd (x568 == true) (fX x570 x573) default) fun x574 =>
    bnd (x568 && (!x574)) fun x575 =>
    bif x575 then (
      bnd (IntKind.wrap .i64 (v557 + 1)) fun x577 =>
      (cZ a0 a1 v272 v274 kk0 n1) x577
    ) else (
      bnd (decide (v557 = a1)) fun x578 =>
      bif x578 then (
        some (true,v272)
      ) else (
        bnd (IntKind.wrap .i64 (a1 - a0)) fun x580 =>
        bnd (decide (x580 < 50)) fun x581 =>
        bif x581 then (
          some (false,v272)
        ) else (
          bnd (IntKind.wrap .i64 (v557 - 1)) fun x583 =>
          bnd (IntKind.wrap .i64 (v557 - 1)) fun x584 =>
          bno (gix v272 x584) fun x585 =>
          bno (v272[(x584 : Int).toNat]?) fun x586 =>
          bno (gix v272 v557) fun x587 =>
          bno (v272[(v557 : Int).toNat]?) fun x588 =>
          bno (gix v272 v557) fun x589 =>
          bno (v272[(v557 : Int).toNat]?) fun x590 =>
          bnd (v272.set ((v557 : Int).toNat) x586) fun x591 =>
          bno (gix x591 x583) fun x592 =>
          bno (x591[(x583 : Int).toNat]?) fun x593 =>
          bnd (x591.set ((x583 : Int).toNat) x588) fun x594 =>
          bnd (IntKind.wrap .i64 (v557 - a0)) fun x743 =>
          bnd (decide (2 ≤ x743)) fun x744 =>
          bif x744 then (
            bnd (IntKind.wrap .i64 (v557 - 1)) fun x746 =>
            cX a1 v274 kk0 v557 fuel x594 x746
          ) else (
            dA a1 v274 kk0 v557 x594
          )
        )
      )
    )
def bL (a0 : Int) (a1 : Int) : Nat → (List Int) → Int → Int → Option (Bool × (List Int))
  | 0,_,_,_=>none
  | n0 + 1, v272, v273, v274 =>
    bnd (decide (v274 < 5)) fun x545 =>
    bif x545 then (
      cZ a0 a1 v272 v274 (bL a0 a1 n0) fuel v273
    ) else (
      some (false,v272)
    )
def fY (a0 : Int) (a1 : Int) (a2 : (List Int)) : Option (Bool × (List Int)) :=
  bnd (IntKind.wrap .i64 (a0 + 1)) fun x1 =>
  bL a0 a1 fuel a2 x1 0

def dY (a0 : Int) (v83 : (List Int)) (kk0 : (List Int) → Int → Int → Option (Int × (List Int))) (v165 : Int) : Nat → Int → Option (Int × (List Int))
  | 0,_=>none
  | n2 + 1, v193 =>
    bnd (decide (v165 ≤ v193)) fun x203 =>
    bno (gd (x203 == true) (gix v83 a0) default) fun x204 =>
    bno (gd (x203 == true) (v83[(a0 : Int).toNat]?) default) fun x205 =>
    bno (gd (x203 == true) (gix v83 v193) default) fun x206 =>
    bno (gd (x203 == true) (v83[(v193 : Int).toNat]?) default) fun x207 =>
    bno (gd (x203 == true) (fX x205 x207) default) fun x208 =>
    bnd (x203 && x208) fun x209 =>
    bif x209 then (
      bnd (IntKind.wrap .i64 (v193 - 1)) fun x211 =>
      (dY a0 v83 kk0 v165 n2) x211
    ) else (
      bnd (decide (v193 < v165)) fun x212 =>
      bif x212 then (
        some (v165,v83)
      ) else (
        bno (gix v83 v193) fun x214 =>
        bno (v83[(v193 : Int).toNat]?) fun x215 =>
        bno (gix v83 v165) fun x216 =>
        bno (v83[(v165 : Int).toNat]?) fun x217 =>
        bno (gix v83 v165) fun x218 =>
        bno (v83[(v165 : Int).toNat]?) fun x219 =>
        bnd (v83.set ((v165 : Int).toNat) x215) fun x220 =>
        bno (gix x220 v193) fun x221 =>
        bno (x220[(v193 : Int).toNat]?) fun x222 =>
        bnd (x220.set ((v193 : Int).toNat) x217) fun x223 =>
        bnd (IntKind.wrap .i64 (v165 + 1)) fun x224 =>
        bnd (IntKind.wrap .i64 (v193 - 1)) fun x225 =>
        kk0 x223 x224 x225
      )
    )
def dZ (a0 : Int) (v83 : (List Int)) (v85 : Int) (kk0 : (List Int) → Int → Int → Option (Int × (List Int))) : Nat → Int → Option (Int × (List Int))
  | 0,_=>none
  | n1 + 1, v165 =>
    bnd (decide (v165 ≤ v85)) fun x175 =>
    bno (gd (x175 == true) (gix v83 a0) default) fun x176 =>
    bno (gd (x175 == true) (v83[(a0 : Int).toNat]?) default) fun x177 =>
    bno (gd (x175 == true) (gix v83 v165) default) fun x178 =>
    bno (gd (x175 == true) (v83[(v165 : Int).toNat]?) default) fun x179 =>
    bno (gd (x175 == true) (fX x177 x179) default) fun x180 =>
    bnd (x175 && (!x180)) fun x181 =>
    bif x181 then (
      bnd (IntKind.wrap .i64 (v165 + 1)) fun x183 =>
      (dZ a0 v83 v85 kk0 n1) x183
    ) else (
      dY a0 v83 kk0 v165 fuel v85
    )
def cM (a0 : Int) : Nat → (List Int) → Int → Int → Option (Int × (List Int))
  | 0,_,_,_=>none
  | n0 + 1, v83, v84, v85 =>
    dZ a0 v83 v85 (cM a0 n0) fuel v84
def gY (a0 : Int) (a1 : Int) (a2 : Int) (a3 : (List Int)) : Option (Int × (List Int)) :=
  bno (gix a3 a2) fun x1 =>
  bno (a3[(a2 : Int).toNat]?) fun x2 =>
  bno (gix a3 a0) fun x3 =>
  bno (a3[(a0 : Int).toNat]?) fun x4 =>
  bno (gix a3 a0) fun x5 =>
  bno (a3[(a0 : Int).toNat]?) fun x6 =>
  bnd (a3.set ((a0 : Int).toNat) x2) fun x7 =>
  bno (gix x7 a2) fun x8 =>
  bno (x7[(a2 : Int).toNat]?) fun x9 =>
  bnd (x7.set ((a2 : Int).toNat) x4) fun x10 =>
  bnd (IntKind.wrap .i64 (a0 + 1)) fun x11 =>
  bnd (IntKind.wrap .i64 (a1 - 1)) fun x12 =>
  cM a0 fuel x10 x11 x12

def eX (a0 : Int) (v163 : (List Int)) (kk2 : (List Int) → Int → Int → Option (Int × Bool × (List Int))) (v245 : Int) : Nat → Int → Option (Int × Bool × (List Int))
  | 0,_=>none
  | n4 + 1, v273 =>
    bnd (decide (v245 ≤ v273)) fun x283 =>
    bno (gd (x283 == true) (gix v163 v273) default) fun x284 =>
    bno (gd (x283 == true) (v163[(v273 : Int).toNat]?) default) fun x285 =>
    bno (gd (x283 == true) (gix v163 a0) default) fun x286 =>
    bno (gd (x283 == true) (v163[(a0 : Int).toNat]?) default) fun x287 =>
    bno (gd (x283 == true) (fX x285 x287) default) fun x288 =>
    bnd (x283 && (!x288)) fun x289 =>
    bif x289 then (
      bnd (IntKind.wrap .i64 (v273 - 1)) fun x291 =>
      (eX a0 v163 kk2 v245 n4) x291
    ) else (
      bnd (decide (v273 < v245)) fun x292 =>
      bif x292 then (
        bno (gix v163 a0) fun x294 =>
        bno (v163[(a0 : Int).toNat]?) fun x295 =>
        bno (gix v163 v273) fun x296 =>
        bno (v163[(v273 : Int).toNat]?) fun x297 =>
        bno (gix v163 v273) fun x298 =>
        bno (v163[(v273 : Int).toNat]?) fun x299 =>
        bnd (v163.set ((v273 : Int).toNat) x295) fun x300 =>
        bno (gix x300 a0) fun x301 =>
        bno (x300[(a0 : Int).toNat]?) fun x302 =>
        bnd (x300.set ((a0 : Int).toNat) x297) fun x303 =>
        some (v273,false,x303)
      ) else (
        bno (gix v163 v273) fun x304 =>
        bno (v163[(v273 : Int).toNat]?) fun x305 =>
        bno (gix v163 v245) fun x306 =>
        bno (v163[(v245 : Int).toNat]?) fun x307 =>
        bno (gix v163 v245) fun x308 =>
        bno (v163[(v245 : Int).toNat]?) fun x309 =>
        bnd (v163.set ((v245 : Int).toNat) x305) fun x310 =>
        bno (gix x310 v273) fun x311 =>
        bno (x310[(v273 : Int).toNat]?) fun x312 =>
        bnd (x310.set ((v273 : Int).toNat) x307) fun x313 =>
        bnd (IntKind.wrap .i64 (v245 + 1)) fun x314 =>
        bnd (IntKind.wrap .i64 (v273 - 1)) fun x315 =>
        kk2 x313 x314 x315
      )
    )
def eY (a0 : Int) (v163 : (List Int)) (v165 : Int) (kk2 : (List Int) → Int → Int → Option (Int × Bool × (List Int))) : Nat → Int → Option (Int × Bool × (List Int))
  | 0,_=>none
  | n3 + 1, v245 =>
    bnd (decide (v245 ≤ v165)) fun x255 =>
    bno (gd (x255 == true) (gix v163 v245) default) fun x256 =>
    bno (gd (x255 == true) (v163[(v245 : Int).toNat]?) default) fun x257 =>
    bno (gd (x255 == true) (gix v163 a0) default) fun x258 =>
    bno (gd (x255 == true) (v163[(a0 : Int).toNat]?) default) fun x259 =>
    bno (gd (x255 == true) (fX x257 x259) default) fun x260 =>
    bnd (x255 && x260) fun x261 =>
    bif x261 then (
      bnd (IntKind.wrap .i64 (v245 + 1)) fun x263 =>
      (eY a0 v163 v165 kk2 n3) x263
    ) else (
      eX a0 v163 kk2 v245 fuel v165
    )
def dJ (a0 : Int) : Nat → (List Int) → Int → Int → Option (Int × Bool × (List Int))
  | 0,_,_,_=>none
  | n2 + 1, v163, v164, v165 =>
    eY a0 v163 v165 (dJ a0 n2) fuel v164
def eZ (a0 : Int) (x10 : (List Int)) (v22 : Int) : Nat → Int → Option (Int × Bool × (List Int))
  | 0,_=>none
  | n1 + 1, v50 =>
    bnd (decide (v22 ≤ v50)) fun x60 =>
    bno (gd (x60 == true) (gix x10 v50) default) fun x61 =>
    bno (gd (x60 == true) (x10[(v50 : Int).toNat]?) default) fun x62 =>
    bno (gd (x60 == true) (gix x10 a0) default) fun x63 =>
    bno (gd (x60 == true) (x10[(a0 : Int).toNat]?) default) fun x64 =>
    bno (gd (x60 == true) (fX x62 x64) default) fun x65 =>
    bnd (x60 && (!x65)) fun x66 =>
    bif x66 then (
      bnd (IntKind.wrap .i64 (v50 - 1)) fun x68 =>
      (eZ a0 x10 v22 n1) x68
    ) else (
      bnd (decide (v50 < v22)) fun x69 =>
      bif x69 then (
        bno (gix x10 a0) fun x71 =>
        bno (x10[(a0 : Int).toNat]?) fun x72 =>
        bno (gix x10 v50) fun x73 =>
        bno (x10[(v50 : Int).toNat]?) fun x74 =>
        bno (gix x10 v50) fun x75 =>
        bno (x10[(v50 : Int).toNat]?) fun x76 =>
        bnd (x10.set ((v50 : Int).toNat) x72) fun x77 =>
        bno (gix x77 a0) fun x78 =>
        bno (x77[(a0 : Int).toNat]?) fun x79 =>
        bnd (x77.set ((a0 : Int).toNat) x74) fun x80 =>
        some (v50,true,x80)
      ) else (
        bno (gix x10 v50) fun x81 =>
        bno (x10[(v50 : Int).toNat]?) fun x82 =>
        bno (gix x10 v22) fun x83 =>
        bno (x10[(v22 : Int).toNat]?) fun x84 =>
        bno (gix x10 v22) fun x85 =>
        bno (x10[(v22 : Int).toNat]?) fun x86 =>
        bnd (x10.set ((v22 : Int).toNat) x82) fun x87 =>
        bno (gix x87 v50) fun x88 =>
        bno (x87[(v50 : Int).toNat]?) fun x89 =>
        bnd (x87.set ((v50 : Int).toNat) x84) fun x90 =>
        bnd (IntKind.wrap .i64 (v22 + 1)) fun x91 =>
        bnd (IntKind.wrap .i64 (v50 - 1)) fun x92 =>
        dJ a0 fuel x90 x91 x92
      )
    )
def fA (a0 : Int) (x10 : (List Int)) (x12 : Int) : Nat → Int → Option (Int × Bool × (List Int))
  | 0,_=>none
  | n0 + 1, v22 =>
    bnd (decide (v22 ≤ x12)) fun x32 =>
    bno (gd (x32 == true) (gix x10 v22) default) fun x33 =>
    bno (gd (x32 == true) (x10[(v22 : Int).toNat]?) default) fun x34 =>
    bno (gd (x32 == true) (gix x10 a0) default) fun x35 =>
    bno (gd (x32 == true) (x10[(a0 : Int).toNat]?) default) fun x36 =>
    bno (gd (x32 == true) (fX x34 x36) default) fun x37 =>
    bnd (x32 && x37) fun x38 =>
    bif x38 then (
      bnd (IntKind.wrap .i64 (v22 + 1)) fun x40 =>
      (fA a0 x10 x12 n0) x40
    ) else (
      eZ a0 x10 v22 fuel x12
    )
def iW (a0 : Int) (a1 : Int) (a2 : Int) (a3 : (List Int)) : Option (Int × Bool × (List Int)) :=
  bno (gix a3 a2) fun x1 =>
  bno (a3[(a2 : Int).toNat]?) fun x2 =>
  bno (gix a3 a0) fun x3 =>
  bno (a3[(a0 : Int).toNat]?) fun x4 =>
  bno (gix a3 a0) fun x5 =>
  bno (a3[(a0 : Int).toNat]?) fun x6 =>
  bnd (a3.set ((a0 : Int).toNat) x2) fun x7 =>
  bno (gix x7 a2) fun x8 =>
  bno (x7[(a2 : Int).toNat]?) fun x9 =>
  bnd (x7.set ((a2 : Int).toNat) x4) fun x10 =>
  bnd (IntKind.wrap .i64 (a0 + 1)) fun x11 =>
  bnd (IntKind.wrap .i64 (a1 - 1)) fun x12 =>
  fA a0 x10 x12 fuel x11

def gL (rec0 : Int → Int → Int → (List Int) → Option (List Int)) (v80 : Int) (v81 : Int) (v83 : Bool) (v84 : Bool) (kk0 : (List Int) → Int → Int → Int → Bool → Bool → Option (List Int)) (x163 : Int) (v177 : Int) (v187 : Int) (v196 : (List Int)) : Option (List Int) :=
  bnd (decide (0 < v80)) fun x197 =>
  bnd (IntKind.wrap .i64 (v80 - 1)) fun x198 =>
  bno (gd (x197 == true) (gix v196 x198) default) fun x199 =>
  bno (gd (x197 == true) (v196[(x198 : Int).toNat]?) default) fun x200 =>
  bno (gd (x197 == true) (gix v196 v187) default) fun x201 =>
  bno (gd (x197 == true) (v196[(v187 : Int).toNat]?) default) fun x202 =>
  bno (gd (x197 == true) (fX x200 x202) default) fun x203 =>
  bnd (x197 && (!x203)) fun x204 =>
  bif x204 then (
    bno (gY v80 v81 v187 v196) fun x206 =>
    chk (x206.2.length = v196.length) <|kk0 x206.2 x206.1 v81 v177 v83 v84
  ) else (
    bno (iW v80 v81 v187 v196) fun x208 =>
    chk (x208.2.2.length = v196.length) <|bnd (IntKind.wrap .i64 (x208.1 - v80)) fun x210 =>
    bnd (IntKind.wrap .i64 (v81 - x208.1)) fun x211 =>
    bno (quoI .i64 x163 8) fun x212 =>
    bnd (decide (x210 < x211)) fun x213 =>
    bif x213 then (
      bnd (decide (x212 ≤ x210)) fun x215 =>
      bno (rec0 v80 x208.1 v177 x208.2.2) fun x216 =>
      chk (x216.length = v196.length) <|bnd (IntKind.wrap .i64 (x208.1 + 1)) fun x218 =>
      kk0 x216 x218 v81 v177 x215 x208.2.1
    ) else (
      bnd (decide (x212 ≤ x211)) fun x219 =>
      bnd (IntKind.wrap .i64 (x208.1 + 1)) fun x220 =>
      bno (rec0 x220 v81 v177 x208.2.2) fun x221 =>
      chk (x221.length = v196.length) <|kk0 x221 v80 x208.1 v177 x219 x208.2.1
    )
  )
def gM (rec0 : Int → Int → Int → (List Int) → Option (List Int)) (v80 : Int) (v81 : Int) (v83 : Bool) (v84 : Bool) (kk0 : (List Int) → Int → Int → Int → Bool → Bool → Option (List Int)) (x163 : Int) (v177 : Int) (v186 : (List Int)) (v187 : Int) (v188 : Int) : Option (List Int) :=
  bnd (v83 && v84) fun x223 =>
  bnd (decide (v188 = 1)) fun x224 =>
  bnd (x223 && x224) fun x225 =>
  bif x225 then (
    bno (fY v80 v81 v186) fun x227 =>
    chk (x227.2.length = v186.length) <|bif x227.1 then (
      some x227.2
    ) else (
      gL rec0 v80 v81 v83 v84 kk0 x163 v177 v187 x227.2
    )
  ) else (
    gL rec0 v80 v81 v83 v84 kk0 x163 v177 v187 v186
  )
def gN (rec0 : Int → Int → Int → (List Int) → Option (List Int)) (v80 : Int) (v81 : Int) (v83 : Bool) (v84 : Bool) (kk0 : (List Int) → Int → Int → Int → Bool → Bool → Option (List Int)) (x163 : Int) (v176 : (List Int)) (v177 : Int) : Option (List Int) :=
  bno (iX v176 v80 v81) fun x178 =>
  bnd (decide (x178.2 = 2)) fun x230 =>
  bif x230 then (
    bno (iF v80 v81 v176) fun x232 =>
    chk (x232.length = v176.length) <|bnd (IntKind.wrap .i64 (v81 - 1)) fun x234 =>
    bnd (IntKind.wrap .i64 (x178.1 - v80)) fun x235 =>
    bnd (IntKind.wrap .i64 (x234 - x235)) fun x236 =>
    gM rec0 v80 v81 v83 v84 kk0 x163 v177 x232 x236 1
  ) else (
    gM rec0 v80 v81 v83 v84 kk0 x163 v177 v176 x178.1 x178.2
  )
def cN (rec0 : Int → Int → Int → (List Int) → Option (List Int)) : Nat → (List Int) → Int → Int → Int → Bool → Bool → Option (List Int)
  | 0,_,_,_,_,_,_=>none
  | n0 + 1, v79, v80, v81, v82, v83, v84 =>
    bnd (IntKind.wrap .i64 (v81 - v80)) fun x163 =>
    bnd (decide (x163 ≤ 12)) fun x164 =>
    bif x164 then (
      bno (gZ v80 v81 v79) fun x166 =>
      chk (x166.length = v79.length) <|some x166
    ) else (
      bnd (decide (v82 = 0)) fun x168 =>
      bif x168 then (
        bno (jB v80 v81 v79) fun x170 =>
        chk (x170.length = v79.length) <|some x170
      ) else (
        bif (!v83) then (
          bno (hD v80 v81 v79) fun x238 =>
          chk (x238.length = v79.length) <|bnd (IntKind.wrap .i64 (v82 - 1)) fun x240 =>
          gN rec0 v80 v81 v83 v84 (cN rec0 n0) x163 x238 x240
        ) else (
          gN rec0 v80 v81 v83 v84 (cN rec0 n0) x163 v79 v82
        )
      )
    )
def iV (rec0 : Int → Int → Int → (List Int) → Option (List Int)) (a0 : Int) (a1 : Int) (a2 : Int) (a3 : (List Int)) : Option (List Int) :=
  cN rec0 fuel a3 a0 a1 a2 true true
def cI : Nat → Int → Int → Int → (List Int) → Option (List Int)
  | 0,_,_,_,_=>none
  | nr + 1,a0,a1,a2,a3=>iV (cI nr) a0 a1 a2 a3

def lE (a0 : (List Int)) : Option (List Int) :=
  bnd (IntKind.wrap .u64 (a0.length : Int)) fun x1 =>
  bno (mW x1) fun x2 =>
  bno (cI fuel 0 (a0.length : Int) x2 a0) fun x3 =>
  chk (x3.length = a0.length) <|some x3

def pM (a0 : aK) (a1 : Int) : Option (List Int) :=
  bno (kJ a0) fun x1 =>
  bnd (!decide (x1 = 0)) fun x2 =>
  bnd (!decide (a1 = 0)) fun x3 =>
  bno (gd ((x2 == false) && (x3 == true)) (iZ a0 a1) default) fun x4 =>
  bnd (x3 && (!x4)) fun x5 =>
  bnd (x2 || x5) fun x6 =>
  bif x6 then (
    some []
  ) else (
    bno (nW a1 a0) fun x8 =>
    bno (lE x8) fun x9 =>
    chk (x9.length = x8.length) <|some x9
  )

def eT (a0 : (List Int)) (a1 : (List Int)) : Nat → Int → Option Bool
  | 0,_=>none
  | n0 + 1, v10 =>
    bnd (decide (v10 < (a0.length : Int))) fun x18 =>
    bif x18 then (
      bno (gix a0 v10) fun x20 =>
      bno (gix a1 v10) fun x21 =>
      bnd (!decide (x20 = x21)) fun x22 =>
      bif x22 then (
        some false
      ) else (
        bnd (IntKind.wrap .i64 (v10 + 1)) fun x24 =>
        (eT a0 a1 n0) x24
      )
    ) else (
      some true
    )
def iC (a0 : (List Int)) (a1 : (List Int)) : Option Bool :=
  bnd (!decide ((a0.length : Int) = (a1.length : Int))) fun x1 =>
  bif x1 then (
    some false
  ) else (
    eT a0 a1 fuel 0
  )

def uN (a0 : aK) (a1 : Int) : Option Int :=
  bno (kJ a0) fun x1 =>
  bnd (!decide (x1 = 0)) fun x2 =>
  bnd (!decide (a1 = 0)) fun x3 =>
  bno (gd ((x2 == false) && (x3 == true)) (iZ a0 a1) default) fun x4 =>
  bnd (x3 && (!x4)) fun x5 =>
  bnd (x2 || x5) fun x6 =>
  bif x6 then (
    some 0
  ) else (
    bno (lS a0 a1) fun x8 =>
    some x8
  )

def cF (a0 : (List aF)) (a1 : (List aF)) : Nat → Int → Option Bool
  | 0,_=>none
  | n0 + 1, v10 =>
    bnd (decide (v10 < (a0.length : Int))) fun x18 =>
    bif x18 then (
      bno (gix a0 v10) fun x20 =>
      bno (gix a1 v10) fun x21 =>
      bnd ((decide (x20.ID = x21.ID) && (decide (x20.Parent = x21.Parent) && (decide (x20.Weight = x21.Weight) && ((x20.Closed == x21.Closed) && true))))) fun x22 =>
      bif (!x22) then (
        some false
      ) else (
        bnd (IntKind.wrap .i64 (v10 + 1)) fun x24 =>
        (cF a0 a1 n0) x24
      )
    ) else (
      some true
    )
def fS (a0 : (List aF)) (a1 : (List aF)) : Option Bool :=
  bnd (!decide ((a0.length : Int) = (a1.length : Int))) fun x1 =>
  bif x1 then (
    some false
  ) else (
    cF a0 a1 fuel 0
  )

def eP (a0 : (List Int)) (a1 : (List Int)) : Nat → Int → Option Bool
  | 0,_=>none
  | n0 + 1, v10 =>
    bnd (decide (v10 < (a0.length : Int))) fun x18 =>
    bif x18 then (
      bno (gix a0 v10) fun x20 =>
      bno (gix a1 v10) fun x21 =>
      bnd (!decide (x20 = x21)) fun x22 =>
      bif x22 then (
        some false
      ) else (
        bnd (IntKind.wrap .i64 (v10 + 1)) fun x24 =>
        (eP a0 a1 n0) x24
      )
    ) else (
      some true
    )
def kD (a0 : (List Int)) (a1 : (List Int)) : Option Bool :=
  bnd (!decide ((a0.length : Int) = (a1.length : Int))) fun x1 =>
  bif x1 then (
    some false
  ) else (
    eP a0 a1 fuel 0
  )

def nI (a0 : aK) (a1 : aK) : Option Bool :=
  bnd (decide (a0.Room = a1.Room)) fun x1 =>
  bnd (decide (a0.Keep = a1.Keep)) fun x2 =>
  bnd (x1 && x2) fun x3 =>
  bno (gd (x3 == true) (fS a0.Nodes a1.Nodes) default) fun x4 =>
  bnd (x3 && x4) fun x5 =>
  bno (gd (x5 == true) (kD a0.Ended a1.Ended) default) fun x6 =>
  bnd (x5 && x6) fun x7 =>
  some x7

def kH  : Option Bool :=
  bno (uO (⟨8,1,[],[]⟩ : aK) ([(⟨0,1,0,16,false⟩ : dI),(⟨0,3,1,5,false⟩ : dI),(⟨0,5,1,7,false⟩ : dI),(⟨2,3,0,0,false⟩ : dI),(⟨9,0,0,0,false⟩ : dI),(⟨1,5,0,2,false⟩ : dI)] : (List dI))) fun x1 =>
  bnd (!decide ((x1.2.length : Int) = 6)) fun x2 =>
  bif x2 then (
    some false
  ) else (
    bno (gix x1.2 0) fun x4 =>
    bnd (decide (x4 = 0)) fun x5 =>
    bno (gd (x5 == true) (gix x1.2 3) default) fun x6 =>
    bnd (decide (x6 = 0)) fun x7 =>
    bnd (x5 && x7) fun x8 =>
    bno (gd (x8 == true) (gix x1.2 4) default) fun x9 =>
    bnd (decide (x9 = 12)) fun x10 =>
    bnd (x8 && x10) fun x11 =>
    bnd (decide ((x1.1.Nodes.length : Int) = 3)) fun x12 =>
    bnd (x11 && x12) fun x13 =>
    bno (gd (x13 == true) (gix x1.1.Nodes 1) default) fun x14 =>
    bnd (x13 && x14.Closed) fun x15 =>
    bno (gd (x15 == true) (pL x1.1 3) default) fun x16 =>
    bnd (decide (x16 = 2)) fun x17 =>
    bnd (x15 && x17) fun x18 =>
    bno (gd (x18 == true) (pL x1.1 5) default) fun x19 =>
    bnd (decide (x19 = 1)) fun x20 =>
    bnd (x18 && x20) fun x21 =>
    bno (gd (x21 == true) (qS x1.1 1 3) default) fun x22 =>
    bnd (decide (x22 = 1)) fun x23 =>
    bnd (x21 && x23) fun x24 =>
    bno (gd (x24 == true) (qS x1.1 5 3) default) fun x25 =>
    bnd (decide (x25 = 0)) fun x26 =>
    bnd (x24 && x26) fun x27 =>
    bno (gd (x27 == true) (pM x1.1 1) default) fun x28 =>
    bno (gd (x27 == true) (iC x28 ([3] : (List Int))) default) fun x29 =>
    bnd (x27 && x29) fun x30 =>
    bno (gd (x30 == true) (pM x1.1 0) default) fun x31 =>
    bno (gd (x30 == true) (iC x31 ([1,3,5] : (List Int))) default) fun x32 =>
    bnd (x30 && x32) fun x33 =>
    bno (gd (x33 == true) (uN x1.1 0) default) fun x34 =>
    bnd (decide (x34 = 18)) fun x35 =>
    bnd (x33 && x35) fun x36 =>
    bno (gd (x36 == true) (kJ x1.1) default) fun x37 =>
    bnd (decide (x37 = 0)) fun x38 =>
    bnd (x36 && x38) fun x39 =>
    bno (gd (x39 == true) (kJ (⟨0,0,[],[]⟩ : aK)) default) fun x40 =>
    bnd (decide (x40 = 8)) fun x41 =>
    bnd (x39 && x41) fun x42 =>
    bno (gd (x42 == true) (nI x1.1 (⟨0,0,[],[]⟩ : aK)) default) fun x43 =>
    bnd (x42 && (!x43)) fun x44 =>
    bno (gd (x44 == true) (nI x1.1 x1.1) default) fun x45 =>
    bnd (x44 && x45) fun x46 =>
    bnd (bif x46 then true else false) fun x47 =>
    bnd (bif x47 then true else false) fun x48 =>
    bnd (bif x48 then true else false) fun x49 =>
    some x49
  )

end Go.Fn
open Go Go.IL
namespace Go.Fn
structure aM where
  Room : Int
  Keep : Int
  L : (List aF)
  Closed : (List Int)
  deriving DecidableEq,Inhabited
def kG (a0 : aK) : Option Bool :=
  bnd (decide ((a0.Nodes.length : Int) ≤ 30)) fun x1 =>
  bnd (decide ((a0.Ended.length : Int) ≤ 30)) fun x2 =>
  bnd (x1 && x2) fun x3 =>
  some x3

def gO (a0 : aK) : Nat → Int → (List aF) → Option aK
  | 0,_,_=>none
  | n0 + 1, v6, v7 =>
    bnd (decide (v6 < (a0.Nodes.length : Int))) fun x13 =>
    bif x13 then (
      bno (gix a0.Nodes v6) fun x15 =>
      bno (app 32 v7 ([x15] : (List aF))) fun x16 =>
      bnd (IntKind.wrap .i64 (v6 + 1)) fun x17 =>
      (gO a0 n0) x17 x16
    ) else (
      some (⟨a0.Room,a0.Keep,v7,a0.Ended⟩ : aK)
    )
def lF (a0 : aK) : Option aK :=
  gO a0 fuel 0 ([] : (List aF))

def kO (a0 : aK) : Option aM :=
  some (⟨a0.Room,a0.Keep,a0.Nodes,a0.Ended⟩ : aM)

def fB (a0 : aK) : Nat → Int → Option Bool
  | 0,_=>none
  | n0 + 1, v21 =>
    bnd (decide (v21 < (a0.Nodes.length : Int))) fun x34 =>
    bif x34 then (
      bno (gix a0.Nodes v21) fun x36 =>
      bnd (decide (x36.ID < 1)) fun x37 =>
      bnd (decide (1048576 < x36.ID)) fun x38 =>
      bnd (x37 || x38) fun x39 =>
      bnd (decide (x36.Weight < 1)) fun x40 =>
      bnd (x39 || x40) fun x41 =>
      bnd (decide (256 < x36.Weight)) fun x42 =>
      bnd (x41 || x42) fun x43 =>
      bif x43 then (
        some false
      ) else (
        bnd (IntKind.wrap .i64 (v21 + 1)) fun x45 =>
        (fB a0 n0) x45
      )
    ) else (
      some true
    )
def jJ (a0 : aK) : Option Bool :=
  bnd (decide (a0.Room < 1)) fun x1 =>
  bnd (decide (24 < a0.Room)) fun x2 =>
  bnd (x1 || x2) fun x3 =>
  bnd (decide (a0.Keep < 0)) fun x4 =>
  bnd (x3 || x4) fun x5 =>
  bnd (decide (a0.Room < a0.Keep)) fun x6 =>
  bnd (x5 || x6) fun x7 =>
  bif x7 then (
    some false
  ) else (
    fB a0 fuel 0
  )

def cS (a0 : aM) (a1 : Int) : Nat → Int → Option Int
  | 0,_=>none
  | n0 + 1, v7 =>
    bnd (decide (v7 < (a0.L.length : Int))) fun x14 =>
    bif x14 then (
      bno (gix a0.L v7) fun x16 =>
      bnd (decide (x16.ID = a1)) fun x17 =>
      bif x17 then (
        some v7
      ) else (
        bnd (IntKind.wrap .i64 (v7 + 1)) fun x19 =>
        (cS a0 a1 n0) x19
      )
    ) else (
      some (-1)
    )
def bK (a0 : aM) (a1 : Int) : Option Int :=
  cS a0 a1 fuel 0

def fI (a0 : aM) (v18 : Int) (kk0 : (List Int) → Int → Int → Option (List Int)) (x37 : aF) (v41 : (List Int)) : Option (List Int) :=
  bno (bK a0 x37.Parent) fun x42 =>
  bnd (IntKind.wrap .i64 (v18 + 1)) fun x43 =>
  kk0 v41 x42 x43
def cU (a0 : aM) : Nat → (List Int) → Int → Int → Option (List Int)
  | 0,_,_,_=>none
  | n0 + 1, v16, v17, v18 =>
    bnd (decide (v18 ≤ (a0.L.length : Int))) fun x33 =>
    bnd (decide (0 ≤ v17)) fun x34 =>
    bnd (x33 && x34) fun x35 =>
    bif x35 then (
      bno (gix a0.L v17) fun x37 =>
      bnd (!decide (x37.Parent = 0)) fun x44 =>
      bif x44 then (
        bno (app 8 v16 ([x37.Parent] : (List Int))) fun x46 =>
        fI a0 v18 (cU a0 n0) x37 x46
      ) else (
        fI a0 v18 (cU a0 n0) x37 v16
      )
    ) else (
      some v16
    )
def gB (a0 : aM) (a1 : Int) : Option (List Int) :=
  bno (bK a0 a1) fun x1 =>
  cU a0 fuel ([] : (List Int)) x1 0

def gV (a0 : (List Int)) (a1 : Int) : Nat → Int → Option Bool
  | 0,_=>none
  | n0 + 1, v7 =>
    bnd (decide (v7 < (a0.length : Int))) fun x14 =>
    bif x14 then (
      bno (gix a0 v7) fun x16 =>
      bnd (decide (x16 = a1)) fun x17 =>
      bif x17 then (
        some true
      ) else (
        bnd (IntKind.wrap .i64 (v7 + 1)) fun x19 =>
        (gV a0 a1 n0) x19
      )
    ) else (
      some false
    )
def jV (a0 : (List Int)) (a1 : Int) : Option Bool :=
  gV a0 a1 fuel 0

def gU (a0 : aK) (v17 : Int) (kk0 : Int → Int → Option Bool) (v38 : Int) : Option Bool :=
  bno (gix a0.Nodes v17) fun x39 =>
  bno (gix a0.Nodes v17) fun x40 =>
  bno (jV a0.Ended x40.ID) fun x41 =>
  bnd (!(x39.Closed == x41)) fun x42 =>
  bif x42 then (
    some false
  ) else (
    bnd (IntKind.wrap .i64 (v17 + 1)) fun x44 =>
    kk0 v38 x44
  )
def dF (a0 : aK) : Nat → Int → Int → Option Bool
  | 0,_,_=>none
  | n0 + 1, v16, v17 =>
    bnd (decide (v17 < (a0.Nodes.length : Int))) fun x33 =>
    bif x33 then (
      bno (gix a0.Nodes v17) fun x45 =>
      bif x45.Closed then (
        bnd (IntKind.wrap .i64 (v16 + 1)) fun x47 =>
        gU a0 v17 (dF a0 n0) x47
      ) else (
        gU a0 v17 (dF a0 n0) v16
      )
    ) else (
      bnd (decide (v16 = (a0.Ended.length : Int))) fun x48 =>
      some x48
    )
def kX (a0 : aK) : Option Bool :=
  dF a0 fuel 0 0

def fU (a0 : aK) (x1 : aM) : Nat → Int → Option Int
  | 0,_=>none
  | n2 + 1, v72 =>
    bnd (decide (v72 < (a0.Nodes.length : Int))) fun x81 =>
    bif x81 then (
      bno (gix a0.Nodes v72) fun x83 =>
      bno (gB x1 x83.ID) fun x84 =>
      bno (gix a0.Nodes v72) fun x85 =>
      bno (jV x84 x85.ID) fun x86 =>
      bif x86 then (
        some 4
      ) else (
        bnd (IntKind.wrap .i64 (v72 + 1)) fun x88 =>
        (fU a0 x1 n2) x88
      )
    ) else (
      bno (kX a0) fun x89 =>
      bif (!x89) then (
        some 9
      ) else (
        some 0
      )
    )
def fV (a0 : aK) (x1 : aM) : Nat → Int → Option Int
  | 0,_=>none
  | n1 + 1, v43 =>
    bnd (decide (v43 < (a0.Nodes.length : Int))) fun x54 =>
    bif x54 then (
      bno (gix a0.Nodes v43) fun x56 =>
      bnd (!decide (x56.Parent = 0)) fun x57 =>
      bno (gd (x57 == true) (gix a0.Nodes v43) default) fun x58 =>
      bno (gd (x57 == true) (bK x1 x58.Parent) default) fun x59 =>
      bnd (decide (x59 < 0)) fun x60 =>
      bnd (x57 && x60) fun x61 =>
      bif x61 then (
        some 6
      ) else (
        bnd (IntKind.wrap .i64 (v43 + 1)) fun x63 =>
        (fV a0 x1 n1) x63
      )
    ) else (
      fU a0 x1 fuel 0
    )
def eN (a0 : aK) (x1 : aM) : Nat → Int → Option Int
  | 0,_=>none
  | n0 + 1, v16 =>
    bnd (decide (v16 < (a0.Nodes.length : Int))) fun x25 =>
    bif x25 then (
      bnd (IntKind.wrap .i64 (v16 - 1)) fun x27 =>
      bno (gix a0.Nodes x27) fun x28 =>
      bno (gix a0.Nodes v16) fun x29 =>
      bnd (decide (x29.ID ≤ x28.ID)) fun x30 =>
      bif x30 then (
        some 10
      ) else (
        bnd (IntKind.wrap .i64 (v16 + 1)) fun x32 =>
        (eN a0 x1 n0) x32
      )
    ) else (
      fV a0 x1 fuel 0
    )
def jG (a0 : aK) : Option Int :=
  bno (kO a0) fun x1 =>
  bno (jJ a0) fun x2 =>
  bif (!x2) then (
    some 8
  ) else (
    bnd (decide (a0.Room < (a0.Nodes.length : Int))) fun x4 =>
    bnd (decide (a0.Keep < (a0.Ended.length : Int))) fun x5 =>
    bnd (x4 || x5) fun x6 =>
    bif x6 then (
      some 7
    ) else (
      eN a0 x1 fuel 1
    )
  )

def jH (a0 : Int) (a1 : Int) (a2 : Int) : Option Int :=
  bnd (decide (a0 < 1)) fun x1 =>
  bnd (decide (1048576 < a0)) fun x2 =>
  bnd (x1 || x2) fun x3 =>
  bnd (decide (a1 < 0)) fun x4 =>
  bnd (x3 || x4) fun x5 =>
  bnd (decide (1048576 < a1)) fun x6 =>
  bnd (x5 || x6) fun x7 =>
  bnd (decide (a2 < 1)) fun x8 =>
  bnd (x7 || x8) fun x9 =>
  bnd (decide (256 < a2)) fun x10 =>
  bnd (x9 || x10) fun x11 =>
  bif x11 then (
    some 8
  ) else (
    bnd (decide (a0 = a1)) fun x13 =>
    bif x13 then (
      some 4
    ) else (
      some 0
    )
  )

def dS (a0 : aM) (a1 : Int) : Nat → (List Int) → Int → Option (List Int)
  | 0,_,_=>none
  | n0 + 1, v10, v11 =>
    bnd (decide (v11 < (a0.L.length : Int))) fun x21 =>
    bif x21 then (
      bno (gix a0.L v11) fun x23 =>
      bnd (decide (x23.Parent = a1)) fun x24 =>
      bif x24 then (
        bno (gix a0.L v11) fun x26 =>
        bno (app 8 v10 ([x26.ID] : (List Int))) fun x27 =>
        bnd (IntKind.wrap .i64 (v11 + 1)) fun x28 =>
        (dS a0 a1 n0) x27 x28
      ) else (
        bnd (IntKind.wrap .i64 (v11 + 1)) fun x29 =>
        (dS a0 a1 n0) v10 x29
      )
    ) else (
      some v10
    )
def iU (a0 : aM) (a1 : Int) : Option (List Int) :=
  dS a0 a1 fuel ([] : (List Int)) 0

def dG (a0 : aM) (a1 : aF) : Option aM :=
  bno (app 32 ([] : (List aF)) a0.L) fun x1 =>
  bno (bK a0 a1.ID) fun x2 =>
  bno (gix x1 x2) fun x3 =>
  bno (x1[(x2 : Int).toNat]?) fun x4 =>
  bnd (x1.set ((x2 : Int).toNat) a1) fun x5 =>
  some (⟨a0.Room,a0.Keep,x5,a0.Closed⟩ : aM)

def eL (a0 : (List Int)) (a1 : Int) : Nat → (List Int) → Int → Option (List Int)
  | 0,_,_=>none
  | n0 + 1, v10, v11 =>
    bnd (decide (v11 < (a0.length : Int))) fun x21 =>
    bif x21 then (
      bno (gix a0 v11) fun x23 =>
      bnd (!decide (x23 = a1)) fun x24 =>
      bif x24 then (
        bno (gix a0 v11) fun x26 =>
        bno (app 8 v10 ([x26] : (List Int))) fun x27 =>
        bnd (IntKind.wrap .i64 (v11 + 1)) fun x28 =>
        (eL a0 a1 n0) x27 x28
      ) else (
        bnd (IntKind.wrap .i64 (v11 + 1)) fun x29 =>
        (eL a0 a1 n0) v10 x29
      )
    ) else (
      some v10
    )
def iI (a0 : (List Int)) (a1 : Int) : Option (List Int) :=
  eL a0 a1 fuel ([] : (List Int)) 0

def eF (a1 : Int) (v38 : Int) (v39 : Int) (v40 : (List aF)) (v41 : (List Int)) : Nat → (List aF) → Int → Option aM
  | 0,_,_=>none
  | n2 + 1, v71, v72 =>
    bnd (decide (v72 < (v40.length : Int))) fun x82 =>
    bif x82 then (
      bno (gix v40 v72) fun x84 =>
      bnd (!decide (x84.ID = a1)) fun x85 =>
      bif x85 then (
        bno (gix v40 v72) fun x87 =>
        bno (app 32 v71 ([x87] : (List aF))) fun x88 =>
        bnd (IntKind.wrap .i64 (v72 + 1)) fun x89 =>
        (eF a1 v38 v39 v40 v41 n2) x88 x89
      ) else (
        bnd (IntKind.wrap .i64 (v72 + 1)) fun x90 =>
        (eF a1 v38 v39 v40 v41 n2) v71 x90
      )
    ) else (
      bno (iI v41 a1) fun x91 =>
      some (⟨v38,v39,v71,x91⟩ : aM)
    )
def eG (a1 : Int) (x2 : aF) (x3 : (List Int)) (v11 : Int) : Nat → Int → Int → Int → (List aF) → (List Int) → Option aM
  | 0,_,_,_,_,_=>none
  | n1 + 1, v37, v38, v39, v40, v41 =>
    bnd (decide (v37 < (x3.length : Int))) fun x52 =>
    bif x52 then (
      bno (gix x3 v37) fun x54 =>
      bno (bK (⟨v38,v39,v40,v41⟩ : aM) x54) fun x55 =>
      bno (gix v40 x55) fun x56 =>
      bnd (IntKind.wrap .i64 (x2.Weight * x56.Weight)) fun x57 =>
      bno (quoI .i64 x57 v11) fun x58 =>
      bnd (max 1 x58) fun x59 =>
      bno (dG (⟨v38,v39,v40,v41⟩ : aM) (⟨x56.ID,x2.Parent,x59,x56.Closed⟩ : aF)) fun x60 =>
      bnd (IntKind.wrap .i64 (v37 + 1)) fun x61 =>
      (eG a1 x2 x3 v11 n1) x61 x60.Room x60.Keep x60.L x60.Closed
    ) else (
      eF a1 v38 v39 v40 v41 fuel ([] : (List aF)) 0
    )
def eS (a0 : aM) (a1 : Int) (x2 : aF) (x3 : (List Int)) : Nat → Int → Int → Option aM
  | 0,_,_=>none
  | n0 + 1, v11, v12 =>
    bnd (decide (v12 < (x3.length : Int))) fun x20 =>
    bif x20 then (
      bno (gix x3 v12) fun x22 =>
      bno (bK a0 x22) fun x23 =>
      bno (gix a0.L x23) fun x24 =>
      bnd (IntKind.wrap .i64 (v11 + x24.Weight)) fun x25 =>
      bnd (IntKind.wrap .i64 (v12 + 1)) fun x26 =>
      (eS a0 a1 x2 x3 n0) x25 x26
    ) else (
      eG a1 x2 x3 v11 fuel 0 a0.Room a0.Keep a0.L a0.Closed
    )
def eB (a0 : aM) (a1 : Int) : Option aM :=
  bno (bK a0 a1) fun x1 =>
  bno (gix a0.L x1) fun x2 =>
  bno (iU a0 a1) fun x3 =>
  eS a0 a1 x2 x3 fuel 0 0

def eE (a1 : Int) (v6 : Int) (v7 : Int) (v8 : Bool) (x10 : aF) (x22 : (List Int)) : Nat → Int → Int → Int → (List aF) → (List Int) → Option aM
  | 0,_,_,_,_,_=>none
  | n2 + 1, v31, v32, v33, v34, v35 =>
    bnd (decide (v31 < (x22.length : Int))) fun x44 =>
    bnd (x44 && v8) fun x45 =>
    bif x45 then (
      bno (gix x22 v31) fun x47 =>
      bno (bK (⟨v32,v33,v34,v35⟩ : aM) x47) fun x48 =>
      bno (gix v34 x48) fun x49 =>
      bno (dG (⟨v32,v33,v34,v35⟩ : aM) (⟨x49.ID,a1,x49.Weight,x49.Closed⟩ : aF)) fun x50 =>
      bnd (IntKind.wrap .i64 (v31 + 1)) fun x51 =>
      (eE a1 v6 v7 v8 x10 x22 n2) x51 x50.Room x50.Keep x50.L x50.Closed
    ) else (
      bno (dG (⟨v32,v33,v34,v35⟩ : aM) (⟨x10.ID,v6,v7,x10.Closed⟩ : aF)) fun x52 =>
      some x52
    )
def gF (a1 : Int) (v6 : Int) (v7 : Int) (v8 : Bool) (x10 : aF) (v17 : Int) (v18 : Int) (v19 : (List aF)) (v20 : (List Int)) : Option aM :=
  bno (iU (⟨v17,v18,v19,v20⟩ : aM) v6) fun x21 =>
  bno (iI x21 a1) fun x22 =>
  eE a1 v6 v7 v8 x10 x22 fuel 0 v17 v18 v19 v20
def gG (a0 : aM) (a1 : Int) (v6 : Int) (v7 : Int) (v8 : Bool) : Option aM :=
  bno (bK a0 a1) fun x9 =>
  bno (gix a0.L x9) fun x10 =>
  bno (gB a0 v6) fun x53 =>
  bno (jV x53 a1) fun x54 =>
  bif x54 then (
    bno (bK a0 v6) fun x56 =>
    bno (gix a0.L x56) fun x57 =>
    bno (dG a0 (⟨x57.ID,x10.Parent,x57.Weight,x57.Closed⟩ : aF)) fun x58 =>
    gF a1 v6 v7 v8 x10 x58.Room x58.Keep x58.L x58.Closed
  ) else (
    gF a1 v6 v7 v8 x10 a0.Room a0.Keep a0.L a0.Closed
  )
def eA (a0 : aM) (a1 : Int) (a2 : Int) (a3 : Int) (a4 : Bool) : Option aM :=
  bnd (!decide (a2 = 0)) fun x59 =>
  bno (gd (x59 == true) (bK a0 a2) default) fun x60 =>
  bnd (decide (x60 < 0)) fun x61 =>
  bnd (x59 && x61) fun x62 =>
  bif x62 then (
    gG a0 a1 0 16 false
  ) else (
    gG a0 a1 a2 a3 a4
  )

def dU (a1 : Int) (a2 : Int) (a3 : Int) (a4 : Bool) (v15 : Int) (v16 : Int) (v17 : (List aF)) (v18 : (List Int)) : Nat → Int → Option (aM × Int)
  | 0,_=>none
  | n1 + 1, v25 =>
    bnd (decide (v25 < (v17.length : Int))) fun x32 =>
    bno (gd (x32 == true) (gix v17 v25) default) fun x33 =>
    bnd (decide (x33.ID < a1)) fun x34 =>
    bnd (x32 && x34) fun x35 =>
    bif x35 then (
      bnd (IntKind.wrap .i64 (v25 + 1)) fun x37 =>
      (dU a1 a2 a3 a4 v15 v16 v17 v18 n1) x37
    ) else (
      bno (cut v17 0 v25) fun x38 =>
      bno (app 32 ([] : (List aF)) x38) fun x39 =>
      bno (app 32 x39 (([(⟨a1,(-1),16,false⟩ : aF)] : (List aF)))) fun x40 =>
      bno (cut v17 v25 (v17.length : Int)) fun x41 =>
      bno (app 32 x40 x41) fun x42 =>
      bno (eA (⟨v15,v16,x42,v18⟩ : aM) a1 a2 a3 a4) fun x43 =>
      some (x43,0)
    )
def dV (a1 : Int) (a2 : Int) (a3 : Int) (a4 : Bool) (v15 : Int) (v16 : Int) (v17 : (List aF)) (v18 : (List Int)) : Option (aM × Int) :=
  dU a1 a2 a3 a4 v15 v16 v17 v18 fuel 0
def dB (a0 : aM) (a1 : Int) (a2 : Int) (a3 : Int) (a4 : Bool) : Option (aM × Int) :=
  bno (jH a1 a2 a3) fun x1 =>
  bnd (!decide (x1 = 0)) fun x2 =>
  bif x2 then (
    some (a0,x1)
  ) else (
    bno (bK a0 a1) fun x4 =>
    bnd (decide (0 ≤ x4)) fun x5 =>
    bif x5 then (
      some (a0,13)
    ) else (
      bnd (decide (a0.Room ≤ (a0.L.length : Int))) fun x7 =>
      bnd (decide ((a0.Closed.length : Int) = 0)) fun x8 =>
      bnd (x7 && x8) fun x9 =>
      bif x9 then (
        some (a0,7)
      ) else (
        bnd (decide (a0.Room ≤ (a0.L.length : Int))) fun x44 =>
        bif x44 then (
          bno (gix a0.Closed 0) fun x46 =>
          bno (eB a0 x46) fun x47 =>
          dV a1 a2 a3 a4 x47.Room x47.Keep x47.L x47.Closed
        ) else (
          dV a1 a2 a3 a4 a0.Room a0.Keep a0.L a0.Closed
        )
      )
    )
  )

def fM (a0 : aM) (a1 : Int) (a2 : Int) (a3 : Int) (a4 : Bool) : Option (aM × Int) :=
  bno (jH a1 a2 a3) fun x1 =>
  bnd (!decide (x1 = 0)) fun x2 =>
  bif x2 then (
    some (a0,x1)
  ) else (
    bno (bK a0 a1) fun x4 =>
    bnd (decide (x4 < 0)) fun x5 =>
    bif x5 then (
      bno (dB a0 a1 a2 a3 a4) fun x7 =>
      some (x7.1,x7.2)
    ) else (
      bno (eA a0 a1 a2 a3 a4) fun x8 =>
      some (x8,0)
    )
  )

def gQ (a0 : aM) (a1 : Int) : Option (aM × Int) :=
  bno (bK a0 a1) fun x1 =>
  bnd (decide (x1 < 0)) fun x2 =>
  bif x2 then (
    some (a0,6)
  ) else (
    bno (gix a0.L x1) fun x4 =>
    bif x4.Closed then (
      some (a0,9)
    ) else (
      bno (dG a0 (⟨x4.ID,x4.Parent,x4.Weight,true⟩ : aF)) fun x6 =>
      bno (app 8 ([] : (List Int)) x6.Closed) fun x7 =>
      bno (app 8 x7 ([a1] : (List Int))) fun x8 =>
      bnd (decide (x6.Keep < (x8.length : Int))) fun x9 =>
      bif x9 then (
        bno (gix x8 0) fun x11 =>
        bno (eB (⟨x6.Room,x6.Keep,x6.L,x8⟩ : aM) x11) fun x12 =>
        some (x12,0)
      ) else (
        some ((⟨x6.Room,x6.Keep,x6.L,x8⟩ : aM),0)
      )
    )
  )

def hG (a0 : aM) (a1 : Int) : Option (aM × Int) :=
  bno (bK a0 a1) fun x1 =>
  bnd (decide (x1 < 0)) fun x2 =>
  bif x2 then (
    some (a0,6)
  ) else (
    bno (eB a0 a1) fun x4 =>
    some (x4,0)
  )

def jF (a0 : aK) (v17 : Int) (v18 : Int) (v19 : Int) (v20 : (List aF)) (v21 : (List Int)) : Option (aK × Int) :=
  some ((⟨a0.Room,a0.Keep,v20,v21⟩ : aK),v17)
def kT (a0 : aK) (a1 : dI) : Option (aK × Int) :=
  bno (jG a0) fun x1 =>
  bnd (!decide (x1 = 0)) fun x2 =>
  bif x2 then (
    some (a0,x1)
  ) else (
    bnd (decide (3 < a1.Kind)) fun x4 =>
    bif x4 then (
      some (a0,12)
    ) else (
      bno (kO a0) fun x6 =>
      bnd (decide (a1.Kind = 0)) fun x22 =>
      bif x22 then (
        bno (dB x6 a1.ID a1.Dep a1.Weight a1.Only) fun x24 =>
        jF a0 x24.2 x24.1.Room x24.1.Keep x24.1.L x24.1.Closed
      ) else (
        bnd (decide (a1.Kind = 1)) fun x25 =>
        bif x25 then (
          bno (fM x6 a1.ID a1.Dep a1.Weight a1.Only) fun x27 =>
          jF a0 x27.2 x27.1.Room x27.1.Keep x27.1.L x27.1.Closed
        ) else (
          bnd (decide (a1.Kind = 2)) fun x28 =>
          bif x28 then (
            bno (gQ x6 a1.ID) fun x30 =>
            jF a0 x30.2 x30.1.Room x30.1.Keep x30.1.L x30.1.Closed
          ) else (
            bno (hG x6 a1.ID) fun x31 =>
            jF a0 x31.2 x31.1.Room x31.1.Keep x31.1.L x31.1.Closed
          )
        )
      )
    )
  )

def fE (a0 : (List aF)) : Nat → (List aF) → Int → Option (List aF)
  | 0,_,_=>none
  | n0 + 1, v6, v7 =>
    bnd (decide (v7 < (a0.length : Int))) fun x13 =>
    bif x13 then (
      bno (gix a0 v7) fun x15 =>
      bno (app 32 v6 ([x15] : (List aF))) fun x16 =>
      bnd (IntKind.wrap .i64 (v7 + 1)) fun x17 =>
      (fE a0 n0) x16 x17
    ) else (
      some v6
    )
def lK (a0 : (List aF)) : Option (List aF) :=
  fE a0 fuel ([] : (List aF)) 0

def jN (a0 : aK) : Option aK :=
  bno (lK a0.Nodes) fun x1 =>
  some (⟨a0.Room,a0.Keep,x1,a0.Ended⟩ : aK)

def eM (a0 : (List aF)) (a1 : (List aF)) : Nat → Int → Option Bool
  | 0,_=>none
  | n0 + 1, v10 =>
    bnd (decide (v10 < (a0.length : Int))) fun x18 =>
    bif x18 then (
      bno (gix a0 v10) fun x20 =>
      bno (gix a1 v10) fun x21 =>
      bnd ((decide (x20.ID = x21.ID) && (decide (x20.Parent = x21.Parent) && (decide (x20.Weight = x21.Weight) && ((x20.Closed == x21.Closed) && true))))) fun x22 =>
      bif (!x22) then (
        some false
      ) else (
        bnd (IntKind.wrap .i64 (v10 + 1)) fun x24 =>
        (eM a0 a1 n0) x24
      )
    ) else (
      some true
    )
def jP (a0 : (List aF)) (a1 : (List aF)) : Option Bool :=
  bnd (!decide ((a0.length : Int) = (a1.length : Int))) fun x1 =>
  bif x1 then (
    some false
  ) else (
    eM a0 a1 fuel 0
  )

def iY (a0 : aK) (a1 : aK) : Option Bool :=
  bnd (decide (a0.Room = a1.Room)) fun x1 =>
  bnd (decide (a0.Keep = a1.Keep)) fun x2 =>
  bnd (x1 && x2) fun x3 =>
  bno (gd (x3 == true) (jP a0.Nodes a1.Nodes) default) fun x4 =>
  bnd (x3 && x4) fun x5 =>
  bno (gd (x5 == true) (iC a0.Ended a1.Ended) default) fun x6 =>
  bnd (x5 && x6) fun x7 =>
  some x7

def jA (a0 : aK) (a1 : aK) (a2 : dI) : Option Bool :=
  bno (kG a0) fun x1 =>
  bno (gd ((!x1) == false) (kG a1) default) fun x2 =>
  bnd ((!x1) || (!x2)) fun x3 =>
  bif x3 then (
    bno (kH) fun x5 =>
    some x5
  ) else (
    bno (lF a0) fun x6 =>
    bno (pZ x6 a2) fun x7 =>
    bno (kT a0 a2) fun x8 =>
    bno (jN x7.1) fun x9 =>
    bno (iY x9 x8.1) fun x10 =>
    bnd (decide (x7.2 = x8.2)) fun x11 =>
    bnd (x10 && x11) fun x12 =>
    bno (gd (x12 == true) (kJ x6) default) fun x13 =>
    bno (gd (x12 == true) (jG a0) default) fun x14 =>
    bnd (decide (x13 = x14)) fun x15 =>
    bnd (x12 && x15) fun x16 =>
    bno (gd (x16 == true) (lF a1) default) fun x17 =>
    bno (gd (x16 == true) (nI x6 x17) default) fun x18 =>
    bno (gd (x16 == true) (iY a0 a1) default) fun x19 =>
    bnd (x18 == x19) fun x20 =>
    bnd (x16 && x20) fun x21 =>
    bno (gd (x21 == true) (jN x6) default) fun x22 =>
    bno (gd (x21 == true) (iY x22 a0) default) fun x23 =>
    bnd (x21 && x23) fun x24 =>
    bno (gd (x24 == true) (kH) default) fun x25 =>
    bnd (x24 && x25) fun x26 =>
    some x26
  )

end Go.Fn
