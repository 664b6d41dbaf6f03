/-
  A part of the proof: rules and plain facts. No condition.
-/
import Derived.Test.YtdnjagkihgjpcaaIlMb
set_option linter.all false
open Go Go.IL
namespace Go.Fn
structure eY where
 Kind:Int
 ID:Int
 Dep:Int
 Weight:Int
 Only:Bool
 deriving DecidableEq,Inhabited
def sJ:Enc eY:=⟨⟨fun x=>.agg [.int .u8 x.Kind,.int .i64 x.ID,.int .i64 x.Dep,.int .i64 x.Weight,.bool x.Only],5,by decide,fun _=>⟨rfl,rfl⟩⟩,fun _=>rfl⟩

structure aG where
 ID:Int
 Parent:Int
 Weight:Int
 Closed:Bool
 deriving DecidableEq,Inhabited
def aC:Enc aG:=⟨⟨fun x=>.agg [.int .i64 x.ID,.int .i64 x.Parent,.int .i64 x.Weight,.bool x.Closed],4,by decide,fun _=>⟨rfl,rfl⟩⟩,fun _=>rfl⟩

structure aP where
 Live:Bool
 Value:Int
 Link:Int
 deriving DecidableEq,Inhabited
def bA:Enc aP:=⟨⟨fun x=>.agg [.bool x.Live,.int .i64 x.Value,.int .i64 x.Link],3,by decide,fun _=>⟨rfl,rfl⟩⟩,fun _=>rfl⟩

structure bN where
 Cells:(List aP)
 Free:Int
 Used:Int
 deriving DecidableEq,Inhabited
structure aM where
 id:Int
 up:Int
 first:Int
 next:Int
 weight:Int
 closed:Bool
 deriving DecidableEq,Inhabited
def aB:Enc aM:=⟨⟨fun x=>.agg [.int .i64 x.id,.int .i64 x.up,.int .i64 x.first,.int .i64 x.next,.int .i64 x.weight,.bool x.closed],6,by decide,fun _=>⟨rfl,rfl⟩⟩,fun _=>rfl⟩

structure gS where
 dep:Int
 weight:Int
 only:Bool
 deriving DecidableEq,Inhabited
def nT (a0:Int) (a1:Int) (a2:Int):Option Bool :=
 bnd (decide (a1 ≤ a0)) fun x1 =>
 bnd (decide (a0 ≤ a2)) fun x2 =>
 bnd (x1 && x2) fun x3 =>
 some x3

def iS (a0:Int) (a1:Int) (a2:Int) (a3:Bool):Option Int :=
 some 1

def nX (a0:Int) (a1:Int) (a2:Int) (a3:Bool):Option Int :=
 some 1

def nG  : Option (List aG) :=
 some []

def jJ (a0:(List aG)):Nat → (List aG) → Int → Option (List aG)
 | 0,_,_=>none
 | n0 + 1,v6,v7 =>
   bnd (decide (v7 < (a0.length:Int))) fun x13 =>
   bif x13 then (
    bno (gix a0 v7) fun x15 =>
    bno (app 32 v6 ([x15]:(List aG))) fun x16 =>
    bnd (IntKind.wrap .i64 (v7 + 1)) fun x17 =>
    (jJ a0 n0) x16 x17
   ) else (
     some v6
   )
def oM (a0:(List aG)):Option (List aG) :=
 jJ a0 fuel ([]:(List aG)) 0

def nV (a0:Int):Option (List Int) :=
 some []

def mC (a0:(List Int)):Option (List Int) :=
 some []

def mE (a0:Int):Option Int :=
 some 1

def mT (a0:Int):Option Int :=
 some 1

def nY (a0:Int):Option (List Int) :=
 some []

def gX (a0:(List aG)) (a1:(List aG)):Nat → Int → Option Bool
 | 0,_=>none
 | n0 + 1,v10 =>
   bnd (decide (v10 < (a0.length:Int))) fun x18 =>
   bif x18 then (
    bno (gix a0 v10) fun x20 =>
    bno (gix a1 v10) fun x21 =>
    bnd ((decide (x20.ID=x21.ID) && (decide (x20.Parent=x21.Parent) && (decide (x20.Weight=x21.Weight) && ((x20.Closed == x21.Closed) && true))))) fun x22 =>
    bif (!x22) then (
     some false
    ) else (
      bnd (IntKind.wrap .i64 (v10 + 1)) fun x24 =>
      (gX a0 a1 n0) x24
    )
   ) else (
     some true
   )
def gY (a0:(List aG)) (a1:(List aG)):Option Bool :=
 bnd (!decide ((a0.length:Int)=(a1.length:Int))) fun x1 =>
 bif x1 then (
  some false
 ) else (
   gX a0 a1 fuel 0
 )

def iC (a0:(List Int)) (a1:(List Int)):Nat → Int → Option Bool
 | 0,_=>none
 | n0 + 1,v10 =>
   bnd (decide (v10 < (a0.length:Int))) fun x18 =>
   bif x18 then (
    bno (gix a0 v10) fun x20 =>
    bno (gix a1 v10) fun x21 =>
    bnd (!decide (x20=x21)) fun x22 =>
    bif x22 then (
     some false
    ) else (
      bnd (IntKind.wrap .i64 (v10 + 1)) fun x24 =>
      (iC a0 a1 n0) x24
    )
   ) else (
     some true
   )
def cS (a0:(List Int)) (a1:(List Int)):Option Bool :=
 bnd (!decide ((a0.length:Int)=(a1.length:Int))) fun x1 =>
 bif x1 then (
  some false
 ) else (
   iC a0 a1 fuel 0
 )

def hR  : Option Int :=
 some 0

def lN  : Option (List Int) :=
 some []

def qW  : Option bN :=
 some (⟨[],(-1),0⟩:bN)

def jX (a0:gS) (a1:Int) (v6:Bool):Option Int :=
 bif v6 then (
  some 8
 ) else (
   bnd (decide (a1=a0.dep)) fun x8 =>
   bif x8 then (
    some 4
   ) else (
     some 0
   )
 )
def nE (a0:gS) (a1:Int):Option Int :=
 bno (nT a1 1 1048576) fun x10 =>
 bif (!x10) then (
  jX a0 a1 (!x10)
 ) else (
   bno (nT a0.dep 0 1048576) fun x12 =>
   bif (!x12) then (
    jX a0 a1 (!x12)
   ) else (
     bno (nT a0.weight 1 256) fun x14 =>
     jX a0 a1 (!x14)
   )
 )

def mX (a0:bN) (a1:Int):Option Bool :=
 bnd (decide ((-1) ≤ a1)) fun x1 =>
 bnd (decide (a1 < (a0.Cells.length:Int))) fun x2 =>
 bnd (x1 && x2) fun x3 =>
 some x3

def oK (a0:bN) (a1:aP):Option Bool :=
 bno (gd ((!a1.Live) == true) (mX a0 a1.Link) default) fun x1 =>
 bnd ((!a1.Live) && (!x1)) fun x2 =>
 some x2

def dH (a0:(List aP)) (a1:bN):Nat → Int → Option Int
 | 0,_=>none
 | n0 + 1,v7 =>
   bnd (decide (v7 < (a0.length:Int))) fun x14 =>
   bif x14 then (
    bno (gix a0 v7) fun x16 =>
    bno (oK a1 x16) fun x17 =>
    bif x17 then (
     some v7
    ) else (
      bnd (IntKind.wrap .i64 (v7 + 1)) fun x19 =>
      (dH a0 a1 n0) x19
    )
   ) else (
     some (-1)
   )
def fO (a0:(List aP)) (a1:bN):Option Int :=
 dH a0 a1 fuel 0

def fC (a0:(List aP)) (a1:bN):Option Bool :=
 bno (fO a0 a1) fun x1 =>
 bnd (decide (0 ≤ x1)) fun x2 =>
 some x2

def tS (a0:aP):Option Bool :=
 bif a0.Live then (
  bnd (!decide (a0.Link=0)) fun x2 =>
  some x2
 ) else (
   bnd (!decide (a0.Value=0)) fun x3 =>
   some x3
 )

def dT (a0:(List aP)):Nat → Int → Option Int
 | 0,_=>none
 | n0 + 1,v7 =>
   bnd (decide (v7 < (a0.length:Int))) fun x14 =>
   bif x14 then (
    bno (gix a0 v7) fun x16 =>
    bno (tS x16) fun x17 =>
    bif x17 then (
     some v7
    ) else (
      bnd (IntKind.wrap .i64 (v7 + 1)) fun x19 =>
      (dT a0 n0) x19
    )
   ) else (
     some (-1)
   )
def gA (a0:(List aP)):Option Int :=
 dT a0 fuel 0

def fP (a0:(List aP)):Option Bool :=
 bno (gA a0) fun x1 =>
 bnd (decide (0 ≤ x1)) fun x2 =>
 some x2

def iB (a0:(List Int)) (a1:Int):Nat → Int → Option Int
 | 0,_=>none
 | n0 + 1,v7 =>
   bnd (decide (v7 < (a0.length:Int))) fun x14 =>
   bif x14 then (
    bno (gix a0 v7) fun x16 =>
    bnd (decide (a1=x16)) fun x17 =>
    bif x17 then (
     some v7
    ) else (
      bnd (IntKind.wrap .i64 (v7 + 1)) fun x19 =>
      (iB a0 a1 n0) x19
    )
   ) else (
     some (-1)
   )
def nB (a0:(List Int)) (a1:Int):Option Int :=
 iB a0 a1 fuel 0

def lU (a0:(List Int)) (a1:Int):Option Bool :=
 bno (nB a0 a1) fun x1 =>
 bnd (decide (0 ≤ x1)) fun x2 =>
 some x2

def jP (a0:bN):Nat → (List Int) → Int → Option ((List Int) × Bool)
 | 0,_,_=>none
 | n0 + 1,v9,v10 =>
   bnd (decide (v10=(-1))) fun x19 =>
   bif x19 then (
    some (v9,true)
   ) else (
     bno (gix a0.Cells v10) fun x21 =>
     bno (gd (x21.Live == false) (lU v9 v10) default) fun x22 =>
     bnd (x21.Live || x22) fun x23 =>
     bif x23 then (
      some (v9,false)
     ) else (
       bno (app 8 v9 ([v10]:(List Int))) fun x25 =>
       bno (gix a0.Cells v10) fun x26 =>
       (jP a0 n0) x25 x26.Link
     )
   )
def oT (a0:bN):Option ((List Int) × Bool) :=
 jP a0 fuel ([]:(List Int)) a0.Free

def mI (a0:bN):Nat → Int → Int → Option Int
 | 0,_,_=>none
 | n1 + 1,v17,v18 =>
   bnd (decide (v18 < (a0.Cells.length:Int))) fun x26 =>
   bif x26 then (
    bno (gix a0.Cells v18) fun x28 =>
    bif x28.Live then (
     bnd (IntKind.wrap .i64 (v17 + 1)) fun x30 =>
     bnd (IntKind.wrap .i64 (v18 + 1)) fun x31 =>
     (mI a0 n1) x30 x31
    ) else (
      bnd (IntKind.wrap .i64 (v18 + 1)) fun x32 =>
      (mI a0 n1) v17 x32
    )
   ) else (
     bno (oT a0) fun x33 =>
     bnd (!decide (v17=a0.Used)) fun x34 =>
     bnd ((!x33.2) || x34) fun x35 =>
     bnd (IntKind.wrap .i64 (v17 + (x33.1.length:Int))) fun x36 =>
     bnd (!decide (x36=(a0.Cells.length:Int))) fun x37 =>
     bnd (x35 || x37) fun x38 =>
     bif x38 then (
      some 10
     ) else (
       some 0
     )
   )
def oW (a0:bN) (v6:Bool):Option Int :=
 bif v6 then (
  some 8
 ) else (
   bno (fP a0.Cells) fun x8 =>
   bif x8 then (
    some 4
   ) else (
     mI a0 fuel 0 0
   )
 )
def pW (a0:bN):Option Int :=
 bnd (decide (64 < (a0.Cells.length:Int))) fun x1 =>
 bif x1 then (
  some 5
 ) else (
   bno (mX a0 a0.Free) fun x40 =>
   bif (!x40) then (
    oW a0 (!x40)
   ) else (
     bno (fC a0.Cells a0) fun x42 =>
     oW a0 x42
   )
 )

def mZ (a0:bN):Nat → (List Int) → Int → Option (List Int)
 | 0,_,_=>none
 | n0 + 1,v11,v12 =>
   bnd (decide (v12 < (a0.Cells.length:Int))) fun x20 =>
   bif x20 then (
    bno (gix a0.Cells v12) fun x22 =>
    bif x22.Live then (
     bno (app 8 v11 ([v12]:(List Int))) fun x24 =>
     bnd (IntKind.wrap .i64 (v12 + 1)) fun x25 =>
     (mZ a0 n0) x24 x25
    ) else (
      bnd (IntKind.wrap .i64 (v12 + 1)) fun x26 =>
      (mZ a0 n0) v11 x26
    )
   ) else (
     some v11
   )
def qZ (a0:bN):Option (List Int) :=
 bno (pW a0) fun x1 =>
 bnd (!decide (x1=0)) fun x2 =>
 bif x2 then (
  some []
 ) else (
   mZ a0 fuel ([]:(List Int)) 0
 )

def jK (a0:Int) (a6:(List aM)) (x1:(List Int)):Nat → Int → Option Int
 | 0,_=>none
 | n0 + 1,v11 =>
   bnd (decide (v11 < (x1.length:Int))) fun x21 =>
   bif x21 then (
    bno (gix x1 v11) fun x23 =>
    bno (gix a6 x23) fun x24 =>
    chk (a6.length=64)<|bno (a6[(x23:Int).toNat]?) fun x26 =>
    bnd (decide (x26.id=a0)) fun x27 =>
    bif x27 then (
     some x23
    ) else (
      bnd (IntKind.wrap .i64 (v11 + 1)) fun x29 =>
      (jK a0 a6 x1 n0) x29
    )
   ) else (
     some (-1)
   )
def gC (a0:Int) (a1:Int) (a2:Int) (a3:(List aP)) (a4:Int) (a5:Int) (a6:(List aM)) (a7:Int) (a8:(List Int)):Option Int :=
 bno (qZ (⟨a3,a4,a5⟩:bN)) fun x1 =>
 jK a0 a6 x1 fuel 0

def mD (a0:Int) (a1:Int) (a2:(List aP)) (a3:Int) (a4:Int) (a5:(List aM)) (a6:Int) (a7:(List Int)):Option Int :=
 some a4

def iP (a0:Int) (a1:Int) (a2:Int) (a3:(List aP)) (a4:Int) (a5:Int) (a6:(List aM)) (a7:Int) (a8:(List Int)):Nat → Nat → Option (Int × Int × (List aP) × Int × Int × (List aM) × Int × (List Int))
 | 0,_=>none
 | n0 + 1,v14 =>
   bno (a6[v14]?) fun x20 =>
   bnd (!decide (x20.next=a0)) fun x21 =>
   bif x21 then (
    bno (a6[v14]?) fun x23 =>
    bno (gix a6 x23.next) fun x24 =>
    (iP a0 a1 a2 a3 a4 a5 a6 a7 a8 n0) ((x23.next:Int).toNat)
   ) else (
     bno (gix a6 a0) fun x25 =>
     bno (a6[(a0:Int).toNat]?) fun x26 =>
     bno (a6[v14]?) fun x27 =>
     bnd (a6.set v14 (⟨x27.id,x27.up,x27.first,x26.next,x27.weight,x27.closed⟩:aM)) fun x28 =>
     some (a1,a2,a3,a4,a5,x28,a7,a8)
   )
def iO (a0:Int) (a1:Int) (a2:Int) (a3:(List aP)) (a4:Int) (a5:Int) (a6:(List aM)) (a7:Int) (a8:(List Int)):Nat → Nat → Option (Int × Int × (List aP) × Int × Int × (List aM) × Int × (List Int))
 | 0,_=>none
 | n1 + 1,v42 =>
   bno (a6[v42]?) fun x48 =>
   bnd (!decide (x48.next=a0)) fun x49 =>
   bif x49 then (
    bno (a6[v42]?) fun x51 =>
    bno (gix a6 x51.next) fun x52 =>
    (iO a0 a1 a2 a3 a4 a5 a6 a7 a8 n1) ((x51.next:Int).toNat)
   ) else (
     bno (gix a6 a0) fun x53 =>
     bno (a6[(a0:Int).toNat]?) fun x54 =>
     bno (a6[v42]?) fun x55 =>
     bnd (a6.set v42 (⟨x55.id,x55.up,x55.first,x54.next,x55.weight,x55.closed⟩:aM)) fun x56 =>
     some (a1,a2,a3,a4,a5,x56,a7,a8)
   )
def jY (a0:Int) (a1:Int) (a2:Int) (a3:(List aP)) (a4:Int) (a5:Int) (a6:(List aM)) (a7:Int) (a8:(List Int)):Option (Int × Int × (List aP) × Int × Int × (List aM) × Int × (List Int)) :=
 bno (gix a6 a0) fun x1 =>
 chk (a6.length=64)<|bno (a6[(a0:Int).toNat]?) fun x3 =>
 bnd (decide (x3.up=(-1))) fun x4 =>
 bif x4 then (
  bnd (!decide (a7=a0)) fun x6 =>
  bif x6 then (
   bno (gix a6 a7) fun x8 =>
   iP a0 a1 a2 a3 a4 a5 a6 a7 a8 fuel ((a7:Int).toNat)
  ) else (
    bno (gix a6 a0) fun x29 =>
    bno (a6[(a0:Int).toNat]?) fun x30 =>
    some (a1,a2,a3,a4,a5,a6,x30.next,a8)
  )
 ) else (
   bno (gix a6 x3.up) fun x31 =>
   bno (a6[(x3.up:Int).toNat]?) fun x32 =>
   bnd (!decide (x32.first=a0)) fun x33 =>
   bif x33 then (
    bno (a6[(x3.up:Int).toNat]?) fun x35 =>
    bno (gix a6 x35.first) fun x36 =>
    iO a0 a1 a2 a3 a4 a5 a6 a7 a8 fuel ((x35.first:Int).toNat)
   ) else (
     bno (gix a6 a0) fun x57 =>
     bno (a6[(a0:Int).toNat]?) fun x58 =>
     bno (a6[(x3.up:Int).toNat]?) fun x59 =>
     bnd (a6.set ((x3.up:Int).toNat) (⟨x59.id,x59.up,x58.next,x59.next,x59.weight,x59.closed⟩:aM)) fun x60 =>
     some (a1,a2,a3,a4,a5,x60,a7,a8)
   )
 )

def mS (a0:Int) (a1:Int) (a2:Int) (a3:Int) (a4:(List aP)) (a5:Int) (a6:Int) (a7:(List aM)) (a8:Int) (a9:(List Int)):Option (Int × Int × (List aP) × Int × Int × (List aM) × Int × (List Int)) :=
 bnd (decide (a1=(-1))) fun x1 =>
 bif x1 then (
  chk (a7.length=64)<|bno (gix a7 a0) fun x4 =>
  bno (a7[(a0:Int).toNat]?) fun x5 =>
  bnd (a7.set ((a0:Int).toNat) (⟨x5.id,a1,x5.first,x5.next,x5.weight,x5.closed⟩:aM)) fun x6 =>
  bno (gix x6 a0) fun x7 =>
  bno (x6[(a0:Int).toNat]?) fun x8 =>
  bnd (x6.set ((a0:Int).toNat) (⟨x8.id,x8.up,x8.first,a8,x8.weight,x8.closed⟩:aM)) fun x9 =>
  some (a2,a3,a4,a5,a6,x9,a0,a9)
 ) else (
   bno (gix a7 a1) fun x10 =>
   chk (a7.length=64)<|bno (a7[(a1:Int).toNat]?) fun x12 =>
   bno (gix a7 a0) fun x13 =>
   bno (a7[(a0:Int).toNat]?) fun x14 =>
   bnd (a7.set ((a0:Int).toNat) (⟨x14.id,a1,x14.first,x14.next,x14.weight,x14.closed⟩:aM)) fun x15 =>
   bno (gix x15 a0) fun x16 =>
   bno (x15[(a0:Int).toNat]?) fun x17 =>
   bnd (x15.set ((a0:Int).toNat) (⟨x17.id,x17.up,x17.first,x12.first,x17.weight,x17.closed⟩:aM)) fun x18 =>
   bno (x18[(a1:Int).toNat]?) fun x19 =>
   bnd (x18.set ((a1:Int).toNat) (⟨x19.id,x19.up,a0,x19.next,x19.weight,x19.closed⟩:aM)) fun x20 =>
   some (a2,a3,a4,a5,a6,x20,a8,a9)
 )

def gZ (a0:Int) (a1:Int) (a2:Int) (a3:Int) (a4:(List aP)) (a5:Int) (a6:Int) (a7:(List aM)) (a8:Int) (a9:(List Int)):Option (Int × Int × (List aP) × Int × Int × (List aM) × Int × (List Int)) :=
 bno (jY a0 a2 a3 a4 a5 a6 a7 a8 a9) fun x1 =>
 bno (mS a0 a1 x1.1 x1.2.1 x1.2.2.1 x1.2.2.2.1 x1.2.2.2.2.1 x1.2.2.2.2.2.1 x1.2.2.2.2.2.2.1 x1.2.2.2.2.2.2.2) fun x2 =>
 some (x2.1,x2.2.1,x2.2.2.1,x2.2.2.2.1,x2.2.2.2.2.1,x2.2.2.2.2.2.1,x2.2.2.2.2.2.2.1,x2.2.2.2.2.2.2.2)

def gT (a0:(List aP)):Option (List aP) :=
 yF a0 (
  some ([]:(List aP))
 ) (
   bno (app 24 ([]:(List aP)) a0) fun x3 =>
   some x3
 )

def mY (a0:bN):Option ((List aP) × Int × Int) :=
 bno (gT a0.Cells) fun x1 =>
 some (x1,a0.Free,a0.Used)

def pF (a0:bN) (a1:Int):Option Bool :=
 bnd (decide (0 ≤ a1)) fun x1 =>
 bnd (decide (a1 < (a0.Cells.length:Int))) fun x2 =>
 bnd (x1 && x2) fun x3 =>
 bno (gd (x3 == true) (gix a0.Cells a1) default) fun x4 =>
 bnd (x3 && x4.Live) fun x5 =>
 some x5

def rA (a0:bN) (a1:Int):Option (bN × Int) :=
 bno (mY a0) fun x1 =>
 bno (pW a0) fun x2 =>
 bnd (!decide (x2=0)) fun x3 =>
 bif x3 then (
  some ((⟨x1.1,x1.2.1,x1.2.2⟩:bN),x2)
 ) else (
   bno (pF a0 a1) fun x5 =>
   bif (!x5) then (
    some ((⟨x1.1,x1.2.1,x1.2.2⟩:bN),6)
   ) else (
     bno (gix x1.1 a1) fun x7 =>
     bno (x1.1[(a1:Int).toNat]?) fun x8 =>
     bnd (x1.1.set ((a1:Int).toNat) (⟨false,0,x1.2.1⟩:aP)) fun x9 =>
     bnd (IntKind.wrap .i64 (x1.2.2 - 1)) fun x10 =>
     some ((⟨x9,a1,x10⟩:bN),0)
   )
 )

def nF (a0:Int) (a1:Int):Option Bool :=
 bnd (decide (a0=a1)) fun x1 =>
 some x1

def fB (a0:(List Int)) (a1:Int):Nat → Int → Option Int
 | 0,_=>none
 | n0 + 1,v7 =>
   bnd (decide (v7 < (a0.length:Int))) fun x14 =>
   bif x14 then (
    bno (gix a0 v7) fun x16 =>
    bno (nF x16 a1) fun x17 =>
    bif x17 then (
     some v7
    ) else (
      bnd (IntKind.wrap .i64 (v7 + 1)) fun x19 =>
      (fB a0 a1 n0) x19
    )
   ) else (
     some (-1)
   )
def iX (a0:(List Int)) (a1:Int):Option Int :=
 fB a0 a1 fuel 0

def eC (a1:Int):Nat → (List Int) → Int → Int → Option (List Int)
 | 0,_,_,_=>none
 | n0 + 1,v17,v18,v19 =>
   bnd (decide (v19 < (v17.length:Int))) fun x32 =>
   bif x32 then (
    bno (gix v17 v19) fun x34 =>
    bno (v17[(v19:Int).toNat]?) fun x35 =>
    bno (nF x35 a1) fun x36 =>
    bif (!x36) then (
     bno (gix v17 v18) fun x38 =>
     bno (v17[(v18:Int).toNat]?) fun x39 =>
     bnd (v17.set ((v18:Int).toNat) x35) fun x40 =>
     bnd (IntKind.wrap .i64 (v18 + 1)) fun x41 =>
     bnd (IntKind.wrap .i64 (v19 + 1)) fun x42 =>
     (eC a1 n0) x40 x41 x42
    ) else (
      bnd (IntKind.wrap .i64 (v19 + 1)) fun x43 =>
      (eC a1 n0) v17 v18 x43
    )
   ) else (
     bno (cut v17 0 v18) fun x44 =>
     bno (cut x44 0 v18) fun x45 =>
     some x45
   )
def gE (a0:(List Int)) (a1:Int):Option (List Int) :=
 bno (iX a0 a1) fun x1 =>
 bnd (decide (x1=(-1))) fun x2 =>
 bif x2 then (
  some a0
 ) else (
   bnd (IntKind.wrap .i64 (x1 + 1)) fun x4 =>
   eC a1 fuel a0 x1 x4
 )

def kE (a0:Int) (v53:Int) (v63:(List Int)):Nat → Int → Int → Int → (List aP) → Int → Int → (List aM) → Int → (List Int) → Option (Int × Int × (List aP) × Int × Int × (List aM) × Int × (List Int))
 | 0,_,_,_,_,_,_,_,_,_=>none
 | n4 + 1,v92,v93,v94,v95,v96,v97,v98,v99,v100 =>
   bnd (decide (v92 < (v63.length:Int))) fun x120 =>
   bif x120 then (
    bno (gix v63 v92) fun x122 =>
    bno (v63[(v92:Int).toNat]?) fun x123 =>
    bno (gix v98 a0) fun x124 =>
    chk (v98.length=64)<|bno (v98[(a0:Int).toNat]?) fun x126 =>
    bno (gix v98 x123) fun x127 =>
    bno (v98[(x123:Int).toNat]?) fun x128 =>
    bnd (IntKind.wrap .i64 (x126.weight * x128.weight)) fun x129 =>
    bno (quoI .i64 x129 v53) fun x130 =>
    bnd (max x130 1) fun x131 =>
    bno (gix v98 x123) fun x132 =>
    bno (v98[(x123:Int).toNat]?) fun x133 =>
    bnd (v98.set ((x123:Int).toNat) (⟨x133.id,x133.up,x133.first,x133.next,x131,x133.closed⟩:aM)) fun x134 =>
    bno (gix x134 a0) fun x135 =>
    bno (x134[(a0:Int).toNat]?) fun x136 =>
    bno (gZ x123 x136.up v93 v94 v95 v96 v97 x134 v99 v100) fun x137 =>
    bnd (IntKind.wrap .i64 (v92 + 1)) fun x138 =>
    (kE a0 v53 v63 n4) x138 x137.1 x137.2.1 x137.2.2.1 x137.2.2.2.1 x137.2.2.2.2.1 x137.2.2.2.2.2.1 x137.2.2.2.2.2.2.1 x137.2.2.2.2.2.2.2
   ) else (
     bno (jY a0 v93 v94 v95 v96 v97 v98 v99 v100) fun x139 =>
     bno (rA (⟨x139.2.2.1,x139.2.2.2.1,x139.2.2.2.2.1⟩:bN) a0) fun x140 =>
     chk (x139.2.2.2.2.2.1.length=64)<|bno (gE x139.2.2.2.2.2.2.2 a0) fun x142 =>
     some (x139.1,x139.2.1,x140.1.Cells,x140.1.Free,x140.1.Used,x139.2.2.2.2.2.1,x139.2.2.2.2.2.2.1,x142)
   )
def kF (a0:Int) (a1:Int) (a2:Int) (a3:(List aP)) (a4:Int) (a5:Int) (a6:(List aM)) (a7:Int) (a8:(List Int)) (v53:Int):Nat → Int → (List Int) → Option (Int × Int × (List aP) × Int × Int × (List aM) × Int × (List Int))
 | 0,_,_=>none
 | n3 + 1,v62,v63 =>
   bnd (!decide (v62=(-1))) fun x69 =>
   bif x69 then (
    bno (gix a6 v62) fun x71 =>
    bno (a6[(v62:Int).toNat]?) fun x72 =>
    bno (app 8 v63 ([v62]:(List Int))) fun x73 =>
    (kF a0 a1 a2 a3 a4 a5 a6 a7 a8 v53 n3) x72.next x73
   ) else (
     kE a0 v53 v63 fuel 0 a1 a2 a3 a4 a5 a6 a7 a8
   )
def kC (a0:Int) (v53:Int) (v152:(List Int)):Nat → Int → Int → Int → (List aP) → Int → Int → (List aM) → Int → (List Int) → Option (Int × Int × (List aP) × Int × Int × (List aM) × Int × (List Int))
 | 0,_,_,_,_,_,_,_,_,_=>none
 | n6 + 1,v181,v182,v183,v184,v185,v186,v187,v188,v189 =>
   bnd (decide (v181 < (v152.length:Int))) fun x209 =>
   bif x209 then (
    bno (gix v152 v181) fun x211 =>
    bno (v152[(v181:Int).toNat]?) fun x212 =>
    bno (gix v187 a0) fun x213 =>
    chk (v187.length=64)<|bno (v187[(a0:Int).toNat]?) fun x215 =>
    bno (gix v187 x212) fun x216 =>
    bno (v187[(x212:Int).toNat]?) fun x217 =>
    bnd (IntKind.wrap .i64 (x215.weight * x217.weight)) fun x218 =>
    bno (quoI .i64 x218 v53) fun x219 =>
    bnd (max x219 1) fun x220 =>
    bno (gix v187 x212) fun x221 =>
    bno (v187[(x212:Int).toNat]?) fun x222 =>
    bnd (v187.set ((x212:Int).toNat) (⟨x222.id,x222.up,x222.first,x222.next,x220,x222.closed⟩:aM)) fun x223 =>
    bno (gix x223 a0) fun x224 =>
    bno (x223[(a0:Int).toNat]?) fun x225 =>
    bno (gZ x212 x225.up v182 v183 v184 v185 v186 x223 v188 v189) fun x226 =>
    bnd (IntKind.wrap .i64 (v181 + 1)) fun x227 =>
    (kC a0 v53 v152 n6) x227 x226.1 x226.2.1 x226.2.2.1 x226.2.2.2.1 x226.2.2.2.2.1 x226.2.2.2.2.2.1 x226.2.2.2.2.2.2.1 x226.2.2.2.2.2.2.2
   ) else (
     bno (jY a0 v182 v183 v184 v185 v186 v187 v188 v189) fun x228 =>
     bno (rA (⟨x228.2.2.1,x228.2.2.2.1,x228.2.2.2.2.1⟩:bN) a0) fun x229 =>
     chk (x228.2.2.2.2.2.1.length=64)<|bno (gE x228.2.2.2.2.2.2.2 a0) fun x231 =>
     some (x228.1,x228.2.1,x229.1.Cells,x229.1.Free,x229.1.Used,x228.2.2.2.2.2.1,x228.2.2.2.2.2.2.1,x231)
   )
def kD (a0:Int) (a1:Int) (a2:Int) (a3:(List aP)) (a4:Int) (a5:Int) (a6:(List aM)) (a7:Int) (a8:(List Int)) (v53:Int):Nat → Int → (List Int) → Option (Int × Int × (List aP) × Int × Int × (List aM) × Int × (List Int))
 | 0,_,_=>none
 | n5 + 1,v151,v152 =>
   bnd (!decide (v151=(-1))) fun x158 =>
   bif x158 then (
    bno (gix a6 v151) fun x160 =>
    bno (a6[(v151:Int).toNat]?) fun x161 =>
    bno (app 8 v152 ([v151]:(List Int))) fun x162 =>
    (kD a0 a1 a2 a3 a4 a5 a6 a7 a8 v53 n5) x161.next x162
   ) else (
     kC a0 v53 v152 fuel 0 a1 a2 a3 a4 a5 a6 a7 a8
   )
def lV (a0:Int) (a1:Int) (a2:Int) (a3:(List aP)) (a4:Int) (a5:Int) (a6:(List aM)) (a7:Int) (a8:(List Int)) (v53:Int):Option (Int × Int × (List aP) × Int × Int × (List aM) × Int × (List Int)) :=
 bnd (decide (a0=(-1))) fun x54 =>
 bif x54 then (
  chk (a6.length=64)<|kF a0 a1 a2 a3 a4 a5 a6 a7 a8 v53 fuel a7 ([]:(List Int))
 ) else (
   bno (gix a6 a0) fun x143 =>
   chk (a6.length=64)<|bno (a6[(a0:Int).toNat]?) fun x145 =>
   kD a0 a1 a2 a3 a4 a5 a6 a7 a8 v53 fuel x145.first ([]:(List Int))
 )
def kB (a0:Int) (a1:Int) (a2:Int) (a3:(List aP)) (a4:Int) (a5:Int) (a6:(List aM)) (a7:Int) (a8:(List Int)):Nat → Int → Int → Option (Int × Int × (List aP) × Int × Int × (List aM) × Int × (List Int))
 | 0,_,_=>none
 | n7 + 1,v242,v243 =>
   bnd (!decide (v242=(-1))) fun x251 =>
   bif x251 then (
    bno (gix a6 v242) fun x253 =>
    bno (a6[(v242:Int).toNat]?) fun x254 =>
    bno (gix a6 v242) fun x255 =>
    bno (a6[(v242:Int).toNat]?) fun x256 =>
    bnd (IntKind.wrap .i64 (v243 + x256.weight)) fun x257 =>
    (kB a0 a1 a2 a3 a4 a5 a6 a7 a8 n7) x254.next x257
   ) else (
     lV a0 a1 a2 a3 a4 a5 a6 a7 a8 v243
   )
def jZ (a0:Int) (a1:Int) (a2:Int) (a3:(List aP)) (a4:Int) (a5:Int) (a6:(List aM)) (a7:Int) (a8:(List Int)):Nat → Int → Int → Option (Int × Int × (List aP) × Int × Int × (List aM) × Int × (List Int))
 | 0,_,_=>none
 | n8 + 1,v268,v269 =>
   bnd (!decide (v268=(-1))) fun x277 =>
   bif x277 then (
    bno (gix a6 v268) fun x279 =>
    bno (a6[(v268:Int).toNat]?) fun x280 =>
    bno (gix a6 v268) fun x281 =>
    bno (a6[(v268:Int).toNat]?) fun x282 =>
    bnd (IntKind.wrap .i64 (v269 + x282.weight)) fun x283 =>
    (jZ a0 a1 a2 a3 a4 a5 a6 a7 a8 n8) x280.next x283
   ) else (
     lV a0 a1 a2 a3 a4 a5 a6 a7 a8 v269
   )
def mB (a0:Int) (a1:Int) (a2:Int) (a3:(List aP)) (a4:Int) (a5:Int) (a6:(List aM)) (a7:Int) (a8:(List Int)):Option (Int × Int × (List aP) × Int × Int × (List aM) × Int × (List Int)) :=
 bnd (decide (a0=(-1))) fun x232 =>
 bif x232 then (
  chk (a6.length=64)<|kB a0 a1 a2 a3 a4 a5 a6 a7 a8 fuel a7 0
 ) else (
   bno (gix a6 a0) fun x258 =>
   chk (a6.length=64)<|bno (a6[(a0:Int).toNat]?) fun x260 =>
   jZ a0 a1 a2 a3 a4 a5 a6 a7 a8 fuel x260.first 0
 )

def sI (a0:bN) (a1:Int):Option (bN × Int × Int) :=
 bno (mY a0) fun x1 =>
 bno (pW a0) fun x2 =>
 bnd (!decide (x2=0)) fun x3 =>
 bif x3 then (
  some ((⟨x1.1,x1.2.1,x1.2.2⟩:bN),0,x2)
 ) else (
   bnd (decide (64 ≤ a0.Used)) fun x5 =>
   bif x5 then (
    some ((⟨x1.1,x1.2.1,x1.2.2⟩:bN),0,7)
   ) else (
     bnd (IntKind.wrap .i64 (x1.2.2 + 1)) fun x7 =>
     bnd (decide (x1.2.1=(-1))) fun x8 =>
     bif x8 then (
      bno (app 24 x1.1 (([(⟨true,a1,0⟩:aP)]:(List aP)))) fun x10 =>
      some (((⟨x10,x1.2.1,x7⟩:bN),(a0.Cells.length:Int),0))
     ) else (
       bno (gix x1.1 x1.2.1) fun x11 =>
       bno (x1.1[(x1.2.1:Int).toNat]?) fun x12 =>
       bno (gix x1.1 x1.2.1) fun x13 =>
       bno (x1.1[(x1.2.1:Int).toNat]?) fun x14 =>
       bnd (x1.1.set ((x1.2.1:Int).toNat) (⟨true,a1,0⟩:aP)) fun x15 =>
       some ((⟨x15,x12.Link,x7⟩:bN),x1.2.1,0)
     )
   )
 )

def iY (a1:Int) (a7:(List aM)):Nat → Int → Option Bool
 | 0,_=>none
 | n0 + 1,v8 =>
   bnd (!decide (v8=(-1))) fun x16 =>
   bif x16 then (
    bno (gix a7 v8) fun x18 =>
    chk (a7.length=64)<|bno (a7[(v8:Int).toNat]?) fun x20 =>
    bnd (decide (x20.up=a1)) fun x21 =>
    bif x21 then (
     some true
    ) else (
      (iY a1 a7 n0) x20.up
    )
   ) else (
     some false
   )
def nU (a0:Int) (a1:Int) (a2:Int) (a3:Int) (a4:(List aP)) (a5:Int) (a6:Int) (a7:(List aM)) (a8:Int) (a9:(List Int)):Option Bool :=
 iY a1 a7 fuel a0

def hC (a0:Int) (v39:(List Int)):Nat → Int → Int → Int → (List aP) → Int → Int → (List aM) → Int → (List Int) → Option (Int × Int × (List aP) × Int × Int × (List aM) × Int × (List Int))
 | 0,_,_,_,_,_,_,_,_,_=>none
 | n3 + 1,v59,v60,v61,v62,v63,v64,v65,v66,v67 =>
   bnd (decide (v59 < (v39.length:Int))) fun x77 =>
   bif x77 then (
    bno (gix v39 v59) fun x79 =>
    bno (v39[(v59:Int).toNat]?) fun x80 =>
    bnd (!decide (x80=a0)) fun x81 =>
    bif x81 then (
     bno (gZ x80 a0 v60 v61 v62 v63 v64 v65 v66 v67) fun x83 =>
     bnd (IntKind.wrap .i64 (v59 + 1)) fun x84 =>
     (hC a0 v39 n3) x84 x83.1 x83.2.1 x83.2.2.1 x83.2.2.2.1 x83.2.2.2.2.1 x83.2.2.2.2.2.1 x83.2.2.2.2.2.2.1 x83.2.2.2.2.2.2.2
    ) else (
      bnd (IntKind.wrap .i64 (v59 + 1)) fun x85 =>
      (hC a0 v39 n3) x85 v60 v61 v62 v63 v64 v65 v66 v67
    )
   ) else (
     some (v60,v61,v62,v63,v64,v65,v66,v67)
   )
def jB (a0:Int) (x25:(Int × Int × (List aP) × Int × Int × (List aM) × Int × (List Int))) (x29:(List aM)):Nat → Int → (List Int) → Option (Int × Int × (List aP) × Int × Int × (List aM) × Int × (List Int))
 | 0,_,_=>none
 | n2 + 1,v38,v39 =>
   bnd (!decide (v38=(-1))) fun x45 =>
   bif x45 then (
    bno (gix x29 v38) fun x47 =>
    bno (x29[(v38:Int).toNat]?) fun x48 =>
    bno (app 8 v39 ([v38]:(List Int))) fun x49 =>
    (jB a0 x25 x29 n2) x48.next x49
   ) else (
     hC a0 v39 fuel 0 x25.1 x25.2.1 x25.2.2.1 x25.2.2.2.1 x25.2.2.2.2.1 x29 x25.2.2.2.2.2.2.1 x25.2.2.2.2.2.2.2
   )
def hB (a0:Int) (v94:(List Int)):Nat → Int → Int → Int → (List aP) → Int → Int → (List aM) → Int → (List Int) → Option (Int × Int × (List aP) × Int × Int × (List aM) × Int × (List Int))
 | 0,_,_,_,_,_,_,_,_,_=>none
 | n5 + 1,v114,v115,v116,v117,v118,v119,v120,v121,v122 =>
   bnd (decide (v114 < (v94.length:Int))) fun x132 =>
   bif x132 then (
    bno (gix v94 v114) fun x134 =>
    bno (v94[(v114:Int).toNat]?) fun x135 =>
    bnd (!decide (x135=a0)) fun x136 =>
    bif x136 then (
     bno (gZ x135 a0 v115 v116 v117 v118 v119 v120 v121 v122) fun x138 =>
     bnd (IntKind.wrap .i64 (v114 + 1)) fun x139 =>
     (hB a0 v94 n5) x139 x138.1 x138.2.1 x138.2.2.1 x138.2.2.2.1 x138.2.2.2.2.1 x138.2.2.2.2.2.1 x138.2.2.2.2.2.2.1 x138.2.2.2.2.2.2.2
    ) else (
      bnd (IntKind.wrap .i64 (v114 + 1)) fun x140 =>
      (hB a0 v94 n5) x140 v115 v116 v117 v118 v119 v120 v121 v122
    )
   ) else (
     some (v115,v116,v117,v118,v119,v120,v121,v122)
   )
def jA (a0:Int) (x25:(Int × Int × (List aP) × Int × Int × (List aM) × Int × (List Int))) (x29:(List aM)):Nat → Int → (List Int) → Option (Int × Int × (List aP) × Int × Int × (List aM) × Int × (List Int))
 | 0,_,_=>none
 | n4 + 1,v93,v94 =>
   bnd (!decide (v93=(-1))) fun x100 =>
   bif x100 then (
    bno (gix x29 v93) fun x102 =>
    bno (x29[(v93:Int).toNat]?) fun x103 =>
    bno (app 8 v94 ([v93]:(List Int))) fun x104 =>
    (jA a0 x25 x29 n4) x103.next x104
   ) else (
     hB a0 v94 fuel 0 x25.1 x25.2.1 x25.2.2.1 x25.2.2.2.1 x25.2.2.2.2.1 x29 x25.2.2.2.2.2.2.1 x25.2.2.2.2.2.2.2
   )
def kT (a0:Int) (x1:Int) (v7:Int) (v8:Bool) (v17:Int) (v18:Int) (v19:(List aP)) (v20:Int) (v21:Int) (v22:(List aM)) (v23:Int) (v24:(List Int)):Option (Int × Int × (List aP) × Int × Int × (List aM) × Int × (List Int)) :=
 bno (gZ a0 x1 v17 v18 v19 v20 v21 v22 v23 v24) fun x25 =>
 bno (gix x25.2.2.2.2.2.1 a0) fun x26 =>
 chk (x25.2.2.2.2.2.1.length=64)<|bno (x25.2.2.2.2.2.1[(a0:Int).toNat]?) fun x28 =>
 bnd (x25.2.2.2.2.2.1.set ((a0:Int).toNat) (⟨x28.id,x28.up,x28.first,x28.next,v7,x28.closed⟩:aM)) fun x29 =>
 bif (!v8) then (
  some (x25.1,x25.2.1,x25.2.2.1,x25.2.2.2.1,x25.2.2.2.2.1,x29,x25.2.2.2.2.2.2.1,x25.2.2.2.2.2.2.2)
 ) else (
   bnd (decide (x1=(-1))) fun x31 =>
   bif x31 then (
    jB a0 x25 x29 fuel x25.2.2.2.2.2.2.1 ([]:(List Int))
   ) else (
     bno (gix x29 x1) fun x86 =>
     bno (x29[(x1:Int).toNat]?) fun x87 =>
     jA a0 x25 x29 fuel x87.first ([]:(List Int))
   )
 )
def kU (a0:Int) (a2:Int) (a3:Int) (a4:(List aP)) (a5:Int) (a6:Int) (a7:(List aM)) (a8:Int) (a9:(List Int)) (x1:Int) (v6:Int) (v7:Int) (v8:Bool):Option (Int × Int × (List aP) × Int × Int × (List aM) × Int × (List Int)) :=
 bnd (!decide (x1=(-1))) fun x141 =>
 bno (gd (x141 == true) (nU x1 a0 a2 a3 a4 a5 a6 a7 a8 a9) default) fun x142 =>
 bnd (x141 && x142) fun x143 =>
 bif x143 then (
  bno (gix a7 a0) fun x145 =>
  chk (a7.length=64)<|bno (a7[(a0:Int).toNat]?) fun x147 =>
  bno (gZ x1 x147.up a2 a3 a4 a5 a6 a7 a8 a9) fun x148 =>
  kT a0 x1 v7 v8 x148.1 x148.2.1 x148.2.2.1 x148.2.2.2.1 x148.2.2.2.2.1 x148.2.2.2.2.2.1 x148.2.2.2.2.2.2.1 x148.2.2.2.2.2.2.2
 ) else (
   kT a0 x1 v7 v8 a2 a3 a4 a5 a6 a7 a8 a9
 )
def mK (a0:Int) (a1:gS) (a2:Int) (a3:Int) (a4:(List aP)) (a5:Int) (a6:Int) (a7:(List aM)) (a8:Int) (a9:(List Int)):Option (Int × Int × (List aP) × Int × Int × (List aM) × Int × (List Int)) :=
 bno (gC a1.dep a2 a3 a4 a5 a6 a7 a8 a9) fun x1 =>
 bnd (decide (x1=(-1))) fun x149 =>
 bnd (!decide (a1.dep=0)) fun x150 =>
 bnd (x149 && x150) fun x151 =>
 bif x151 then (
  kU a0 a2 a3 a4 a5 a6 a7 a8 a9 x1 0 16 false
 ) else (
   kU a0 a2 a3 a4 a5 a6 a7 a8 a9 x1 a1.dep a1.weight a1.only
 )

def kL (a0:Int) (a1:gS) (v10:Int) (v11:Int) (v12:(List aP)) (v13:Int) (v14:Int) (v15:(List aM)) (v16:Int) (v17:(List Int)):Option (Int × Int × Int × (List aP) × Int × Int × (List aM) × Int × (List Int)) :=
 bno (sI (⟨v12,v13,v14⟩:bN) a0) fun x18 =>
 bnd (!decide (x18.2.2=0)) fun x19 =>
 bif x19 then (
  some (x18.2.2,v10,v11,v12,v13,v14,v15,v16,v17)
 ) else (
   bno (gix v15 x18.2.1) fun x21 =>
   chk (v15.length=64)<|bno (v15[(x18.2.1:Int).toNat]?) fun x23 =>
   bnd (v15.set ((x18.2.1:Int).toNat) (⟨a0,0,(-1),(-1),16,false⟩:aM)) fun x24 =>
   bno (mS x18.2.1 (-1) v10 v11 x18.1.Cells x18.1.Free x18.1.Used x24 v16 v17) fun x25 =>
   bno (mK x18.2.1 a1 x25.1 x25.2.1 x25.2.2.1 x25.2.2.2.1 x25.2.2.2.2.1 x25.2.2.2.2.2.1 x25.2.2.2.2.2.2.1 x25.2.2.2.2.2.2.2) fun x26 =>
   some (0,x26.1,x26.2.1,x26.2.2.1,x26.2.2.2.1,x26.2.2.2.2.1,x26.2.2.2.2.2.1,x26.2.2.2.2.2.2.1,x26.2.2.2.2.2.2.2)
 )
def lW (a0:Int) (a1:gS) (a2:Int) (a3:Int) (a4:(List aP)) (a5:Int) (a6:Int) (a7:(List aM)) (a8:Int) (a9:(List Int)):Option (Int × Int × Int × (List aP) × Int × Int × (List aM) × Int × (List Int)) :=
 bno (mD a2 a3 a4 a5 a6 a7 a8 a9) fun x27 =>
 bnd (decide (a2 ≤ x27)) fun x28 =>
 bif x28 then (
  chk (a7.length=64)<|bnd (decide ((a9.length:Int)=0)) fun x31 =>
  bif x31 then (
   some (7,a2,a3,a4,a5,a6,a7,a8,a9)
  ) else (
    bno (gix a9 0) fun x33 =>
    bno (a9[(0:Int).toNat]?) fun x34 =>
    bno (mB x34 a2 a3 a4 a5 a6 a7 a8 a9) fun x35 =>
    kL a0 a1 x35.1 x35.2.1 x35.2.2.1 x35.2.2.2.1 x35.2.2.2.2.1 x35.2.2.2.2.2.1 x35.2.2.2.2.2.2.1 x35.2.2.2.2.2.2.2
  )
 ) else (
   kL a0 a1 a2 a3 a4 a5 a6 a7 a8 a9
 )

def iR (a0:Int) (a1:Int) (a2:Int) (a3:Bool) (a4:Int) (a5:Int) (a6:(List aP)) (a7:Int) (a8:Int) (a9:(List aM)) (a10:Int) (a11:(List Int)):Option (Int × Int × Int × (List aP) × Int × Int × (List aM) × Int × (List Int)) :=
 bno (nE (⟨a1,a2,a3⟩:gS) a0) fun x1 =>
 bnd (!decide (x1=0)) fun x2 =>
 bif x2 then (
  some (x1,a4,a5,a6,a7,a8,a9,a10,a11)
 ) else (
   bno (gC a0 a4 a5 a6 a7 a8 a9 a10 a11) fun x4 =>
   bnd (!decide (x4=(-1))) fun x5 =>
   bif x5 then (
    some (13,a4,a5,a6,a7,a8,a9,a10,a11)
   ) else (
     bno (lW a0 (⟨a1,a2,a3⟩:gS) a4 a5 a6 a7 a8 a9 a10 a11) fun x7 =>
     some (x7.1,x7.2.1,x7.2.2.1,x7.2.2.2.1,x7.2.2.2.2.1,x7.2.2.2.2.2.1,x7.2.2.2.2.2.2.1,x7.2.2.2.2.2.2.2.1,x7.2.2.2.2.2.2.2.2)
   )
 )

def oO (a0:Int) (a1:Int) (a2:Int) (a3:Bool) (a4:Int) (a5:Int) (a6:(List aP)) (a7:Int) (a8:Int) (a9:(List aM)) (a10:Int) (a11:(List Int)):Option (Int × Int × Int × (List aP) × Int × Int × (List aM) × Int × (List Int)) :=
 bno (nE (⟨a1,a2,a3⟩:gS) a0) fun x1 =>
 bnd (!decide (x1=0)) fun x2 =>
 bif x2 then (
  some (x1,a4,a5,a6,a7,a8,a9,a10,a11)
 ) else (
   bno (gC a0 a4 a5 a6 a7 a8 a9 a10 a11) fun x4 =>
   bnd (decide (x4=(-1))) fun x5 =>
   bif x5 then (
    bno (lW a0 (⟨a1,a2,a3⟩:gS) a4 a5 a6 a7 a8 a9 a10 a11) fun x7 =>
    some (x7.1,x7.2.1,x7.2.2.1,x7.2.2.2.1,x7.2.2.2.2.1,x7.2.2.2.2.2.1,x7.2.2.2.2.2.2.1,x7.2.2.2.2.2.2.2.1,x7.2.2.2.2.2.2.2.2)
   ) else (
     bno (mK x4 (⟨a1,a2,a3⟩:gS) a4 a5 a6 a7 a8 a9 a10 a11) fun x8 =>
     some (0,x8.1,x8.2.1,x8.2.2.1,x8.2.2.2.1,x8.2.2.2.2.1,x8.2.2.2.2.2.1,x8.2.2.2.2.2.2.1,x8.2.2.2.2.2.2.2)
   )
 )

def iZ (a0:Int) (a1:Int) (a2:Int) (a3:(List aP)) (a4:Int) (a5:Int) (a6:(List aM)) (a7:Int) (a8:(List Int)):Option Int :=
 bnd (decide (a0=(-1))) fun x1 =>
 bif x1 then (
  some 0
 ) else (
   bno (gix a6 a0) fun x3 =>
   chk (a6.length=64)<|bno (a6[(a0:Int).toNat]?) fun x5 =>
   some x5.id
 )

def mO (v16:Int) (v17:Int):Option Int :=
 bnd (IntKind.wrap .u8 v16) fun x18 =>
 bno (gix ([0,1,2,2,3,3,3,3,4,4,4,4,4,4,4,4,5,5,5,5,5,5,5,5,5,5,5,5,5,5,5,5,6,6,6,6,6,6,6,6,6,6,6,6,6,6,6,6,6,6,6,6,6,6,6,6,6,6,6,6,6,6,6,6,7,7,7,7,7,7,7,7,7,7,7,7,7,7,7,7,7,7,7,7,7,7,7,7,7,7,7,7,7,7,7,7,7,7,7,7,7,7,7,7,7,7,7,7,7,7,7,7,7,7,7,7,7,7,7,7,7,7,7,7,7,7,7,7,8,8,8,8,8,8,8,8,8,8,8,8,8,8,8,8,8,8,8,8,8,8,8,8,8,8,8,8,8,8,8,8,8,8,8,8,8,8,8,8,8,8,8,8,8,8,8,8,8,8,8,8,8,8,8,8,8,8,8,8,8,8,8,8,8,8,8,8,8,8,8,8,8,8,8,8,8,8,8,8,8,8,8,8,8,8,8,8,8,8,8,8,8,8,8,8,8,8,8,8,8,8,8,8,8,8,8,8,8,8,8,8,8,8,8,8,8,8,8,8,8,8,8,8,8,8,8,8]:List UInt8) x18) fun x19 =>
 bnd (IntKind.wrap .i64 (x19.toNat:Int)) fun x20 =>
 bnd (IntKind.wrap .i64 (v17 + x20)) fun x21 =>
 some x21
def mP (v10:Int) (v11:Int):Option Int :=
 bnd (decide (256 ≤ v10)) fun x22 =>
 bif x22 then (
  bno (shrI .u64 v10 8) fun x24 =>
  bnd (IntKind.wrap .i64 (v11 + 8)) fun x25 =>
  mO x24 x25
 ) else (
   mO v10 v11
 )
def mQ (v4:Int) (v5:Int):Option Int :=
 bnd (decide (65536 ≤ v4)) fun x26 =>
 bif x26 then (
  bno (shrI .u64 v4 16) fun x28 =>
  bnd (IntKind.wrap .i64 (v5 + 16)) fun x29 =>
  mP x28 x29
 ) else (
   mP v4 v5
 )
def pQ (a0:Int):Option Int :=
 bnd (decide (4294967296 ≤ a0)) fun x30 =>
 bif x30 then (
  bno (shrI .u64 a0 32) fun x32 =>
  mQ x32 32
 ) else (
   mQ a0 0
 )

def oF (a0:Int):Option Int :=
 bno (pQ a0) fun x1 =>
 some x1

def dR (a0:aG) (a1:aG):Option Int :=
 bnd (IntKind.wrap .i64 (a0.ID - a1.ID)) fun x1 =>
 some x1

def dA (a0:Int) (v77:Int) (kk0:(List aG) → Int → Option (List aG)):Nat → (List aG) → Int → Option (List aG)
 | 0,_,_=>none
 | n1 + 1,v177,v178 =>
   bnd (decide (a0 < v178)) fun x202 =>
   bno (gd (x202 == true) (gix v177 v178) default) fun x203 =>
   bno (gd (x202 == true) (v177[(v178:Int).toNat]?) default) fun x204 =>
   bnd (IntKind.wrap .i64 (v178 - 1)) fun x205 =>
   bno (gd (x202 == true) (gix v177 x205) default) fun x206 =>
   bno (gd (x202 == true) (v177[(x205:Int).toNat]?) default) fun x207 =>
   bno (gd (x202 == true) (dR x204 x207) default) fun x208 =>
   bnd (decide (x208 < 0)) fun x209 =>
   bnd (x202 && x209) fun x210 =>
   bif x210 then (
    bnd (IntKind.wrap .i64 (v178 - 1)) fun x212 =>
    bnd (IntKind.wrap .i64 (v178 - 1)) fun x213 =>
    bno (gix v177 x213) fun x214 =>
    bno (v177[(x213:Int).toNat]?) fun x215 =>
    bno (gix v177 v178) fun x216 =>
    bno (v177[(v178:Int).toNat]?) fun x217 =>
    bno (gix v177 v178) fun x218 =>
    bno (v177[(v178:Int).toNat]?) fun x219 =>
    bnd (v177.set ((v178:Int).toNat) x215) fun x220 =>
    bno (gix x220 x212) fun x221 =>
    bno (x220[(x212:Int).toNat]?) fun x222 =>
    bnd (x220.set ((x212:Int).toNat) x217) fun x223 =>
    bnd (IntKind.wrap .i64 (v178 - 1)) fun x224 =>
    (dA a0 v77 kk0 n1) x223 x224
   ) else (
     bnd (IntKind.wrap .i64 (v77 + 1)) fun x225 =>
     kk0 v177 x225
   )
def cL (a0:Int) (a1:Int):Nat → (List aG) → Int → Option (List aG)
 | 0,_,_=>none
 | n0 + 1,v76,v77 =>
   bnd (decide (v77 < a1)) fun x152 =>
   bif x152 then (
    dA a0 v77 (cL a0 a1 n0) fuel v76 v77
   ) else (
     some v76
   )
def eZ (a0:Int) (a1:Int) (a2:(List aG)):Option (List aG) :=
 bnd (IntKind.wrap .i64 (a0 + 1)) fun x1 =>
 cL a0 a1 fuel a2 x1

def eH (a2:Int) (v57:(List aG)) (v58:Int) (kk0:(List aG) → Int → Option (List aG)) (v133:Int):Option (List aG) :=
 bnd (IntKind.wrap .i64 (a2 + v58)) fun x134 =>
 bno (gix v57 x134) fun x135 =>
 bno (v57[(x134:Int).toNat]?) fun x136 =>
 bnd (IntKind.wrap .i64 (a2 + v133)) fun x137 =>
 bno (gix v57 x137) fun x138 =>
 bno (v57[(x137:Int).toNat]?) fun x139 =>
 bno (dR x136 x139) fun x140 =>
 bnd (decide (x140 < 0)) fun x141 =>
 bif (!x141) then (
  some v57
 ) else (
   bnd (IntKind.wrap .i64 (a2 + v58)) fun x143 =>
   bnd (IntKind.wrap .i64 (a2 + v133)) fun x144 =>
   bnd (IntKind.wrap .i64 (a2 + v133)) fun x145 =>
   bno (gix v57 x145) fun x146 =>
   bno (v57[(x145:Int).toNat]?) fun x147 =>
   bnd (IntKind.wrap .i64 (a2 + v58)) fun x148 =>
   bno (gix v57 x148) fun x149 =>
   bno (v57[(x148:Int).toNat]?) fun x150 =>
   bno (gix v57 x143) fun x151 =>
   bno (v57[(x143:Int).toNat]?) fun x152 =>
   bnd (v57.set ((x143:Int).toNat) x147) fun x153 =>
   bno (gix x153 x144) fun x154 =>
   bno (x153[(x144:Int).toNat]?) fun x155 =>
   bnd (x153.set ((x144:Int).toNat) x150) fun x156 =>
   kk0 x156 v133
 )
def cH (a1:Int) (a2:Int):Nat → (List aG) → Int → Option (List aG)
 | 0,_,_=>none
 | n0 + 1,v57,v58 =>
   bnd (IntKind.wrap .i64 (2 * v58)) fun x115 =>
   bnd (IntKind.wrap .i64 (x115 + 1)) fun x116 =>
   bnd (decide (a1 ≤ x116)) fun x117 =>
   bif x117 then (
    some v57
   ) else (
     bnd (IntKind.wrap .i64 (x116 + 1)) fun x157 =>
     bnd (decide (x157 < a1)) fun x158 =>
     bnd (IntKind.wrap .i64 (a2 + x116)) fun x159 =>
     bno (gd (x158 == true) (gix v57 x159) default) fun x160 =>
     bno (gd (x158 == true) (v57[(x159:Int).toNat]?) default) fun x161 =>
     bnd (IntKind.wrap .i64 (a2 + x116)) fun x162 =>
     bnd (IntKind.wrap .i64 (x162 + 1)) fun x163 =>
     bno (gd (x158 == true) (gix v57 x163) default) fun x164 =>
     bno (gd (x158 == true) (v57[(x163:Int).toNat]?) default) fun x165 =>
     bno (gd (x158 == true) (dR x161 x165) default) fun x166 =>
     bnd (decide (x166 < 0)) fun x167 =>
     bnd (x158 && x167) fun x168 =>
     bif x168 then (
      bnd (IntKind.wrap .i64 (x116 + 1)) fun x170 =>
      eH a2 v57 v58 (cH a1 a2 n0) x170
     ) else (
       eH a2 v57 v58 (cH a1 a2 n0) x116
     )
   )
def eQ (a0:Int) (a1:Int) (a2:Int) (a3:(List aG)):Option (List aG) :=
 cH a1 a2 fuel a3 a0

def dP (a0:Int):Nat → (List aG) → Int → Option (List aG)
 | 0,_,_=>none
 | n1 + 1,v39,v40 =>
   bnd (decide (0 ≤ v40)) fun x58 =>
   bif x58 then (
    bnd (IntKind.wrap .i64 (a0 + v40)) fun x60 =>
    bnd (IntKind.wrap .i64 (a0 + v40)) fun x61 =>
    bno (gix v39 x61) fun x62 =>
    bno (v39[(x61:Int).toNat]?) fun x63 =>
    bno (gix v39 a0) fun x64 =>
    bno (v39[(a0:Int).toNat]?) fun x65 =>
    bno (gix v39 a0) fun x66 =>
    bno (v39[(a0:Int).toNat]?) fun x67 =>
    bnd (v39.set ((a0:Int).toNat) x63) fun x68 =>
    bno (gix x68 x60) fun x69 =>
    bno (x68[(x60:Int).toNat]?) fun x70 =>
    bnd (x68.set ((x60:Int).toNat) x65) fun x71 =>
    bno (eQ 0 v40 a0 x71) fun x72 =>
    chk (x72.length=v39.length)<|bnd (IntKind.wrap .i64 (v40 - 1)) fun x74 =>
    (dP a0 n1) x72 x74
   ) else (
     some v39
   )
def dQ (a0:Int) (x1:Int):Nat → (List aG) → Int → Option (List aG)
 | 0,_,_=>none
 | n0 + 1,v9,v10 =>
   bnd (decide (0 ≤ v10)) fun x16 =>
   bif x16 then (
    bno (eQ v10 x1 a0 v9) fun x18 =>
    chk (x18.length=v9.length)<|bnd (IntKind.wrap .i64 (v10 - 1)) fun x20 =>
    (dQ a0 x1 n0) x18 x20
   ) else (
     bnd (IntKind.wrap .i64 (x1 - 1)) fun x21 =>
     dP a0 fuel v9 x21
   )
def fX (a0:Int) (a1:Int) (a2:(List aG)):Option (List aG) :=
 bnd (IntKind.wrap .i64 (a1 - a0)) fun x1 =>
 bnd (IntKind.wrap .i64 (x1 - 1)) fun x2 =>
 bno (quoI .i64 x2 2) fun x3 =>
 dQ a0 x1 fuel a2 x3

def eD (a0:(List aG)) (a1:Int) (a2:Int) (a3:Int):Option (Int × Int × Int) :=
 bno (gix a0 a2) fun x1 =>
 bno (gix a0 a1) fun x2 =>
 bno (dR x1 x2) fun x3 =>
 bnd (decide (x3 < 0)) fun x4 =>
 bif x4 then (
  bnd (IntKind.wrap .i64 (a3 + 1)) fun x6 =>
  some (a2,a1,x6)
 ) else (
   some (a1,a2,a3)
 )

def eU (a0:(List aG)) (a1:Int) (a2:Int) (a3:Int) (a4:Int):Option (Int × Int) :=
 bno (eD a0 a1 a2 a4) fun x1 =>
 bno (eD a0 x1.2.1 a3 x1.2.2) fun x2 =>
 bno (eD a0 x1.1 x2.1 x2.2.2) fun x3 =>
 some (x3.2.1,x3.2.2)

def dD (a0:(List aG)) (a1:Int) (a2:Int):Option (Int × Int) :=
 bnd (IntKind.wrap .i64 (a1 - 1)) fun x1 =>
 bnd (IntKind.wrap .i64 (a1 + 1)) fun x2 =>
 bno (eU a0 x1 a1 x2 a2) fun x3 =>
 some (x3.1,x3.2)

def eG (v28:Int) (v29:Int):Option (Int × Int) :=
 bnd (decide (v29=0)) fun x30 =>
 bif x30 then (
  some (v28,1)
 ) else (
   bnd (decide (v29=12)) fun x32 =>
   bif x32 then (
    some (v28,2)
   ) else (
     some (v28,0)
   )
 )
def eF (a0:(List aG)) (v41:Int) (v42:Int) (v43:Int) (v44:Int):Option (Int × Int) :=
 bno (eU a0 v41 v42 v43 v44) fun x45 =>
 eG x45.1 x45.2
def fV (a0:(List aG)) (a1:Int) (a2:Int):Option (Int × Int) :=
 bnd (IntKind.wrap .i64 (a2 - a1)) fun x1 =>
 bno (quoI .i64 x1 4) fun x2 =>
 bnd (IntKind.wrap .i64 (x2 * 1)) fun x3 =>
 bnd (IntKind.wrap .i64 (a1 + x3)) fun x4 =>
 bno (quoI .i64 x1 4) fun x5 =>
 bnd (IntKind.wrap .i64 (x5 * 2)) fun x6 =>
 bnd (IntKind.wrap .i64 (a1 + x6)) fun x7 =>
 bno (quoI .i64 x1 4) fun x8 =>
 bnd (IntKind.wrap .i64 (x8 * 3)) fun x9 =>
 bnd (IntKind.wrap .i64 (a1 + x9)) fun x10 =>
 bnd (decide (8 ≤ x1)) fun x34 =>
 bif x34 then (
  bnd (decide (50 ≤ x1)) fun x46 =>
  bif x46 then (
   bno (dD a0 x4 0) fun x48 =>
   bno (dD a0 x7 x48.2) fun x49 =>
   bno (dD a0 x10 x49.2) fun x50 =>
   eF a0 x48.1 x49.1 x50.1 x50.2
  ) else (
    eF a0 x4 x7 x10 0
  )
 ) else (
   eG x7 0
 )

def dC  : Nat → (List aG) → Int → Int → Option (List aG)
 | 0,_,_,_=>none
 | n0 + 1,v16,v17,v18 =>
   bnd (decide (v17 < v18)) fun x33 =>
   bif x33 then (
    bno (gix v16 v18) fun x35 =>
    bno (v16[(v18:Int).toNat]?) fun x36 =>
    bno (gix v16 v17) fun x37 =>
    bno (v16[(v17:Int).toNat]?) fun x38 =>
    bno (gix v16 v17) fun x39 =>
    bno (v16[(v17:Int).toNat]?) fun x40 =>
    bnd (v16.set ((v17:Int).toNat) x36) fun x41 =>
    bno (gix x41 v18) fun x42 =>
    bno (x41[(v18:Int).toNat]?) fun x43 =>
    bnd (x41.set ((v18:Int).toNat) x38) fun x44 =>
    bnd (IntKind.wrap .i64 (v17 + 1)) fun x45 =>
    bnd (IntKind.wrap .i64 (v18 - 1)) fun x46 =>
    (dC n0) x44 x45 x46
   ) else (
     some v16
   )
def fF (a0:Int) (a1:Int) (a2:(List aG)):Option (List aG) :=
 bnd (IntKind.wrap .i64 (a1 - 1)) fun x1 =>
 dC fuel a2 a0 x1

def cO (a1:Int) (v286:Int) (kk0:(List aG) → Int → Int → Option (Bool × (List aG))) (v582:Int):Nat → (List aG) → Int → Option (Bool × (List aG))
 | 0,_,_=>none
 | n4 + 1,v725,v726 =>
   bnd (decide (v726 < a1)) fun x750 =>
   bif x750 then (
    bno (gix v725 v726) fun x752 =>
    bno (v725[(v726:Int).toNat]?) fun x753 =>
    bnd (IntKind.wrap .i64 (v726 - 1)) fun x754 =>
    bno (gix v725 x754) fun x755 =>
    bno (v725[(x754:Int).toNat]?) fun x756 =>
    bno (dR x753 x756) fun x757 =>
    bnd (decide (x757 < 0)) fun x758 =>
    bif (!x758) then (
     bnd (IntKind.wrap .i64 (v286 + 1)) fun x760 =>
     kk0 v725 v582 x760
    ) else (
      bnd (IntKind.wrap .i64 (v726 - 1)) fun x761 =>
      bnd (IntKind.wrap .i64 (v726 - 1)) fun x762 =>
      bno (gix v725 x762) fun x763 =>
      bno (v725[(x762:Int).toNat]?) fun x764 =>
      bno (gix v725 v726) fun x765 =>
      bno (v725[(v726:Int).toNat]?) fun x766 =>
      bno (gix v725 v726) fun x767 =>
      bno (v725[(v726:Int).toNat]?) fun x768 =>
      bnd (v725.set ((v726:Int).toNat) x764) fun x769 =>
      bno (gix x769 x761) fun x770 =>
      bno (x769[(x761:Int).toNat]?) fun x771 =>
      bnd (x769.set ((x761:Int).toNat) x766) fun x772 =>
      bnd (IntKind.wrap .i64 (v726 + 1)) fun x773 =>
      (cO a1 v286 kk0 v582 n4) x772 x773
    )
   ) else (
     bnd (IntKind.wrap .i64 (v286 + 1)) fun x774 =>
     kk0 v725 v582 x774
   )
def cQ (a1:Int) (v286:Int) (kk0:(List aG) → Int → Int → Option (Bool × (List aG))) (v582:Int) (v697:(List aG)):Option (Bool × (List aG)) :=
 bnd (IntKind.wrap .i64 (a1 - v582)) fun x698 =>
 bnd (decide (2 ≤ x698)) fun x699 =>
 bif x699 then (
  bnd (IntKind.wrap .i64 (v582 + 1)) fun x701 =>
  cO a1 v286 kk0 v582 fuel v697 x701
 ) else (
   bnd (IntKind.wrap .i64 (v286 + 1)) fun x775 =>
   kk0 v697 v582 x775
 )
def cN (a1:Int) (v286:Int) (kk0:(List aG) → Int → Int → Option (Bool × (List aG))) (v582:Int):Nat → (List aG) → Int → Option (Bool × (List aG))
 | 0,_,_=>none
 | n5 + 1,v803,v804 =>
   bnd (decide (1 ≤ v804)) fun x828 =>
   bif x828 then (
    bno (gix v803 v804) fun x830 =>
    bno (v803[(v804:Int).toNat]?) fun x831 =>
    bnd (IntKind.wrap .i64 (v804 - 1)) fun x832 =>
    bno (gix v803 x832) fun x833 =>
    bno (v803[(x832:Int).toNat]?) fun x834 =>
    bno (dR x831 x834) fun x835 =>
    bnd (decide (x835 < 0)) fun x836 =>
    bif (!x836) then (
     cQ a1 v286 kk0 v582 v803
    ) else (
      bnd (IntKind.wrap .i64 (v804 - 1)) fun x838 =>
      bnd (IntKind.wrap .i64 (v804 - 1)) fun x839 =>
      bno (gix v803 x839) fun x840 =>
      bno (v803[(x839:Int).toNat]?) fun x841 =>
      bno (gix v803 v804) fun x842 =>
      bno (v803[(v804:Int).toNat]?) fun x843 =>
      bno (gix v803 v804) fun x844 =>
      bno (v803[(v804:Int).toNat]?) fun x845 =>
      bnd (v803.set ((v804:Int).toNat) x841) fun x846 =>
      bno (gix x846 x838) fun x847 =>
      bno (x846[(x838:Int).toNat]?) fun x848 =>
      bnd (x846.set ((x838:Int).toNat) x843) fun x849 =>
      bnd (IntKind.wrap .i64 (v804 - 1)) fun x850 =>
      (cN a1 v286 kk0 v582 n5) x849 x850
    )
   ) else (
     cQ a1 v286 kk0 v582 v803
   )
def cP (a0 : Int) (a1:Int) (v284:(List aG)) (v286:Int) (kk0:(List aG) → Int → Int → Option (Bool × (List aG))):Nat → Int → Option (Bool × (List aG))
 | 0,_=>none
 | n1 + 1, v582 =>
   bnd (decide (v582 < a1)) fun x594 =>
   bno (gd (x594 == true) (gix v284 v582) default) fun x595 =>
   bno (gd (x594 == true) (v284[(v582:Int).toNat]?) default) fun x596 =>
   bnd (IntKind.wrap .i64 (v582 - 1)) fun x597 =>
   bno (gd (x594 == true) (gix v284 x597) default) fun x598 =>
   bno (gd (x594 == true) (v284[(x597:Int).toNat]?) default) fun x599 =>
   bno (gd (x594 == true) (dR x596 x599) default) fun x600 =>
   bnd (decide (x600 < 0)) fun x601 =>
   bnd (x594 && (!x601)) fun x602 =>
   bif x602 then (
    bnd (IntKind.wrap .i64 (v582 + 1)) fun x604 =>
    (cP a0 a1 v284 v286 kk0 n1) x604
   ) else (
     bnd (decide (v582=a1)) fun x605 =>
     bif x605 then (
      some (true,v284)
     ) else (
       bnd (IntKind.wrap .i64 (a1 - a0)) fun x607 =>
       bnd (decide (x607 < 50)) fun x608 =>
       bif x608 then (
        some (false,v284)
       ) else (
         bnd (IntKind.wrap .i64 (v582 - 1)) fun x610 =>
         bnd (IntKind.wrap .i64 (v582 - 1)) fun x611 =>
         bno (gix v284 x611) fun x612 =>
         bno (v284[(x611:Int).toNat]?) fun x613 =>
         bno (gix v284 v582) fun x614 =>
         bno (v284[(v582:Int).toNat]?) fun x615 =>
         bno (gix v284 v582) fun x616 =>
         bno (v284[(v582:Int).toNat]?) fun x617 =>
         bnd (v284.set ((v582:Int).toNat) x613) fun x618 =>
         bno (gix x618 x610) fun x619 =>
         bno (x618[(x610:Int).toNat]?) fun x620 =>
         bnd (x618.set ((x610:Int).toNat) x615) fun x621 =>
         bnd (IntKind.wrap .i64 (v582 - a0)) fun x776 =>
         bnd (decide (2 ≤ x776)) fun x777 =>
         bif x777 then (
          bnd (IntKind.wrap .i64 (v582 - 1)) fun x779 =>
          cN a1 v286 kk0 v582 fuel x621 x779
         ) else (
           cQ a1 v286 kk0 v582 x621
         )
       )
     )
   )
def bH (a0:Int) (a1:Int):Nat → (List aG) → Int → Int → Option (Bool × (List aG))
 | 0,_,_,_=>none
 | n0 + 1,v284,v285,v286 =>
   bnd (decide (v286 < 5)) fun x569 =>
   bif x569 then (
    cP a0 a1 v284 v286 (bH a0 a1 n0) fuel v285
   ) else (
     some (false,v284)
   )
def eL (a0:Int) (a1:Int) (a2:(List aG)):Option (Bool × (List aG)) :=
 bnd (IntKind.wrap .i64 (a0 + 1)) fun x1 =>
 bH a0 a1 fuel a2 x1 0

def cX (a0:Int) (v89:(List aG)) (kk0:(List aG) → Int → Int → Option (Int × (List aG))) (v178:Int):Nat → Int → Option (Int × (List aG))
 | 0,_=>none
 | n2 + 1,v209 =>
   bnd (decide (v178 ≤ v209)) fun x220 =>
   bno (gd (x220 == true) (gix v89 a0) default) fun x221 =>
   bno (gd (x220 == true) (v89[(a0:Int).toNat]?) default) fun x222 =>
   bno (gd (x220 == true) (gix v89 v209) default) fun x223 =>
   bno (gd (x220 == true) (v89[(v209:Int).toNat]?) default) fun x224 =>
   bno (gd (x220 == true) (dR x222 x224) default) fun x225 =>
   bnd (decide (x225 < 0)) fun x226 =>
   bnd (x220 && x226) fun x227 =>
   bif x227 then (
    bnd (IntKind.wrap .i64 (v209 - 1)) fun x229 =>
    (cX a0 v89 kk0 v178 n2) x229
   ) else (
     bnd (decide (v209 < v178)) fun x230 =>
     bif x230 then (
      some (v178,v89)
     ) else (
       bno (gix v89 v209) fun x232 =>
       bno (v89[(v209:Int).toNat]?) fun x233 =>
       bno (gix v89 v178) fun x234 =>
       bno (v89[(v178:Int).toNat]?) fun x235 =>
       bno (gix v89 v178) fun x236 =>
       bno (v89[(v178:Int).toNat]?) fun x237 =>
       bnd (v89.set ((v178:Int).toNat) x233) fun x238 =>
       bno (gix x238 v209) fun x239 =>
       bno (x238[(v209:Int).toNat]?) fun x240 =>
       bnd (x238.set ((v209:Int).toNat) x235) fun x241 =>
       bnd (IntKind.wrap .i64 (v178 + 1)) fun x242 =>
       bnd (IntKind.wrap .i64 (v209 - 1)) fun x243 =>
       kk0 x241 x242 x243
     )
   )
def cY (a0:Int) (v89:(List aG)) (v91:Int) (kk0:(List aG) → Int → Int → Option (Int × (List aG))):Nat → Int → Option (Int × (List aG))
 | 0,_=>none
 | n1 + 1,v178 =>
   bnd (decide (v178 ≤ v91)) fun x189 =>
   bno (gd (x189 == true) (gix v89 a0) default) fun x190 =>
   bno (gd (x189 == true) (v89[(a0:Int).toNat]?) default) fun x191 =>
   bno (gd (x189 == true) (gix v89 v178) default) fun x192 =>
   bno (gd (x189 == true) (v89[(v178:Int).toNat]?) default) fun x193 =>
   bno (gd (x189 == true) (dR x191 x193) default) fun x194 =>
   bnd (decide (x194 < 0)) fun x195 =>
   bnd (x189 && (!x195)) fun x196 =>
   bif x196 then (
    bnd (IntKind.wrap .i64 (v178 + 1)) fun x198 =>
    (cY a0 v89 v91 kk0 n1) x198
   ) else (
     cX a0 v89 kk0 v178 fuel v91
   )
def cD (a0:Int):Nat → (List aG) → Int → Int → Option (Int × (List aG))
 | 0,_,_,_=>none
 | n0 + 1,v89,v90,v91 =>
   cY a0 v89 v91 (cD a0 n0) fuel v90
def eW (a0:Int) (a1:Int) (a2:Int) (a3:(List aG)):Option (Int × (List aG)) :=
 bno (gix a3 a2) fun x1 =>
 bno (a3[(a2:Int).toNat]?) fun x2 =>
 bno (gix a3 a0) fun x3 =>
 bno (a3[(a0:Int).toNat]?) fun x4 =>
 bno (gix a3 a0) fun x5 =>
 bno (a3[(a0:Int).toNat]?) fun x6 =>
 bnd (a3.set ((a0:Int).toNat) x2) fun x7 =>
 bno (gix x7 a2) fun x8 =>
 bno (x7[(a2:Int).toNat]?) fun x9 =>
 bnd (x7.set ((a2:Int).toNat) x4) fun x10 =>
 bnd (IntKind.wrap .i64 (a0 + 1)) fun x11 =>
 bnd (IntKind.wrap .i64 (a1 - 1)) fun x12 =>
 cD a0 fuel x10 x11 x12

def dI (a0:Int) (v175:(List aG)) (kk2:(List aG) → Int → Int → Option (Int × Bool × (List aG))) (v264:Int):Nat → Int → Option (Int × Bool × (List aG))
 | 0,_=>none
 | n4 + 1,v295 =>
   bnd (decide (v264 ≤ v295)) fun x306 =>
   bno (gd (x306 == true) (gix v175 v295) default) fun x307 =>
   bno (gd (x306 == true) (v175[(v295:Int).toNat]?) default) fun x308 =>
   bno (gd (x306 == true) (gix v175 a0) default) fun x309 =>
   bno (gd (x306 == true) (v175[(a0:Int).toNat]?) default) fun x310 =>
   bno (gd (x306 == true) (dR x308 x310) default) fun x311 =>
   bnd (decide (x311 < 0)) fun x312 =>
   bnd (x306 && (!x312)) fun x313 =>
   bif x313 then (
    bnd (IntKind.wrap .i64 (v295 - 1)) fun x315 =>
    (dI a0 v175 kk2 v264 n4) x315
   ) else (
     bnd (decide (v295 < v264)) fun x316 =>
     bif x316 then (
      bno (gix v175 a0) fun x318 =>
      bno (v175[(a0:Int).toNat]?) fun x319 =>
      bno (gix v175 v295) fun x320 =>
      bno (v175[(v295:Int).toNat]?) fun x321 =>
      bno (gix v175 v295) fun x322 =>
      bno (v175[(v295:Int).toNat]?) fun x323 =>
      bnd (v175.set ((v295:Int).toNat) x319) fun x324 =>
      bno (gix x324 a0) fun x325 =>
      bno (x324[(a0:Int).toNat]?) fun x326 =>
      bnd (x324.set ((a0:Int).toNat) x321) fun x327 =>
      some (v295,false,x327)
     ) else (
       bno (gix v175 v295) fun x328 =>
       bno (v175[(v295:Int).toNat]?) fun x329 =>
       bno (gix v175 v264) fun x330 =>
       bno (v175[(v264:Int).toNat]?) fun x331 =>
       bno (gix v175 v264) fun x332 =>
       bno (v175[(v264:Int).toNat]?) fun x333 =>
       bnd (v175.set ((v264:Int).toNat) x329) fun x334 =>
       bno (gix x334 v295) fun x335 =>
       bno (x334[(v295:Int).toNat]?) fun x336 =>
       bnd (x334.set ((v295:Int).toNat) x331) fun x337 =>
       bnd (IntKind.wrap .i64 (v264 + 1)) fun x338 =>
       bnd (IntKind.wrap .i64 (v295 - 1)) fun x339 =>
       kk2 x337 x338 x339
     )
   )
def dJ (a0:Int) (v175:(List aG)) (v177:Int) (kk2:(List aG) → Int → Int → Option (Int × Bool × (List aG))):Nat → Int → Option (Int × Bool × (List aG))
 | 0,_=>none
 | n3 + 1,v264 =>
   bnd (decide (v264 ≤ v177)) fun x275 =>
   bno (gd (x275 == true) (gix v175 v264) default) fun x276 =>
   bno (gd (x275 == true) (v175[(v264:Int).toNat]?) default) fun x277 =>
   bno (gd (x275 == true) (gix v175 a0) default) fun x278 =>
   bno (gd (x275 == true) (v175[(a0:Int).toNat]?) default) fun x279 =>
   bno (gd (x275 == true) (dR x277 x279) default) fun x280 =>
   bnd (decide (x280 < 0)) fun x281 =>
   bnd (x275 && x281) fun x282 =>
   bif x282 then (
    bnd (IntKind.wrap .i64 (v264 + 1)) fun x284 =>
    (dJ a0 v175 v177 kk2 n3) x284
   ) else (
     dI a0 v175 kk2 v264 fuel v177
   )
def cG (a0:Int):Nat → (List aG) → Int → Int → Option (Int × Bool × (List aG))
 | 0,_,_,_=>none
 | n2 + 1,v175,v176,v177 =>
   dJ a0 v175 v177 (cG a0 n2) fuel v176
def dK (a0:Int) (x10:(List aG)) (v23:Int):Nat → Int → Option (Int × Bool × (List aG))
 | 0,_=>none
 | n1 + 1,v54 =>
   bnd (decide (v23 ≤ v54)) fun x65 =>
   bno (gd (x65 == true) (gix x10 v54) default) fun x66 =>
   bno (gd (x65 == true) (x10[(v54:Int).toNat]?) default) fun x67 =>
   bno (gd (x65 == true) (gix x10 a0) default) fun x68 =>
   bno (gd (x65 == true) (x10[(a0:Int).toNat]?) default) fun x69 =>
   bno (gd (x65 == true) (dR x67 x69) default) fun x70 =>
   bnd (decide (x70 < 0)) fun x71 =>
   bnd (x65 && (!x71)) fun x72 =>
   bif x72 then (
    bnd (IntKind.wrap .i64 (v54 - 1)) fun x74 =>
    (dK a0 x10 v23 n1) x74
   ) else (
     bnd (decide (v54 < v23)) fun x75 =>
     bif x75 then (
      bno (gix x10 a0) fun x77 =>
      bno (x10[(a0:Int).toNat]?) fun x78 =>
      bno (gix x10 v54) fun x79 =>
      bno (x10[(v54:Int).toNat]?) fun x80 =>
      bno (gix x10 v54) fun x81 =>
      bno (x10[(v54:Int).toNat]?) fun x82 =>
      bnd (x10.set ((v54:Int).toNat) x78) fun x83 =>
      bno (gix x83 a0) fun x84 =>
      bno (x83[(a0:Int).toNat]?) fun x85 =>
      bnd (x83.set ((a0:Int).toNat) x80) fun x86 =>
      some (v54,true,x86)
     ) else (
       bno (gix x10 v54) fun x87 =>
       bno (x10[(v54:Int).toNat]?) fun x88 =>
       bno (gix x10 v23) fun x89 =>
       bno (x10[(v23:Int).toNat]?) fun x90 =>
       bno (gix x10 v23) fun x91 =>
       bno (x10[(v23:Int).toNat]?) fun x92 =>
       bnd (x10.set ((v23:Int).toNat) x88) fun x93 =>
       bno (gix x93 v54) fun x94 =>
       bno (x93[(v54:Int).toNat]?) fun x95 =>
       bnd (x93.set ((v54:Int).toNat) x90) fun x96 =>
       bnd (IntKind.wrap .i64 (v23 + 1)) fun x97 =>
       bnd (IntKind.wrap .i64 (v54 - 1)) fun x98 =>
       cG a0 fuel x96 x97 x98
     )
   )
def dL (a0:Int) (x10:(List aG)) (x12:Int):Nat → Int → Option (Int × Bool × (List aG))
 | 0,_=>none
 | n0 + 1,v23 =>
   bnd (decide (v23 ≤ x12)) fun x34 =>
   bno (gd (x34 == true) (gix x10 v23) default) fun x35 =>
   bno (gd (x34 == true) (x10[(v23:Int).toNat]?) default) fun x36 =>
   bno (gd (x34 == true) (gix x10 a0) default) fun x37 =>
   bno (gd (x34 == true) (x10[(a0:Int).toNat]?) default) fun x38 =>
   bno (gd (x34 == true) (dR x36 x38) default) fun x39 =>
   bnd (decide (x39 < 0)) fun x40 =>
   bnd (x34 && x40) fun x41 =>
   bif x41 then (
    bnd (IntKind.wrap .i64 (v23 + 1)) fun x43 =>
    (dL a0 x10 x12 n0) x43
   ) else (
     dK a0 x10 v23 fuel x12
   )
def fU (a0:Int) (a1:Int) (a2:Int) (a3:(List aG)):Option (Int × Bool × (List aG)) :=
 bno (gix a3 a2) fun x1 =>
 bno (a3[(a2:Int).toNat]?) fun x2 =>
 bno (gix a3 a0) fun x3 =>
 bno (a3[(a0:Int).toNat]?) fun x4 =>
 bno (gix a3 a0) fun x5 =>
 bno (a3[(a0:Int).toNat]?) fun x6 =>
 bnd (a3.set ((a0:Int).toNat) x2) fun x7 =>
 bno (gix x7 a2) fun x8 =>
 bno (x7[(a2:Int).toNat]?) fun x9 =>
 bnd (x7.set ((a2:Int).toNat) x4) fun x10 =>
 bnd (IntKind.wrap .i64 (a0 + 1)) fun x11 =>
 bnd (IntKind.wrap .i64 (a1 - 1)) fun x12 =>
 dL a0 x10 x12 fuel x11

def kR (a0:Int):Option Int :=
 bnd (IntKind.wrap .u64 a0) fun x1 =>
 bno (oF x1) fun x2 =>
 bno (shlI .u64 1 x2) fun x3 =>
 some x3

def kK (a0:Int):Option (Int × Int) :=
 bno (shlI .u64 a0 13) fun x1 =>
 bnd (xorI .u64 a0 x1) fun x2 =>
 bno (shrI .u64 x2 7) fun x3 =>
 bnd (xorI .u64 x2 x3) fun x4 =>
 bno (shlI .u64 x4 17) fun x5 =>
 bnd (xorI .u64 x4 x5) fun x6 =>
 some (x6,x6)

def dZ (a0:Int) (v40:(List aG)) (v41:Int) (kk0:(List aG) → Int → Int → Option (List aG)) (x79:(Int × Int)) (v86:Int):Option (List aG) :=
 bnd (IntKind.wrap .i64 (a0 + v86)) fun x87 =>
 bnd (IntKind.wrap .i64 (a0 + v86)) fun x88 =>
 bno (gix v40 x88) fun x89 =>
 bno (v40[(x88:Int).toNat]?) fun x90 =>
 bno (gix v40 v41) fun x91 =>
 bno (v40[(v41:Int).toNat]?) fun x92 =>
 bno (gix v40 v41) fun x93 =>
 bno (v40[(v41:Int).toNat]?) fun x94 =>
 bnd (v40.set ((v41:Int).toNat) x90) fun x95 =>
 bno (gix x95 x87) fun x96 =>
 bno (x95[(x87:Int).toNat]?) fun x97 =>
 bnd (x95.set ((x87:Int).toNat) x92) fun x98 =>
 bnd (IntKind.wrap .i64 (v41 + 1)) fun x99 =>
 kk0 x98 x99 x79.2
def cE (a0:Int) (x1:Int) (x5:Int):Nat → (List aG) → Int → Int → Option (List aG)
 | 0,_,_,_=>none
 | n0 + 1,v40,v41,v42 =>
   bno (quoI .i64 x1 4) fun x73 =>
   bnd (IntKind.wrap .i64 (x73 * 2)) fun x74 =>
   bnd (IntKind.wrap .i64 (a0 + x74)) fun x75 =>
   bnd (IntKind.wrap .i64 (x75 + 1)) fun x76 =>
   bnd (decide (v41 ≤ x76)) fun x77 =>
   bif x77 then (
    bno (kK v42) fun x79 =>
    bnd (IntKind.wrap .u64 (x5 - 1)) fun x80 =>
    bnd (andI .u64 x79.1 x80) fun x81 =>
    bnd (IntKind.wrap .i64 x81) fun x82 =>
    bnd (decide (x1 ≤ x82)) fun x100 =>
    bif x100 then (
     bnd (IntKind.wrap .i64 (x82 - x1)) fun x102 =>
     dZ a0 v40 v41 (cE a0 x1 x5 n0) x79 x102
    ) else (
      dZ a0 v40 v41 (cE a0 x1 x5 n0) x79 x82
    )
   ) else (
     some v40
   )
def fA (a0:Int) (a1:Int) (a2:(List aG)):Option (List aG) :=
 bnd (IntKind.wrap .i64 (a1 - a0)) fun x1 =>
 bnd (decide (8 ≤ x1)) fun x2 =>
 bif x2 then (
  bnd (IntKind.wrap .u64 x1) fun x4 =>
  bno (kR x1) fun x5 =>
  bno (quoI .i64 x1 4) fun x6 =>
  bnd (IntKind.wrap .i64 (x6 * 2)) fun x7 =>
  bnd (IntKind.wrap .i64 (a0 + x7)) fun x8 =>
  bnd (IntKind.wrap .i64 (x8 - 1)) fun x9 =>
  cE a0 x1 x5 fuel a2 x9 x4
 ) else (
   some a2
 )

def eI (rec0:Int → Int → Int → (List aG) → Option (List aG)) (v71:Int) (v72:Int) (v73:Bool) (v74:Bool) (kk0:(List aG) → Int → Int → Bool → Bool → Int → Option (List aG)) (x234:Int) (v248:Int) (v258:Int) (v267:(List aG)):Option (List aG) :=
 bnd (decide (0 < v71)) fun x268 =>
 bnd (IntKind.wrap .i64 (v71 - 1)) fun x269 =>
 bno (gd (x268 == true) (gix v267 x269) default) fun x270 =>
 bno (gd (x268 == true) (v267[(x269:Int).toNat]?) default) fun x271 =>
 bno (gd (x268 == true) (gix v267 v258) default) fun x272 =>
 bno (gd (x268 == true) (v267[(v258:Int).toNat]?) default) fun x273 =>
 bno (gd (x268 == true) (dR x271 x273) default) fun x274 =>
 bnd (decide (x274 < 0)) fun x275 =>
 bnd (x268 && (!x275)) fun x276 =>
 bif x276 then (
  bno (eW v71 v72 v258 v267) fun x278 =>
  chk (x278.2.length=v267.length)<|kk0 x278.2 x278.1 v72 v73 v74 v248
 ) else (
   bno (fU v71 v72 v258 v267) fun x280 =>
   chk (x280.2.2.length=v267.length)<|bnd (IntKind.wrap .i64 (x280.1 - v71)) fun x282 =>
   bnd (IntKind.wrap .i64 (v72 - x280.1)) fun x283 =>
   bno (quoI .i64 x234 8) fun x284 =>
   bnd (decide (x282 < x283)) fun x285 =>
   bif x285 then (
    bnd (decide (x284 ≤ x282)) fun x287 =>
    bno (rec0 v71 x280.1 v248 x280.2.2) fun x288 =>
    chk (x288.length=v267.length)<|bnd (IntKind.wrap .i64 (x280.1 + 1)) fun x290 =>
    kk0 x288 x290 v72 x287 x280.2.1 v248
   ) else (
     bnd (decide (x284 ≤ x283)) fun x291 =>
     bnd (IntKind.wrap .i64 (x280.1 + 1)) fun x292 =>
     bno (rec0 x292 v72 v248 x280.2.2) fun x293 =>
     chk (x293.length=v267.length)<|kk0 x293 v71 x280.1 x291 x280.2.1 v248
   )
 )
def eJ (rec0:Int → Int → Int → (List aG) → Option (List aG)) (v71:Int) (v72:Int) (v73:Bool) (v74:Bool) (kk0:(List aG) → Int → Int → Bool → Bool → Int → Option (List aG)) (x234:Int) (v248:Int) (v257:(List aG)) (v258:Int) (v259:Int):Option (List aG) :=
 bnd (v73 && v74) fun x295 =>
 bnd (decide (v259=1)) fun x296 =>
 bnd (x295 && x296) fun x297 =>
 bif x297 then (
  bno (eL v71 v72 v257) fun x299 =>
  chk (x299.2.length=v257.length)<|bif x299.1 then (
   some x299.2
  ) else (
    eI rec0 v71 v72 v73 v74 kk0 x234 v248 v258 x299.2
  )
 ) else (
   eI rec0 v71 v72 v73 v74 kk0 x234 v248 v258 v257
 )
def eK (rec0:Int → Int → Int → (List aG) → Option (List aG)) (v71:Int) (v72:Int) (v73:Bool) (v74:Bool) (kk0:(List aG) → Int → Int → Bool → Bool → Int → Option (List aG)) (x234:Int) (v247:(List aG)) (v248:Int):Option (List aG) :=
 bno (fV v247 v71 v72) fun x249 =>
 bnd (decide (x249.2=2)) fun x302 =>
 bif x302 then (
  bno (fF v71 v72 v247) fun x304 =>
  chk (x304.length=v247.length)<|bnd (IntKind.wrap .i64 (v72 - 1)) fun x306 =>
  bnd (IntKind.wrap .i64 (x249.1 - v71)) fun x307 =>
  bnd (IntKind.wrap .i64 (x306 - x307)) fun x308 =>
  eJ rec0 v71 v72 v73 v74 kk0 x234 v248 x304 x308 1
 ) else (
   eJ rec0 v71 v72 v73 v74 kk0 x234 v248 v247 x249.1 x249.2
 )
def bU (rec0:Int → Int → Int → (List aG) → Option (List aG)):Nat → (List aG) → Int → Int → Bool → Bool → Int → Option (List aG)
 | 0,_,_,_,_,_,_=>none
 | n0 + 1,v70,v71,v72,v73,v74,v154 =>
   bnd (IntKind.wrap .i64 (v72 - v71)) fun x234 =>
   bnd (decide (x234 ≤ 12)) fun x235 =>
   bif x235 then (
    bno (eZ v71 v72 v70) fun x237 =>
    chk (x237.length=v70.length)<|some x237
   ) else (
     bnd (decide (v154=0)) fun x239 =>
     bif x239 then (
      bno (fX v71 v72 v70) fun x241 =>
      chk (x241.length=v70.length)<|some x241
     ) else (
       bif (!v73) then (
        bno (fA v71 v72 v70) fun x310 =>
        chk (x310.length=v70.length)<|bnd (IntKind.wrap .i64 (v154 - 1)) fun x312 =>
        eK rec0 v71 v72 v73 v74 (bU rec0 n0) x234 x310 x312
       ) else (
         eK rec0 v71 v72 v73 v74 (bU rec0 n0) x234 v70 v154
       )
     )
   )
def fT (rec0:Int → Int → Int → (List aG) → Option (List aG)) (a0:Int) (a1:Int) (a2:Int) (a3:(List aG)):Option (List aG) :=
 bU rec0 fuel a3 a0 a1 true true a2
def bQ:Nat → Int → Int → Int → (List aG) → Option (List aG)
 | 0,_,_,_,_=>none
 | nr + 1,a0,a1,a2,a3=>fT (bQ nr) a0 a1 a2 a3

def fG (a0:(List aG)):Option (List aG) :=
 bnd (IntKind.wrap .u64 (a0.length:Int)) fun x1 =>
 bno (oF x1) fun x2 =>
 bno (bQ fuel 0 (a0.length:Int) x2 a0) fun x3 =>
 chk (x3.length=a0.length)<|some x3

def jD (a0:Int) (a1:Int) (a2:(List aP)) (a3:Int) (a4:Int) (a5:(List aM)) (a6:Int) (a7:(List Int)) (x1:(List Int)):Nat → (List aG) → Int → Option (List aG)
 | 0,_,_=>none
 | n0 + 1,v11,v12 =>
   bnd (decide (v12 < (x1.length:Int))) fun x22 =>
   bif x22 then (
    bno (gix x1 v12) fun x24 =>
    bno (gix a5 x24) fun x25 =>
    chk (a5.length=64)<|bno (a5[(x24:Int).toNat]?) fun x27 =>
    bno (iZ x27.up a0 a1 a2 a3 a4 a5 a6 a7) fun x28 =>
    bno (app 32 v11 (([(⟨x27.id,x28,x27.weight,x27.closed⟩:aG)]:(List aG)))) fun x29 =>
    bnd (IntKind.wrap .i64 (v12 + 1)) fun x30 =>
    (jD a0 a1 a2 a3 a4 a5 a6 a7 x1 n0) x29 x30
   ) else (
     bno (fG v11) fun x31 =>
     chk (x31.length=v11.length)<|some x31
   )
def nW (a0:Int) (a1:Int) (a2:(List aP)) (a3:Int) (a4:Int) (a5:(List aM)) (a6:Int) (a7:(List Int)):Option (List aG) :=
 bno (qZ (⟨a2,a3,a4⟩:bN)) fun x1 =>
 jD a0 a1 a2 a3 a4 a5 a6 a7 x1 fuel ([]:(List aG)) 0

def iN (a0:(List aG)):Nat → (List aG) → Int → Option (List aG)
 | 0,_,_=>none
 | n0 + 1,v7,v8 =>
   bnd (decide (v8 < (a0.length:Int))) fun x15 =>
   bif x15 then (
    bno (gix a0 v8) fun x17 =>
    bno (a0[(v8:Int).toNat]?) fun x18 =>
    bno (app 32 v7 ([x18]:(List aG))) fun x19 =>
    bnd (IntKind.wrap .i64 (v8 + 1)) fun x20 =>
    (iN a0 n0) x19 x20
   ) else (
     some v7
   )
def nH (a0:(List aG)):Option (List aG) :=
 iN a0 fuel ([]:(List aG)) 0

def jL (a1:Int) (a2:Int) (a3:(List aP)) (a4:Int) (a5:Int) (a6:(List aM)) (a7:Int) (a8:(List Int)):Nat → (List Int) → Int → Option (List Int)
 | 0,_,_=>none
 | n0 + 1,v14,v15 =>
   bnd (!decide (v15=(-1))) fun x28 =>
   bno (gd (x28 == true) (gix a6 v15) default) fun x29 =>
   chk ((x28 == true)=true → a6.length=64)<|bno (gd (x28 == true) (a6[(v15:Int).toNat]?) default) fun x31 =>
   bnd (!decide (x31.up=(-1))) fun x32 =>
   bnd (x28 && x32) fun x33 =>
   bif x33 then (
    bno (gix a6 v15) fun x35 =>
    chk (a6.length=64)<|bno (a6[(v15:Int).toNat]?) fun x37 =>
    bno (iZ x37.up a1 a2 a3 a4 a5 a6 a7 a8) fun x38 =>
    bno (app 8 v14 ([x38]:(List Int))) fun x39 =>
    (jL a1 a2 a3 a4 a5 a6 a7 a8 n0) x39 x37.up
   ) else (
     some v14
   )
def oN (a0:Int) (a1:Int) (a2:Int) (a3:(List aP)) (a4:Int) (a5:Int) (a6:(List aM)) (a7:Int) (a8:(List Int)):Option (List Int) :=
 bno (gC a0 a1 a2 a3 a4 a5 a6 a7 a8) fun x1 =>
 jL a1 a2 a3 a4 a5 a6 a7 a8 fuel ([]:(List Int)) x1

def pJ (a0:Int):Option Bool :=
 bnd (!decide (a0=a0)) fun x1 =>
 some x1

def gD (a0:Int) (a1:Int):Option Bool :=
 bno (pJ a0) fun x1 =>
 bno (gd (x1 == true) (pJ a1) default) fun x2 =>
 bnd (x1 && (!x2)) fun x3 =>
 bnd (decide (a0 < a1)) fun x4 =>
 bnd (x3 || x4) fun x5 =>
 some x5

def eR (a0:Int) (v74:Int) (kk0:(List Int) → Int → Option (List Int)):Nat → (List Int) → Int → Option (List Int)
 | 0,_,_=>none
 | n1 + 1,v170,v171 =>
   bnd (decide (a0 < v171)) fun x194 =>
   bno (gd (x194 == true) (gix v170 v171) default) fun x195 =>
   bno (gd (x194 == true) (v170[(v171:Int).toNat]?) default) fun x196 =>
   bnd (IntKind.wrap .i64 (v171 - 1)) fun x197 =>
   bno (gd (x194 == true) (gix v170 x197) default) fun x198 =>
   bno (gd (x194 == true) (v170[(x197:Int).toNat]?) default) fun x199 =>
   bno (gd (x194 == true) (gD x196 x199) default) fun x200 =>
   bnd (x194 && x200) fun x201 =>
   bif x201 then (
    bnd (IntKind.wrap .i64 (v171 - 1)) fun x203 =>
    bnd (IntKind.wrap .i64 (v171 - 1)) fun x204 =>
    bno (gix v170 x204) fun x205 =>
    bno (v170[(x204:Int).toNat]?) fun x206 =>
    bno (gix v170 v171) fun x207 =>
    bno (v170[(v171:Int).toNat]?) fun x208 =>
    bno (gix v170 v171) fun x209 =>
    bno (v170[(v171:Int).toNat]?) fun x210 =>
    bnd (v170.set ((v171:Int).toNat) x206) fun x211 =>
    bno (gix x211 x203) fun x212 =>
    bno (x211[(x203:Int).toNat]?) fun x213 =>
    bnd (x211.set ((x203:Int).toNat) x208) fun x214 =>
    bnd (IntKind.wrap .i64 (v171 - 1)) fun x215 =>
    (eR a0 v74 kk0 n1) x214 x215
   ) else (
     bnd (IntKind.wrap .i64 (v74 + 1)) fun x216 =>
     kk0 v170 x216
   )
def eB (a0:Int) (a1:Int):Nat → (List Int) → Int → Option (List Int)
 | 0,_,_=>none
 | n0 + 1,v73,v74 =>
   bnd (decide (v74 < a1)) fun x146 =>
   bif x146 then (
    eR a0 v74 (eB a0 a1 n0) fuel v73 v74
   ) else (
     some v73
   )
def hZ (a0:Int) (a1:Int) (a2:(List Int)):Option (List Int) :=
 bnd (IntKind.wrap .i64 (a0 + 1)) fun x1 =>
 eB a0 a1 fuel a2 x1

def gL (a2:Int) (v54:(List Int)) (v55:Int) (kk0:(List Int) → Int → Option (List Int)) (v126:Int):Option (List Int) :=
 bnd (IntKind.wrap .i64 (a2 + v55)) fun x127 =>
 bno (gix v54 x127) fun x128 =>
 bno (v54[(x127:Int).toNat]?) fun x129 =>
 bnd (IntKind.wrap .i64 (a2 + v126)) fun x130 =>
 bno (gix v54 x130) fun x131 =>
 bno (v54[(x130:Int).toNat]?) fun x132 =>
 bno (gD x129 x132) fun x133 =>
 bif (!x133) then (
  some v54
 ) else (
   bnd (IntKind.wrap .i64 (a2 + v55)) fun x135 =>
   bnd (IntKind.wrap .i64 (a2 + v126)) fun x136 =>
   bnd (IntKind.wrap .i64 (a2 + v126)) fun x137 =>
   bno (gix v54 x137) fun x138 =>
   bno (v54[(x137:Int).toNat]?) fun x139 =>
   bnd (IntKind.wrap .i64 (a2 + v55)) fun x140 =>
   bno (gix v54 x140) fun x141 =>
   bno (v54[(x140:Int).toNat]?) fun x142 =>
   bno (gix v54 x135) fun x143 =>
   bno (v54[(x135:Int).toNat]?) fun x144 =>
   bnd (v54.set ((x135:Int).toNat) x139) fun x145 =>
   bno (gix x145 x136) fun x146 =>
   bno (x145[(x136:Int).toNat]?) fun x147 =>
   bnd (x145.set ((x136:Int).toNat) x142) fun x148 =>
   kk0 x148 v126
 )
def eE (a1:Int) (a2:Int):Nat → (List Int) → Int → Option (List Int)
 | 0,_,_=>none
 | n0 + 1,v54,v55 =>
   bnd (IntKind.wrap .i64 (2 * v55)) fun x109 =>
   bnd (IntKind.wrap .i64 (x109 + 1)) fun x110 =>
   bnd (decide (a1 ≤ x110)) fun x111 =>
   bif x111 then (
    some v54
   ) else (
     bnd (IntKind.wrap .i64 (x110 + 1)) fun x149 =>
     bnd (decide (x149 < a1)) fun x150 =>
     bnd (IntKind.wrap .i64 (a2 + x110)) fun x151 =>
     bno (gd (x150 == true) (gix v54 x151) default) fun x152 =>
     bno (gd (x150 == true) (v54[(x151:Int).toNat]?) default) fun x153 =>
     bnd (IntKind.wrap .i64 (a2 + x110)) fun x154 =>
     bnd (IntKind.wrap .i64 (x154 + 1)) fun x155 =>
     bno (gd (x150 == true) (gix v54 x155) default) fun x156 =>
     bno (gd (x150 == true) (v54[(x155:Int).toNat]?) default) fun x157 =>
     bno (gd (x150 == true) (gD x153 x157) default) fun x158 =>
     bnd (x150 && x158) fun x159 =>
     bif x159 then (
      bnd (IntKind.wrap .i64 (x110 + 1)) fun x161 =>
      gL a2 v54 v55 (eE a1 a2 n0) x161
     ) else (
       gL a2 v54 v55 (eE a1 a2 n0) x110
     )
   )
def hM (a0:Int) (a1:Int) (a2:Int) (a3:(List Int)):Option (List Int) :=
 eE a1 a2 fuel a3 a0

def fM (a0:Int):Nat → (List Int) → Int → Option (List Int)
 | 0,_,_=>none
 | n1 + 1,v39,v40 =>
   bnd (decide (0 ≤ v40)) fun x58 =>
   bif x58 then (
    bnd (IntKind.wrap .i64 (a0 + v40)) fun x60 =>
    bnd (IntKind.wrap .i64 (a0 + v40)) fun x61 =>
    bno (gix v39 x61) fun x62 =>
    bno (v39[(x61:Int).toNat]?) fun x63 =>
    bno (gix v39 a0) fun x64 =>
    bno (v39[(a0:Int).toNat]?) fun x65 =>
    bno (gix v39 a0) fun x66 =>
    bno (v39[(a0:Int).toNat]?) fun x67 =>
    bnd (v39.set ((a0:Int).toNat) x63) fun x68 =>
    bno (gix x68 x60) fun x69 =>
    bno (x68[(x60:Int).toNat]?) fun x70 =>
    bnd (x68.set ((x60:Int).toNat) x65) fun x71 =>
    bno (hM 0 v40 a0 x71) fun x72 =>
    chk (x72.length=v39.length)<|bnd (IntKind.wrap .i64 (v40 - 1)) fun x74 =>
    (fM a0 n1) x72 x74
   ) else (
     some v39
   )
def fN (a0:Int) (x1:Int):Nat → (List Int) → Int → Option (List Int)
 | 0,_,_=>none
 | n0 + 1,v9,v10 =>
   bnd (decide (0 ≤ v10)) fun x16 =>
   bif x16 then (
    bno (hM v10 x1 a0 v9) fun x18 =>
    chk (x18.length=v9.length)<|bnd (IntKind.wrap .i64 (v10 - 1)) fun x20 =>
    (fN a0 x1 n0) x18 x20
   ) else (
     bnd (IntKind.wrap .i64 (x1 - 1)) fun x21 =>
     fM a0 fuel v9 x21
   )
def jQ (a0:Int) (a1:Int) (a2:(List Int)):Option (List Int) :=
 bnd (IntKind.wrap .i64 (a1 - a0)) fun x1 =>
 bnd (IntKind.wrap .i64 (x1 - 1)) fun x2 =>
 bno (quoI .i64 x2 2) fun x3 =>
 fN a0 x1 fuel a2 x3

def gO (a0:(List Int)) (a1:Int) (a2:Int) (a3:Int):Option (Int × Int × Int) :=
 bno (gix a0 a2) fun x1 =>
 bno (gix a0 a1) fun x2 =>
 bno (gD x1 x2) fun x3 =>
 bif x3 then (
  bnd (IntKind.wrap .i64 (a3 + 1)) fun x5 =>
  some (a2,a1,x5)
 ) else (
   some (a1,a2,a3)
 )

def iJ (a0:(List Int)) (a1:Int) (a2:Int) (a3:Int) (a4:Int):Option (Int × Int) :=
 bno (gO a0 a1 a2 a4) fun x1 =>
 bno (gO a0 x1.2.1 a3 x1.2.2) fun x2 =>
 bno (gO a0 x1.1 x2.1 x2.2.2) fun x3 =>
 some (x3.2.1,x3.2.2)

def eV (a0:(List Int)) (a1:Int) (a2:Int):Option (Int × Int) :=
 bnd (IntKind.wrap .i64 (a1 - 1)) fun x1 =>
 bnd (IntKind.wrap .i64 (a1 + 1)) fun x2 =>
 bno (iJ a0 x1 a1 x2 a2) fun x3 =>
 some (x3.1,x3.2)

def gH (v28:Int) (v29:Int):Option (Int × Int) :=
 bnd (decide (v29=0)) fun x30 =>
 bif x30 then (
  some (v28,1)
 ) else (
   bnd (decide (v29=12)) fun x32 =>
   bif x32 then (
    some (v28,2)
   ) else (
     some (v28,0)
   )
 )
def gG (a0:(List Int)) (v41:Int) (v42:Int) (v43:Int) (v44:Int):Option (Int × Int) :=
 bno (iJ a0 v41 v42 v43 v44) fun x45 =>
 gH x45.1 x45.2
def jH (a0:(List Int)) (a1:Int) (a2:Int):Option (Int × Int) :=
 bnd (IntKind.wrap .i64 (a2 - a1)) fun x1 =>
 bno (quoI .i64 x1 4) fun x2 =>
 bnd (IntKind.wrap .i64 (x2 * 1)) fun x3 =>
 bnd (IntKind.wrap .i64 (a1 + x3)) fun x4 =>
 bno (quoI .i64 x1 4) fun x5 =>
 bnd (IntKind.wrap .i64 (x5 * 2)) fun x6 =>
 bnd (IntKind.wrap .i64 (a1 + x6)) fun x7 =>
 bno (quoI .i64 x1 4) fun x8 =>
 bnd (IntKind.wrap .i64 (x8 * 3)) fun x9 =>
 bnd (IntKind.wrap .i64 (a1 + x9)) fun x10 =>
 bnd (decide (8 ≤ x1)) fun x34 =>
 bif x34 then (
  bnd (decide (50 ≤ x1)) fun x46 =>
  bif x46 then (
   bno (eV a0 x4 0) fun x48 =>
   bno (eV a0 x7 x48.2) fun x49 =>
   bno (eV a0 x10 x49.2) fun x50 =>
   gG a0 x48.1 x49.1 x50.1 x50.2
  ) else (
    gG a0 x4 x7 x10 0
  )
 ) else (
   gH x7 0
 )

def eS  : Nat → (List Int) → Int → Int → Option (List Int)
 | 0,_,_,_=>none
 | n0 + 1,v16,v17,v18 =>
   bnd (decide (v17 < v18)) fun x33 =>
   bif x33 then (
    bno (gix v16 v18) fun x35 =>
    bno (v16[(v18:Int).toNat]?) fun x36 =>
    bno (gix v16 v17) fun x37 =>
    bno (v16[(v17:Int).toNat]?) fun x38 =>
    bno (gix v16 v17) fun x39 =>
    bno (v16[(v17:Int).toNat]?) fun x40 =>
    bnd (v16.set ((v17:Int).toNat) x36) fun x41 =>
    bno (gix x41 v18) fun x42 =>
    bno (x41[(v18:Int).toNat]?) fun x43 =>
    bnd (x41.set ((v18:Int).toNat) x38) fun x44 =>
    bnd (IntKind.wrap .i64 (v17 + 1)) fun x45 =>
    bnd (IntKind.wrap .i64 (v18 - 1)) fun x46 =>
    (eS n0) x44 x45 x46
   ) else (
     some v16
   )
def iI (a0:Int) (a1:Int) (a2:(List Int)):Option (List Int) :=
 bnd (IntKind.wrap .i64 (a1 - 1)) fun x1 =>
 eS fuel a2 a0 x1

def dW (a1:Int) (v274:Int) (kk0:(List Int) → Int → Int → Option (Bool × (List Int))) (v557:Int):Nat → (List Int) → Int → Option (Bool × (List Int))
 | 0,_,_=>none
 | n4 + 1,v694,v695 =>
   bnd (decide (v695 < a1)) fun x718 =>
   bif x718 then (
    bno (gix v694 v695) fun x720 =>
    bno (v694[(v695:Int).toNat]?) fun x721 =>
    bnd (IntKind.wrap .i64 (v695 - 1)) fun x722 =>
    bno (gix v694 x722) fun x723 =>
    bno (v694[(x722:Int).toNat]?) fun x724 =>
    bno (gD x721 x724) fun x725 =>
    bif (!x725) then (
     bnd (IntKind.wrap .i64 (v274 + 1)) fun x727 =>
     kk0 v694 v557 x727
    ) else (
      bnd (IntKind.wrap .i64 (v695 - 1)) fun x728 =>
      bnd (IntKind.wrap .i64 (v695 - 1)) fun x729 =>
      bno (gix v694 x729) fun x730 =>
      bno (v694[(x729:Int).toNat]?) fun x731 =>
      bno (gix v694 v695) fun x732 =>
      bno (v694[(v695:Int).toNat]?) fun x733 =>
      bno (gix v694 v695) fun x734 =>
      bno (v694[(v695:Int).toNat]?) fun x735 =>
      bnd (v694.set ((v695:Int).toNat) x731) fun x736 =>
      bno (gix x736 x728) fun x737 =>
      bno (x736[(x728:Int).toNat]?) fun x738 =>
      bnd (x736.set ((x728:Int).toNat) x733) fun x739 =>
      bnd (IntKind.wrap .i64 (v695 + 1)) fun x740 =>
      (dW a1 v274 kk0 v557 n4) x739 x740
    )
   ) else (
     bnd (IntKind.wrap .i64 (v274 + 1)) fun x741 =>
     kk0 v694 v557 x741
   )
def dY (a1:Int) (v274:Int) (kk0:(List Int) → Int → Int → Option (Bool × (List Int))) (v557:Int) (v667:(List Int)):Option (Bool × (List Int)) :=
 bnd (IntKind.wrap .i64 (a1 - v557)) fun x668 =>
 bnd (decide (2 ≤ x668)) fun x669 =>
 bif x669 then (
  bnd (IntKind.wrap .i64 (v557 + 1)) fun x671 =>
  dW a1 v274 kk0 v557 fuel v667 x671
 ) else (
   bnd (IntKind.wrap .i64 (v274 + 1)) fun x742 =>
   kk0 v667 v557 x742
 )
def dV (a1:Int) (v274:Int) (kk0:(List Int) → Int → Int → Option (Bool × (List Int))) (v557:Int):Nat → (List Int) → Int → Option (Bool × (List Int))
 | 0,_,_=>none
 | n5 + 1,v769,v770 =>
   bnd (decide (1 ≤ v770)) fun x793 =>
   bif x793 then (
    bno (gix v769 v770) fun x795 =>
    bno (v769[(v770:Int).toNat]?) fun x796 =>
    bnd (IntKind.wrap .i64 (v770 - 1)) fun x797 =>
    bno (gix v769 x797) fun x798 =>
    bno (v769[(x797:Int).toNat]?) fun x799 =>
    bno (gD x796 x799) fun x800 =>
    bif (!x800) then (
     dY a1 v274 kk0 v557 v769
    ) else (
      bnd (IntKind.wrap .i64 (v770 - 1)) fun x802 =>
      bnd (IntKind.wrap .i64 (v770 - 1)) fun x803 =>
      bno (gix v769 x803) fun x804 =>
      bno (v769[(x803:Int).toNat]?) fun x805 =>
      bno (gix v769 v770) fun x806 =>
      bno (v769[(v770:Int).toNat]?) fun x807 =>
      bno (gix v769 v770) fun x808 =>
      bno (v769[(v770:Int).toNat]?) fun x809 =>
      bnd (v769.set ((v770:Int).toNat) x805) fun x810 =>
      bno (gix x810 x802) fun x811 =>
      bno (x810[(x802:Int).toNat]?) fun x812 =>
      bnd (x810.set ((x802:Int).toNat) x807) fun x813 =>
      bnd (IntKind.wrap .i64 (v770 - 1)) fun x814 =>
      (dV a1 v274 kk0 v557 n5) x813 x814
    )
   ) else (
     dY a1 v274 kk0 v557 v769
   )
def dX (a0 : Int) (a1:Int) (v272:(List Int)) (v274:Int) (kk0:(List Int) → Int → Int → Option (Bool × (List Int))):Nat → Int → Option (Bool × (List Int))
 | 0,_=>none
 | n1 + 1, v557 =>
   bnd (decide (v557 < a1)) fun x568 =>
   bno (gd (x568 == true) (gix v272 v557) default) fun x569 =>
   bno (gd (x568 == true) (v272[(v557:Int).toNat]?) default) fun x570 =>
   bnd (IntKind.wrap .i64 (v557 - 1)) fun x571 =>
   bno (gd (x568 == true) (gix v272 x571) default) fun x572 =>
   bno (gd (x568 == true) (v272[(x571:Int).toNat]?) default) fun x573 =>
   bno (gd (x568 == true) (gD x570 x573) default) fun x574 =>
   bnd (x568 && (!x574)) fun x575 =>
   bif x575 then (
    bnd (IntKind.wrap .i64 (v557 + 1)) fun x577 =>
    (dX a0 a1 v272 v274 kk0 n1) x577
   ) else (
     bnd (decide (v557=a1)) fun x578 =>
     bif x578 then (
      some (true,v272)
     ) else (
       bnd (IntKind.wrap .i64 (a1 - a0)) fun x580 =>
       bnd (decide (x580 < 50)) fun x581 =>
       bif x581 then (
        some (false,v272)
       ) else (
         bnd (IntKind.wrap .i64 (v557 - 1)) fun x583 =>
         bnd (IntKind.wrap .i64 (v557 - 1)) fun x584 =>
         bno (gix v272 x584) fun x585 =>
         bno (v272[(x584:Int).toNat]?) fun x586 =>
         bno (gix v272 v557) fun x587 =>
         bno (v272[(v557:Int).toNat]?) fun x588 =>
         bno (gix v272 v557) fun x589 =>
         bno (v272[(v557:Int).toNat]?) fun x590 =>
         bnd (v272.set ((v557:Int).toNat) x586) fun x591 =>
         bno (gix x591 x583) fun x592 =>
         bno (x591[(x583:Int).toNat]?) fun x593 =>
         bnd (x591.set ((x583:Int).toNat) x588) fun x594 =>
         bnd (IntKind.wrap .i64 (v557 - a0)) fun x743 =>
         bnd (decide (2 ≤ x743)) fun x744 =>
         bif x744 then (
          bnd (IntKind.wrap .i64 (v557 - 1)) fun x746 =>
          dV a1 v274 kk0 v557 fuel x594 x746
         ) else (
           dY a1 v274 kk0 v557 x594
         )
       )
     )
   )
def bZ (a0:Int) (a1:Int):Nat → (List Int) → Int → Int → Option (Bool × (List Int))
 | 0,_,_,_=>none
 | n0 + 1,v272,v273,v274 =>
   bnd (decide (v274 < 5)) fun x545 =>
   bif x545 then (
    dX a0 a1 v272 v274 (bZ a0 a1 n0) fuel v273
   ) else (
     some (false,v272)
   )
def gF (a0:Int) (a1:Int) (a2:(List Int)):Option (Bool × (List Int)) :=
 bnd (IntKind.wrap .i64 (a0 + 1)) fun x1 =>
 bZ a0 a1 fuel a2 x1 0

def eN (a0:Int) (v83:(List Int)) (kk0:(List Int) → Int → Int → Option (Int × (List Int))) (v165:Int):Nat → Int → Option (Int × (List Int))
 | 0,_=>none
 | n2 + 1,v193 =>
   bnd (decide (v165 ≤ v193)) fun x203 =>
   bno (gd (x203 == true) (gix v83 a0) default) fun x204 =>
   bno (gd (x203 == true) (v83[(a0:Int).toNat]?) default) fun x205 =>
   bno (gd (x203 == true) (gix v83 v193) default) fun x206 =>
   bno (gd (x203 == true) (v83[(v193:Int).toNat]?) default) fun x207 =>
   bno (gd (x203 == true) (gD x205 x207) default) fun x208 =>
   bnd (x203 && x208) fun x209 =>
   bif x209 then (
    bnd (IntKind.wrap .i64 (v193 - 1)) fun x211 =>
    (eN a0 v83 kk0 v165 n2) x211
   ) else (
     bnd (decide (v193 < v165)) fun x212 =>
     bif x212 then (
      some (v165,v83)
     ) else (
       bno (gix v83 v193) fun x214 =>
       bno (v83[(v193:Int).toNat]?) fun x215 =>
       bno (gix v83 v165) fun x216 =>
       bno (v83[(v165:Int).toNat]?) fun x217 =>
       bno (gix v83 v165) fun x218 =>
       bno (v83[(v165:Int).toNat]?) fun x219 =>
       bnd (v83.set ((v165:Int).toNat) x215) fun x220 =>
       bno (gix x220 v193) fun x221 =>
       bno (x220[(v193:Int).toNat]?) fun x222 =>
       bnd (x220.set ((v193:Int).toNat) x217) fun x223 =>
       bnd (IntKind.wrap .i64 (v165 + 1)) fun x224 =>
       bnd (IntKind.wrap .i64 (v193 - 1)) fun x225 =>
       kk0 x223 x224 x225
     )
   )
def eO (a0:Int) (v83:(List Int)) (v85:Int) (kk0:(List Int) → Int → Int → Option (Int × (List Int))):Nat → Int → Option (Int × (List Int))
 | 0,_=>none
 | n1 + 1,v165 =>
   bnd (decide (v165 ≤ v85)) fun x175 =>
   bno (gd (x175 == true) (gix v83 a0) default) fun x176 =>
   bno (gd (x175 == true) (v83[(a0:Int).toNat]?) default) fun x177 =>
   bno (gd (x175 == true) (gix v83 v165) default) fun x178 =>
   bno (gd (x175 == true) (v83[(v165:Int).toNat]?) default) fun x179 =>
   bno (gd (x175 == true) (gD x177 x179) default) fun x180 =>
   bnd (x175 && (!x180)) fun x181 =>
   bif x181 then (
    bnd (IntKind.wrap .i64 (v165 + 1)) fun x183 =>
    (eO a0 v83 v85 kk0 n1) x183
   ) else (
     eN a0 v83 kk0 v165 fuel v85
   )
def dF (a0:Int):Nat → (List Int) → Int → Int → Option (Int × (List Int))
 | 0,_,_,_=>none
 | n0 + 1,v83,v84,v85 =>
   eO a0 v83 v85 (dF a0 n0) fuel v84
def hP (a0:Int) (a1:Int) (a2:Int) (a3:(List Int)):Option (Int × (List Int)) :=
 bno (gix a3 a2) fun x1 =>
 bno (a3[(a2:Int).toNat]?) fun x2 =>
 bno (gix a3 a0) fun x3 =>
 bno (a3[(a0:Int).toNat]?) fun x4 =>
 bno (gix a3 a0) fun x5 =>
 bno (a3[(a0:Int).toNat]?) fun x6 =>
 bnd (a3.set ((a0:Int).toNat) x2) fun x7 =>
 bno (gix x7 a2) fun x8 =>
 bno (x7[(a2:Int).toNat]?) fun x9 =>
 bnd (x7.set ((a2:Int).toNat) x4) fun x10 =>
 bnd (IntKind.wrap .i64 (a0 + 1)) fun x11 =>
 bnd (IntKind.wrap .i64 (a1 - 1)) fun x12 =>
 dF a0 fuel x10 x11 x12

def fH (a0:Int) (v163:(List Int)) (kk2:(List Int) → Int → Int → Option (Int × Bool × (List Int))) (v245:Int):Nat → Int → Option (Int × Bool × (List Int))
 | 0,_=>none
 | n4 + 1,v273 =>
   bnd (decide (v245 ≤ v273)) fun x283 =>
   bno (gd (x283 == true) (gix v163 v273) default) fun x284 =>
   bno (gd (x283 == true) (v163[(v273:Int).toNat]?) default) fun x285 =>
   bno (gd (x283 == true) (gix v163 a0) default) fun x286 =>
   bno (gd (x283 == true) (v163[(a0:Int).toNat]?) default) fun x287 =>
   bno (gd (x283 == true) (gD x285 x287) default) fun x288 =>
   bnd (x283 && (!x288)) fun x289 =>
   bif x289 then (
    bnd (IntKind.wrap .i64 (v273 - 1)) fun x291 =>
    (fH a0 v163 kk2 v245 n4) x291
   ) else (
     bnd (decide (v273 < v245)) fun x292 =>
     bif x292 then (
      bno (gix v163 a0) fun x294 =>
      bno (v163[(a0:Int).toNat]?) fun x295 =>
      bno (gix v163 v273) fun x296 =>
      bno (v163[(v273:Int).toNat]?) fun x297 =>
      bno (gix v163 v273) fun x298 =>
      bno (v163[(v273:Int).toNat]?) fun x299 =>
      bnd (v163.set ((v273:Int).toNat) x295) fun x300 =>
      bno (gix x300 a0) fun x301 =>
      bno (x300[(a0:Int).toNat]?) fun x302 =>
      bnd (x300.set ((a0:Int).toNat) x297) fun x303 =>
      some (v273,false,x303)
     ) else (
       bno (gix v163 v273) fun x304 =>
       bno (v163[(v273:Int).toNat]?) fun x305 =>
       bno (gix v163 v245) fun x306 =>
       bno (v163[(v245:Int).toNat]?) fun x307 =>
       bno (gix v163 v245) fun x308 =>
       bno (v163[(v245:Int).toNat]?) fun x309 =>
       bnd (v163.set ((v245:Int).toNat) x305) fun x310 =>
       bno (gix x310 v273) fun x311 =>
       bno (x310[(v273:Int).toNat]?) fun x312 =>
       bnd (x310.set ((v273:Int).toNat) x307) fun x313 =>
       bnd (IntKind.wrap .i64 (v245 + 1)) fun x314 =>
       bnd (IntKind.wrap .i64 (v273 - 1)) fun x315 =>
       kk2 x313 x314 x315
     )
   )
def fI (a0:Int) (v163:(List Int)) (v165:Int) (kk2:(List Int) → Int → Int → Option (Int × Bool × (List Int))):Nat → Int → Option (Int × Bool × (List Int))
 | 0,_=>none
 | n3 + 1,v245 =>
   bnd (decide (v245 ≤ v165)) fun x255 =>
   bno (gd (x255 == true) (gix v163 v245) default) fun x256 =>
   bno (gd (x255 == true) (v163[(v245:Int).toNat]?) default) fun x257 =>
   bno (gd (x255 == true) (gix v163 a0) default) fun x258 =>
   bno (gd (x255 == true) (v163[(a0:Int).toNat]?) default) fun x259 =>
   bno (gd (x255 == true) (gD x257 x259) default) fun x260 =>
   bnd (x255 && x260) fun x261 =>
   bif x261 then (
    bnd (IntKind.wrap .i64 (v245 + 1)) fun x263 =>
    (fI a0 v163 v165 kk2 n3) x263
   ) else (
     fH a0 v163 kk2 v245 fuel v165
   )
def eA (a0:Int):Nat → (List Int) → Int → Int → Option (Int × Bool × (List Int))
 | 0,_,_,_=>none
 | n2 + 1,v163,v164,v165 =>
   fI a0 v163 v165 (eA a0 n2) fuel v164
def fJ (a0:Int) (x10:(List Int)) (v22:Int):Nat → Int → Option (Int × Bool × (List Int))
 | 0,_=>none
 | n1 + 1,v50 =>
   bnd (decide (v22 ≤ v50)) fun x60 =>
   bno (gd (x60 == true) (gix x10 v50) default) fun x61 =>
   bno (gd (x60 == true) (x10[(v50:Int).toNat]?) default) fun x62 =>
   bno (gd (x60 == true) (gix x10 a0) default) fun x63 =>
   bno (gd (x60 == true) (x10[(a0:Int).toNat]?) default) fun x64 =>
   bno (gd (x60 == true) (gD x62 x64) default) fun x65 =>
   bnd (x60 && (!x65)) fun x66 =>
   bif x66 then (
    bnd (IntKind.wrap .i64 (v50 - 1)) fun x68 =>
    (fJ a0 x10 v22 n1) x68
   ) else (
     bnd (decide (v50 < v22)) fun x69 =>
     bif x69 then (
      bno (gix x10 a0) fun x71 =>
      bno (x10[(a0:Int).toNat]?) fun x72 =>
      bno (gix x10 v50) fun x73 =>
      bno (x10[(v50:Int).toNat]?) fun x74 =>
      bno (gix x10 v50) fun x75 =>
      bno (x10[(v50:Int).toNat]?) fun x76 =>
      bnd (x10.set ((v50:Int).toNat) x72) fun x77 =>
      bno (gix x77 a0) fun x78 =>
      bno (x77[(a0:Int).toNat]?) fun x79 =>
      bnd (x77.set ((a0:Int).toNat) x74) fun x80 =>
      some (v50,true,x80)
     ) else (
       bno (gix x10 v50) fun x81 =>
       bno (x10[(v50:Int).toNat]?) fun x82 =>
       bno (gix x10 v22) fun x83 =>
       bno (x10[(v22:Int).toNat]?) fun x84 =>
       bno (gix x10 v22) fun x85 =>
       bno (x10[(v22:Int).toNat]?) fun x86 =>
       bnd (x10.set ((v22:Int).toNat) x82) fun x87 =>
       bno (gix x87 v50) fun x88 =>
       bno (x87[(v50:Int).toNat]?) fun x89 =>
       bnd (x87.set ((v50:Int).toNat) x84) fun x90 =>
       bnd (IntKind.wrap .i64 (v22 + 1)) fun x91 =>
       bnd (IntKind.wrap .i64 (v50 - 1)) fun x92 =>
       eA a0 fuel x90 x91 x92
     )
   )
def fK (a0:Int) (x10:(List Int)) (x12:Int):Nat → Int → Option (Int × Bool × (List Int))
 | 0,_=>none
 | n0 + 1,v22 =>
   bnd (decide (v22 ≤ x12)) fun x32 =>
   bno (gd (x32 == true) (gix x10 v22) default) fun x33 =>
   bno (gd (x32 == true) (x10[(v22:Int).toNat]?) default) fun x34 =>
   bno (gd (x32 == true) (gix x10 a0) default) fun x35 =>
   bno (gd (x32 == true) (x10[(a0:Int).toNat]?) default) fun x36 =>
   bno (gd (x32 == true) (gD x34 x36) default) fun x37 =>
   bnd (x32 && x37) fun x38 =>
   bif x38 then (
    bnd (IntKind.wrap .i64 (v22 + 1)) fun x40 =>
    (fK a0 x10 x12 n0) x40
   ) else (
     fJ a0 x10 v22 fuel x12
   )
def jG (a0:Int) (a1:Int) (a2:Int) (a3:(List Int)):Option (Int × Bool × (List Int)) :=
 bno (gix a3 a2) fun x1 =>
 bno (a3[(a2:Int).toNat]?) fun x2 =>
 bno (gix a3 a0) fun x3 =>
 bno (a3[(a0:Int).toNat]?) fun x4 =>
 bno (gix a3 a0) fun x5 =>
 bno (a3[(a0:Int).toNat]?) fun x6 =>
 bnd (a3.set ((a0:Int).toNat) x2) fun x7 =>
 bno (gix x7 a2) fun x8 =>
 bno (x7[(a2:Int).toNat]?) fun x9 =>
 bnd (x7.set ((a2:Int).toNat) x4) fun x10 =>
 bnd (IntKind.wrap .i64 (a0 + 1)) fun x11 =>
 bnd (IntKind.wrap .i64 (a1 - 1)) fun x12 =>
 fK a0 x10 x12 fuel x11

def fQ (a0:Int) (v40:(List Int)) (v41:Int) (kk0:(List Int) → Int → Int → Option (List Int)) (x79:(Int × Int)) (v86:Int):Option (List Int) :=
 bnd (IntKind.wrap .i64 (a0 + v86)) fun x87 =>
 bnd (IntKind.wrap .i64 (a0 + v86)) fun x88 =>
 bno (gix v40 x88) fun x89 =>
 bno (v40[(x88:Int).toNat]?) fun x90 =>
 bno (gix v40 v41) fun x91 =>
 bno (v40[(v41:Int).toNat]?) fun x92 =>
 bno (gix v40 v41) fun x93 =>
 bno (v40[(v41:Int).toNat]?) fun x94 =>
 bnd (v40.set ((v41:Int).toNat) x90) fun x95 =>
 bno (gix x95 x87) fun x96 =>
 bno (x95[(x87:Int).toNat]?) fun x97 =>
 bnd (x95.set ((x87:Int).toNat) x92) fun x98 =>
 bnd (IntKind.wrap .i64 (v41 + 1)) fun x99 =>
 kk0 x98 x99 x79.2
def dM (a0:Int) (x1:Int) (x5:Int):Nat → (List Int) → Int → Int → Option (List Int)
 | 0,_,_,_=>none
 | n0 + 1,v40,v41,v42 =>
   bno (quoI .i64 x1 4) fun x73 =>
   bnd (IntKind.wrap .i64 (x73 * 2)) fun x74 =>
   bnd (IntKind.wrap .i64 (a0 + x74)) fun x75 =>
   bnd (IntKind.wrap .i64 (x75 + 1)) fun x76 =>
   bnd (decide (v41 ≤ x76)) fun x77 =>
   bif x77 then (
    bno (kK v42) fun x79 =>
    bnd (IntKind.wrap .u64 (x5 - 1)) fun x80 =>
    bnd (andI .u64 x79.1 x80) fun x81 =>
    bnd (IntKind.wrap .i64 x81) fun x82 =>
    bnd (decide (x1 ≤ x82)) fun x100 =>
    bif x100 then (
     bnd (IntKind.wrap .i64 (x82 - x1)) fun x102 =>
     fQ a0 v40 v41 (dM a0 x1 x5 n0) x79 x102
    ) else (
      fQ a0 v40 v41 (dM a0 x1 x5 n0) x79 x82
    )
   ) else (
     some v40
   )
def iA (a0:Int) (a1:Int) (a2:(List Int)):Option (List Int) :=
 bnd (IntKind.wrap .i64 (a1 - a0)) fun x1 =>
 bnd (decide (8 ≤ x1)) fun x2 =>
 bif x2 then (
  bnd (IntKind.wrap .u64 x1) fun x4 =>
  bno (kR x1) fun x5 =>
  bno (quoI .i64 x1 4) fun x6 =>
  bnd (IntKind.wrap .i64 (x6 * 2)) fun x7 =>
  bnd (IntKind.wrap .i64 (a0 + x7)) fun x8 =>
  bnd (IntKind.wrap .i64 (x8 - 1)) fun x9 =>
  dM a0 x1 x5 fuel a2 x9 x4
 ) else (
   some a2
 )

def gP (rec0:Int → Int → Int → (List Int) → Option (List Int)) (v70:Int) (v71:Int) (v72:Bool) (v73:Bool) (kk0:(List Int) → Int → Int → Bool → Bool → Int → Option (List Int)) (x231:Int) (v245:Int) (v255:Int) (v264:(List Int)):Option (List Int) :=
 bnd (decide (0 < v70)) fun x265 =>
 bnd (IntKind.wrap .i64 (v70 - 1)) fun x266 =>
 bno (gd (x265 == true) (gix v264 x266) default) fun x267 =>
 bno (gd (x265 == true) (v264[(x266:Int).toNat]?) default) fun x268 =>
 bno (gd (x265 == true) (gix v264 v255) default) fun x269 =>
 bno (gd (x265 == true) (v264[(v255:Int).toNat]?) default) fun x270 =>
 bno (gd (x265 == true) (gD x268 x270) default) fun x271 =>
 bnd (x265 && (!x271)) fun x272 =>
 bif x272 then (
  bno (hP v70 v71 v255 v264) fun x274 =>
  chk (x274.2.length=v264.length)<|kk0 x274.2 x274.1 v71 v72 v73 v245
 ) else (
   bno (jG v70 v71 v255 v264) fun x276 =>
   chk (x276.2.2.length=v264.length)<|bnd (IntKind.wrap .i64 (x276.1 - v70)) fun x278 =>
   bnd (IntKind.wrap .i64 (v71 - x276.1)) fun x279 =>
   bno (quoI .i64 x231 8) fun x280 =>
   bnd (decide (x278 < x279)) fun x281 =>
   bif x281 then (
    bnd (decide (x280 ≤ x278)) fun x283 =>
    bno (rec0 v70 x276.1 v245 x276.2.2) fun x284 =>
    chk (x284.length=v264.length)<|bnd (IntKind.wrap .i64 (x276.1 + 1)) fun x286 =>
    kk0 x284 x286 v71 x283 x276.2.1 v245
   ) else (
     bnd (decide (x280 ≤ x279)) fun x287 =>
     bnd (IntKind.wrap .i64 (x276.1 + 1)) fun x288 =>
     bno (rec0 x288 v71 v245 x276.2.2) fun x289 =>
     chk (x289.length=v264.length)<|kk0 x289 v70 x276.1 x287 x276.2.1 v245
   )
 )
def gQ (rec0:Int → Int → Int → (List Int) → Option (List Int)) (v70:Int) (v71:Int) (v72:Bool) (v73:Bool) (kk0:(List Int) → Int → Int → Bool → Bool → Int → Option (List Int)) (x231:Int) (v245:Int) (v254:(List Int)) (v255:Int) (v256:Int):Option (List Int) :=
 bnd (v72 && v73) fun x291 =>
 bnd (decide (v256=1)) fun x292 =>
 bnd (x291 && x292) fun x293 =>
 bif x293 then (
  bno (gF v70 v71 v254) fun x295 =>
  chk (x295.2.length=v254.length)<|bif x295.1 then (
   some x295.2
  ) else (
    gP rec0 v70 v71 v72 v73 kk0 x231 v245 v255 x295.2
  )
 ) else (
   gP rec0 v70 v71 v72 v73 kk0 x231 v245 v255 v254
 )
def gR (rec0:Int → Int → Int → (List Int) → Option (List Int)) (v70:Int) (v71:Int) (v72:Bool) (v73:Bool) (kk0:(List Int) → Int → Int → Bool → Bool → Int → Option (List Int)) (x231:Int) (v244:(List Int)) (v245:Int):Option (List Int) :=
 bno (jH v244 v70 v71) fun x246 =>
 bnd (decide (x246.2=2)) fun x298 =>
 bif x298 then (
  bno (iI v70 v71 v244) fun x300 =>
  chk (x300.length=v244.length)<|bnd (IntKind.wrap .i64 (v71 - 1)) fun x302 =>
  bnd (IntKind.wrap .i64 (x246.1 - v70)) fun x303 =>
  bnd (IntKind.wrap .i64 (x302 - x303)) fun x304 =>
  gQ rec0 v70 v71 v72 v73 kk0 x231 v245 x300 x304 1
 ) else (
   gQ rec0 v70 v71 v72 v73 kk0 x231 v245 v244 x246.1 x246.2
 )
def dG (rec0:Int → Int → Int → (List Int) → Option (List Int)):Nat → (List Int) → Int → Int → Bool → Bool → Int → Option (List Int)
 | 0,_,_,_,_,_,_=>none
 | n0 + 1,v69,v70,v71,v72,v73,v152 =>
   bnd (IntKind.wrap .i64 (v71 - v70)) fun x231 =>
   bnd (decide (x231 ≤ 12)) fun x232 =>
   bif x232 then (
    bno (hZ v70 v71 v69) fun x234 =>
    chk (x234.length=v69.length)<|some x234
   ) else (
     bnd (decide (v152=0)) fun x236 =>
     bif x236 then (
      bno (jQ v70 v71 v69) fun x238 =>
      chk (x238.length=v69.length)<|some x238
     ) else (
       bif (!v72) then (
        bno (iA v70 v71 v69) fun x306 =>
        chk (x306.length=v69.length)<|bnd (IntKind.wrap .i64 (v152 - 1)) fun x308 =>
        gR rec0 v70 v71 v72 v73 (dG rec0 n0) x231 x306 x308
       ) else (
         gR rec0 v70 v71 v72 v73 (dG rec0 n0) x231 v69 v152
       )
     )
   )
def jF (rec0:Int → Int → Int → (List Int) → Option (List Int)) (a0:Int) (a1:Int) (a2:Int) (a3:(List Int)):Option (List Int) :=
 dG rec0 fuel a3 a0 a1 true true a2
def cZ:Nat → Int → Int → Int → (List Int) → Option (List Int)
 | 0,_,_,_,_=>none
 | nr + 1,a0,a1,a2,a3=>jF (cZ nr) a0 a1 a2 a3

def kS (a0:(List Int)):Option (List Int) :=
 bnd (IntKind.wrap .u64 (a0.length:Int)) fun x1 =>
 bno (oF x1) fun x2 =>
 bno (cZ fuel 0 (a0.length:Int) x2 a0) fun x3 =>
 chk (x3.length=a0.length)<|some x3

def jC (a1:Int) (a2:Int) (a3:(List aP)) (a4:Int) (a5:Int) (a6:(List aM)) (a7:Int) (a8:(List Int)) (v18:(List Bool)) (v98:(List Int)) (v99:Int) (kk1:(List Int) → Int → Option (List Int)):Nat → Bool → Int → Option (List Int)
 | 0,_,_=>none
 | n2 + 1,v161,v162 =>
   bno (gd (v161 == true) (gix a6 v162) default) fun x175 =>
   chk ((v161 == true)=true → a6.length=64)<|bno (gd (v161 == true) (a6[(v162:Int).toNat]?) default) fun x177 =>
   bnd (!decide (x177.up=(-1))) fun x178 =>
   bnd (v161 && x178) fun x179 =>
   bif x179 then (
    bno (gix a6 v162) fun x181 =>
    chk (a6.length=64)<|bno (a6[(v162:Int).toNat]?) fun x183 =>
    bno (gix v18 x183.up) fun x184 =>
    chk (v18.length=64)<|bno (v18[(x183.up:Int).toNat]?) fun x186 =>
    (jC a1 a2 a3 a4 a5 a6 a7 a8 v18 v98 v99 kk1 n2) (!x186) x183.up
   ) else (
     bif v161 then (
      bno (iZ v99 a1 a2 a3 a4 a5 a6 a7 a8) fun x188 =>
      bno (app 8 v98 ([x188]:(List Int))) fun x189 =>
      bnd (IntKind.wrap .i64 (v99 + 1)) fun x190 =>
      kk1 x189 x190
     ) else (
       bnd (IntKind.wrap .i64 (v99 + 1)) fun x191 =>
       kk1 v98 x191
     )
   )
def hD (a1:Int) (a2:Int) (a3:(List aP)) (a4:Int) (a5:Int) (a6:(List aM)) (a7:Int) (a8:(List Int)) (v18:(List Bool)):Nat → (List Int) → Int → Option (List Int)
 | 0,_,_=>none
 | n1 + 1,v98,v99 =>
   bnd (decide (v99 < 64)) fun x146 =>
   bif x146 then (
    bno (gix v18 v99) fun x148 =>
    jC a1 a2 a3 a4 a5 a6 a7 a8 v18 v98 v99 (hD a1 a2 a3 a4 a5 a6 a7 a8 v18 n1) fuel x148 v99
   ) else (
     bno (kS v98) fun x192 =>
     chk (x192.length=v98.length)<|some x192
   )
def hG (a0:(List Int)) (a1:Int) (a2:Int) (a3:(List aP)) (a4:Int) (a5:Int) (a6:(List aM)) (a7:Int) (a8:(List Int)):Nat → Int → (List Bool) → Option (List Int)
 | 0,_,_=>none
 | n0 + 1,v17,v18 =>
   bnd (decide (v17 < (a0.length:Int))) fun x35 =>
   bif x35 then (
    bno (gix a0 v17) fun x37 =>
    bno (gC x37 a1 a2 a3 a4 a5 a6 a7 a8) fun x38 =>
    bnd (!decide (x38=(-1))) fun x39 =>
    bno (gd (x39 == true) (gix a6 x38) default) fun x40 =>
    chk ((x39 == true)=true → a6.length=64)<|bno (gd (x39 == true) (a6[(x38:Int).toNat]?) default) fun x42 =>
    bnd (x39 && (!x42.closed)) fun x43 =>
    bif x43 then (
     bno (gix v18 x38) fun x45 =>
     chk (v18.length=64)<|bno (v18[(x38:Int).toNat]?) fun x47 =>
     bnd (v18.set ((x38:Int).toNat) true) fun x48 =>
     bnd (IntKind.wrap .i64 (v17 + 1)) fun x49 =>
     (hG a0 a1 a2 a3 a4 a5 a6 a7 a8 n0) x49 x48
    ) else (
      bnd (IntKind.wrap .i64 (v17 + 1)) fun x50 =>
      (hG a0 a1 a2 a3 a4 a5 a6 a7 a8 n0) x50 v18
    )
   ) else (
     chk (v18.length=64)<|hD a1 a2 a3 a4 a5 a6 a7 a8 v18 fuel ([]:(List Int)) 0
   )
def mL (a0:(List Int)) (a1:Int) (a2:Int) (a3:(List aP)) (a4:Int) (a5:Int) (a6:(List aM)) (a7:Int) (a8:(List Int)):Option (List Int) :=
 bnd ((List.replicate 64 false:(List Bool))) fun x1 =>
 hG a0 a1 a2 a3 a4 a5 a6 a7 a8 fuel 0 x1

def mM (a0:Int) (a1:Int) (a2:Int) (a3:(List aP)) (a4:Int) (a5:Int) (a6:(List aM)) (a7:Int) (a8:(List Int)):Option (Int × Int × Int × (List aP) × Int × Int × (List aM) × Int × (List Int)) :=
 bno (gC a0 a1 a2 a3 a4 a5 a6 a7 a8) fun x1 =>
 bnd (decide (x1=(-1))) fun x2 =>
 bif x2 then (
  some (6,a1,a2,a3,a4,a5,a6,a7,a8)
 ) else (
   bno (gix a6 x1) fun x4 =>
   chk (a6.length=64)<|bno (a6[(x1:Int).toNat]?) fun x6 =>
   bif x6.closed then (
    some (9,a1,a2,a3,a4,a5,a6,a7,a8)
   ) else (
     bno (gix a6 x1) fun x8 =>
     bno (a6[(x1:Int).toNat]?) fun x9 =>
     bnd (a6.set ((x1:Int).toNat) (⟨x9.id,x9.up,x9.first,x9.next,x9.weight,true⟩:aM)) fun x10 =>
     bno (app 8 a8 ([x1]:(List Int))) fun x11 =>
     bnd (decide (a2 < (x11.length:Int))) fun x12 =>
     bif x12 then (
      bno (gix x11 0) fun x14 =>
      bno (x11[(0:Int).toNat]?) fun x15 =>
      bno (mB x15 a1 a2 a3 a4 a5 x10 a7 x11) fun x16 =>
      some (0,x16.1,x16.2.1,x16.2.2.1,x16.2.2.2.1,x16.2.2.2.2.1,x16.2.2.2.2.2.1,x16.2.2.2.2.2.2.1,x16.2.2.2.2.2.2.2)
     ) else (
       some (0,a1,a2,a3,a4,a5,x10,a7,x11)
     )
   )
 )

def nI (a0:Int) (a1:Int) (a2:Int) (a3:(List aP)) (a4:Int) (a5:Int) (a6:(List aM)) (a7:Int) (a8:(List Int)):Option (Int × Int × Int × (List aP) × Int × Int × (List aM) × Int × (List Int)) :=
 bno (gC a0 a1 a2 a3 a4 a5 a6 a7 a8) fun x1 =>
 bnd (decide (x1=(-1))) fun x2 =>
 bif x2 then (
  some (6,a1,a2,a3,a4,a5,a6,a7,a8)
 ) else (
   bno (mB x1 a1 a2 a3 a4 a5 a6 a7 a8) fun x4 =>
   some (0,x4.1,x4.2.1,x4.2.2.1,x4.2.2.2.1,x4.2.2.2.2.1,x4.2.2.2.2.2.1,x4.2.2.2.2.2.2.1,x4.2.2.2.2.2.2.2)
 )

def lJ (v52:(List Int)):Option (List Int) :=
 bno (kS v52) fun x53 =>
 chk (x53.length=v52.length)<|some x53
def jN (a1:Int) (a2:Int) (a3:(List aP)) (a4:Int) (a5:Int) (a6:(List aM)) (a7:Int) (a8:(List Int)):Nat → Int → (List Int) → Option (List Int)
 | 0,_,_=>none
 | n3 + 1,v64,v65 =>
   bnd (!decide (v64=(-1))) fun x72 =>
   bif x72 then (
    bno (gix a6 v64) fun x74 =>
    bno (a6[(v64:Int).toNat]?) fun x75 =>
    bno (iZ v64 a1 a2 a3 a4 a5 a6 a7 a8) fun x76 =>
    bno (app 8 v65 ([x76]:(List Int))) fun x77 =>
    (jN a1 a2 a3 a4 a5 a6 a7 a8 n3) x75.next x77
   ) else (
     lJ v65
   )
def jM (a1:Int) (a2:Int) (a3:(List aP)) (a4:Int) (a5:Int) (a6:(List aM)) (a7:Int) (a8:(List Int)):Nat → Int → (List Int) → Option (List Int)
 | 0,_,_=>none
 | n4 + 1,v87,v88 =>
   bnd (!decide (v87=(-1))) fun x95 =>
   bif x95 then (
    bno (gix a6 v87) fun x97 =>
    bno (a6[(v87:Int).toNat]?) fun x98 =>
    bno (iZ v87 a1 a2 a3 a4 a5 a6 a7 a8) fun x99 =>
    bno (app 8 v88 ([x99]:(List Int))) fun x100 =>
    (jM a1 a2 a3 a4 a5 a6 a7 a8 n4) x98.next x100
   ) else (
     lJ v88
   )
def oP (a0:Int) (a1:Int) (a2:Int) (a3:(List aP)) (a4:Int) (a5:Int) (a6:(List aM)) (a7:Int) (a8:(List Int)):Option (List Int) :=
 bno (gC a0 a1 a2 a3 a4 a5 a6 a7 a8) fun x1 =>
 bnd (decide (x1=(-1))) fun x2 =>
 bnd (!decide (a0=0)) fun x3 =>
 bnd (x2 && x3) fun x4 =>
 bif x4 then (
  some ([]:(List Int))
 ) else (
   bnd (decide (x1=(-1))) fun x55 =>
   bif x55 then (
    chk (a6.length=64)<|jN a1 a2 a3 a4 a5 a6 a7 a8 fuel a7 ([]:(List Int))
   ) else (
     bno (gix a6 x1) fun x78 =>
     chk (a6.length=64)<|bno (a6[(x1:Int).toNat]?) fun x80 =>
     jM a1 a2 a3 a4 a5 a6 a7 a8 fuel x80.first ([]:(List Int))
   )
 )

def iQ (a0:Int) (a1:Int) (a2:(List aP)) (a3:Int) (a4:Int) (a5:(List aM)) (a6:Int) (a7:(List Int)):Nat → (List Int) → Int → Option (List Int)
 | 0,_,_=>none
 | n0 + 1,v9,v10 =>
   bnd (decide (v10 < (a7.length:Int))) fun x18 =>
   bif x18 then (
    bno (gix a7 v10) fun x20 =>
    bno (a7[(v10:Int).toNat]?) fun x21 =>
    bno (iZ x21 a0 a1 a2 a3 a4 a5 a6 a7) fun x22 =>
    bno (app 8 v9 ([x22]:(List Int))) fun x23 =>
    bnd (IntKind.wrap .i64 (v10 + 1)) fun x24 =>
    (iQ a0 a1 a2 a3 a4 a5 a6 a7 n0) x23 x24
   ) else (
     some v9
   )
def lX (a0:Int) (a1:Int) (a2:(List aP)) (a3:Int) (a4:Int) (a5:(List aM)) (a6:Int) (a7:(List Int)):Option (List Int) :=
 chk (a5.length=64)<|iQ a0 a1 a2 a3 a4 a5 a6 a7 fuel ([]:(List Int)) 0

def lI (v76:Bool):Option Bool :=
 some v76
def lH (v178:Bool):Option Bool :=
 some v178
def lG (v301:Bool):Option Bool :=
 some v301
def lF (v403:Bool):Option Bool :=
 some v403
def gB  : Option Bool :=
 bno (nT 8 1 24) fun x1 =>
 bno (gd ((!x1) == false) (nT 2 0 8) default) fun x2 =>
 bnd ((!x1) || (!x2)) fun x3 =>
 bif x3 then (
  bnd (!decide (8=0)) fun x5 =>
  bnd (x5 || true) fun x6 =>
  bif x6 then (
   some false
  ) else (
    bno (iS 1 0 16 false) fun x8 =>
    bno (iS 3 1 32 false) fun x9 =>
    bno (iS 5 3 8 false) fun x10 =>
    bno (nX 1 5 4 true) fun x11 =>
    bno (nG) fun x12 =>
    bno (oM x12) fun x13 =>
    bno (nV 3) fun x14 =>
    bno (mC ([3,1,9]:(List Int))) fun x15 =>
    bno (mE 1) fun x16 =>
    bno (mE 1) fun x17 =>
    bno (mC ([3,1,9]:(List Int))) fun x18 =>
    bno (mT 1) fun x19 =>
    bno (nY 5) fun x20 =>
    bno (iS 3 0 1 false) fun x21 =>
    bno (nT 0 1 24) fun x22 =>
    bno (gd ((!x22) == false) (nT 0 0 0) default) fun x23 =>
    bnd ((!x22) || (!x23)) fun x24 =>
    bif x24 then (
     bnd (decide (x8=0)) fun x77 =>
     bnd (decide (x9=0)) fun x78 =>
     bnd (x77 && x78) fun x79 =>
     bnd (decide (x10=0)) fun x80 =>
     bnd (x79 && x80) fun x81 =>
     bnd (decide (x11=0)) fun x82 =>
     bnd (x81 && x82) fun x83 =>
     bno (gd (x83 == true) (gY x13 ([(⟨1,5,4,false⟩:aG),(⟨3,1,32,false⟩:aG),(⟨5,0,8,false⟩:aG)]:(List aG))) default) fun x84 =>
     bnd (x83 && x84) fun x85 =>
     bno (gd (x85 == true) (cS x14 ([1,5]:(List Int))) default) fun x86 =>
     bnd (x85 && x86) fun x87 =>
     bno (gd (x87 == true) (cS x15 ([1]:(List Int))) default) fun x88 =>
     bnd (x87 && x88) fun x89 =>
     bnd (decide (x16=0)) fun x90 =>
     bnd (x89 && x90) fun x91 =>
     bnd (decide (x17=9)) fun x92 =>
     bnd (x91 && x92) fun x93 =>
     bno (gd (x93 == true) (cS x18 ([3]:(List Int))) default) fun x94 =>
     bnd (x93 && x94) fun x95 =>
     bnd (decide (x19=0)) fun x96 =>
     bnd (x95 && x96) fun x97 =>
     bno (gd (x97 == true) (cS x20 ([3]:(List Int))) default) fun x98 =>
     bnd (x97 && x98) fun x99 =>
     bnd (decide (x21=13)) fun x100 =>
     bnd (x99 && x100) fun x101 =>
     bnd (decide (8=8)) fun x102 =>
     bnd (x101 && x102) fun x103 =>
     bno (gd (x103 == true) (hR) default) fun x104 =>
     bnd (decide (x104=2)) fun x105 =>
     bnd (x103 && x105) fun x106 =>
     bif (x106 == true) then (
      bno (lN) fun x108 =>
      bnd (decide ((x108.length:Int)=0)) fun x109 =>
      bnd (x106 && x109) fun x110 =>
      bnd (bif x110 then true else false) fun x111 =>
      bnd (bif x111 then true else false) fun x112 =>
      bnd (bif x112 then true else false) fun x113 =>
      bnd (bif x113 then true else false) fun x114 =>
      bnd (bif x114 then true else false) fun x115 =>
      bnd (bif x115 then true else false) fun x116 =>
      bnd (bif x116 then true else false) fun x117 =>
      lI x117
     ) else (
       bnd (decide ((([]:(List Int)).length:Int)=0)) fun x118 =>
       bnd (x106 && x118) fun x119 =>
       bnd (bif x119 then true else false) fun x120 =>
       bnd (bif x120 then true else false) fun x121 =>
       bnd (bif x121 then true else false) fun x122 =>
       bnd (bif x122 then true else false) fun x123 =>
       bnd (bif x123 then true else false) fun x124 =>
       bnd (bif x124 then true else false) fun x125 =>
       bnd (bif x125 then true else false) fun x126 =>
       lI x126
     )
    ) else (
      bno (qW) fun x127 =>
      bnd (decide (x8=0)) fun x179 =>
      bnd (decide (x9=0)) fun x180 =>
      bnd (x179 && x180) fun x181 =>
      bnd (decide (x10=0)) fun x182 =>
      bnd (x181 && x182) fun x183 =>
      bnd (decide (x11=0)) fun x184 =>
      bnd (x183 && x184) fun x185 =>
      bno (gd (x185 == true) (gY x13 ([(⟨1,5,4,false⟩:aG),(⟨3,1,32,false⟩:aG),(⟨5,0,8,false⟩:aG)]:(List aG))) default) fun x186 =>
      bnd (x185 && x186) fun x187 =>
      bno (gd (x187 == true) (cS x14 ([1,5]:(List Int))) default) fun x188 =>
      bnd (x187 && x188) fun x189 =>
      bno (gd (x189 == true) (cS x15 ([1]:(List Int))) default) fun x190 =>
      bnd (x189 && x190) fun x191 =>
      bnd (decide (x16=0)) fun x192 =>
      bnd (x191 && x192) fun x193 =>
      bnd (decide (x17=9)) fun x194 =>
      bnd (x193 && x194) fun x195 =>
      bno (gd (x195 == true) (cS x18 ([3]:(List Int))) default) fun x196 =>
      bnd (x195 && x196) fun x197 =>
      bnd (decide (x19=0)) fun x198 =>
      bnd (x197 && x198) fun x199 =>
      bno (gd (x199 == true) (cS x20 ([3]:(List Int))) default) fun x200 =>
      bnd (x199 && x200) fun x201 =>
      bnd (decide (x21=13)) fun x202 =>
      bnd (x201 && x202) fun x203 =>
      bnd (decide (0=8)) fun x204 =>
      bnd (x203 && x204) fun x205 =>
      bno (gd (x205 == true) (hR) default) fun x206 =>
      bnd (decide (x206=2)) fun x207 =>
      bnd (x205 && x207) fun x208 =>
      bif (x208 == true) then (
       bno (lN) fun x210 =>
       bnd (decide ((x210.length:Int)=0)) fun x211 =>
       bnd (x208 && x211) fun x212 =>
       bnd (bif x212 then true else false) fun x213 =>
       bnd (bif x213 then true else false) fun x214 =>
       bnd (bif x214 then true else false) fun x215 =>
       bnd (bif x215 then true else false) fun x216 =>
       bnd (bif x216 then true else false) fun x217 =>
       bnd (bif x217 then true else false) fun x218 =>
       bnd (bif x218 then true else false) fun x219 =>
       lH x219
      ) else (
        bnd (decide ((([]:(List Int)).length:Int)=0)) fun x220 =>
        bnd (x208 && x220) fun x221 =>
        bnd (bif x221 then true else false) fun x222 =>
        bnd (bif x222 then true else false) fun x223 =>
        bnd (bif x223 then true else false) fun x224 =>
        bnd (bif x224 then true else false) fun x225 =>
        bnd (bif x225 then true else false) fun x226 =>
        bnd (bif x226 then true else false) fun x227 =>
        bnd (bif x227 then true else false) fun x228 =>
        lH x228
      )
    )
  )
 ) else (
   bno (qW) fun x229 =>
   bnd (!decide (0=0)) fun x230 =>
   bnd (x230 || false) fun x231 =>
   bif x231 then (
    some false
   ) else (
     bno (iR 1 0 16 false 8 2 x229.Cells x229.Free x229.Used ((List.replicate 64 (⟨0,0,0,0,0,false⟩:aM):(List aM))) (-1) []) fun x233 =>
     bno (iR 3 1 32 false x233.2.1 x233.2.2.1 x233.2.2.2.1 x233.2.2.2.2.1 x233.2.2.2.2.2.1 x233.2.2.2.2.2.2.1 x233.2.2.2.2.2.2.2.1 x233.2.2.2.2.2.2.2.2) fun x234 =>
     bno (iR 5 3 8 false x234.2.1 x234.2.2.1 x234.2.2.2.1 x234.2.2.2.2.1 x234.2.2.2.2.2.1 x234.2.2.2.2.2.2.1 x234.2.2.2.2.2.2.2.1 x234.2.2.2.2.2.2.2.2) fun x235 =>
     bno (oO 1 5 4 true x235.2.1 x235.2.2.1 x235.2.2.2.1 x235.2.2.2.2.1 x235.2.2.2.2.2.1 x235.2.2.2.2.2.2.1 x235.2.2.2.2.2.2.2.1 x235.2.2.2.2.2.2.2.2) fun x236 =>
     bno (nW x236.2.1 x236.2.2.1 x236.2.2.2.1 x236.2.2.2.2.1 x236.2.2.2.2.2.1 x236.2.2.2.2.2.2.1 x236.2.2.2.2.2.2.2.1 x236.2.2.2.2.2.2.2.2) fun x237 =>
     bno (nH x237) fun x238 =>
     bno (oN 3 x236.2.1 x236.2.2.1 x236.2.2.2.1 x236.2.2.2.2.1 x236.2.2.2.2.2.1 x236.2.2.2.2.2.2.1 x236.2.2.2.2.2.2.2.1 x236.2.2.2.2.2.2.2.2) fun x239 =>
     bno (mL ([3,1,9]:(List Int)) x236.2.1 x236.2.2.1 x236.2.2.2.1 x236.2.2.2.2.1 x236.2.2.2.2.2.1 x236.2.2.2.2.2.2.1 x236.2.2.2.2.2.2.2.1 x236.2.2.2.2.2.2.2.2) fun x240 =>
     bno (mM 1 x236.2.1 x236.2.2.1 x236.2.2.2.1 x236.2.2.2.2.1 x236.2.2.2.2.2.1 x236.2.2.2.2.2.2.1 x236.2.2.2.2.2.2.2.1 x236.2.2.2.2.2.2.2.2) fun x241 =>
     bno (mM 1 x241.2.1 x241.2.2.1 x241.2.2.2.1 x241.2.2.2.2.1 x241.2.2.2.2.2.1 x241.2.2.2.2.2.2.1 x241.2.2.2.2.2.2.2.1 x241.2.2.2.2.2.2.2.2) fun x242 =>
     bno (mL ([3,1,9]:(List Int)) x242.2.1 x242.2.2.1 x242.2.2.2.1 x242.2.2.2.2.1 x242.2.2.2.2.2.1 x242.2.2.2.2.2.2.1 x242.2.2.2.2.2.2.2.1 x242.2.2.2.2.2.2.2.2) fun x243 =>
     bno (nI 1 x242.2.1 x242.2.2.1 x242.2.2.2.1 x242.2.2.2.2.1 x242.2.2.2.2.2.1 x242.2.2.2.2.2.2.1 x242.2.2.2.2.2.2.2.1 x242.2.2.2.2.2.2.2.2) fun x244 =>
     bno (oP 5 x244.2.1 x244.2.2.1 x244.2.2.2.1 x244.2.2.2.2.1 x244.2.2.2.2.2.1 x244.2.2.2.2.2.2.1 x244.2.2.2.2.2.2.2.1 x244.2.2.2.2.2.2.2.2) fun x245 =>
     bno (iR 3 0 1 false x244.2.1 x244.2.2.1 x244.2.2.2.1 x244.2.2.2.2.1 x244.2.2.2.2.2.1 x244.2.2.2.2.2.2.1 x244.2.2.2.2.2.2.2.1 x244.2.2.2.2.2.2.2.2) fun x246 =>
     bno (nT 0 1 24) fun x247 =>
     bno (gd ((!x247) == false) (nT 0 0 0) default) fun x248 =>
     bnd ((!x247) || (!x248)) fun x249 =>
     bif x249 then (
      bnd (decide (x233.1=0)) fun x302 =>
      bnd (decide (x234.1=0)) fun x303 =>
      bnd (x302 && x303) fun x304 =>
      bnd (decide (x235.1=0)) fun x305 =>
      bnd (x304 && x305) fun x306 =>
      bnd (decide (x236.1=0)) fun x307 =>
      bnd (x306 && x307) fun x308 =>
      bno (gd (x308 == true) (gY x238 ([(⟨1,5,4,false⟩:aG),(⟨3,1,32,false⟩:aG),(⟨5,0,8,false⟩:aG)]:(List aG))) default) fun x309 =>
      bnd (x308 && x309) fun x310 =>
      bno (gd (x310 == true) (cS x239 ([1,5]:(List Int))) default) fun x311 =>
      bnd (x310 && x311) fun x312 =>
      bno (gd (x312 == true) (cS x240 ([1]:(List Int))) default) fun x313 =>
      bnd (x312 && x313) fun x314 =>
      bnd (decide (x241.1=0)) fun x315 =>
      bnd (x314 && x315) fun x316 =>
      bnd (decide (x242.1=9)) fun x317 =>
      bnd (x316 && x317) fun x318 =>
      bno (gd (x318 == true) (cS x243 ([3]:(List Int))) default) fun x319 =>
      bnd (x318 && x319) fun x320 =>
      bnd (decide (x244.1=0)) fun x321 =>
      bnd (x320 && x321) fun x322 =>
      bno (gd (x322 == true) (cS x245 ([3]:(List Int))) default) fun x323 =>
      bnd (x322 && x323) fun x324 =>
      bnd (decide (x246.1=13)) fun x325 =>
      bnd (x324 && x325) fun x326 =>
      bnd (decide (8=8)) fun x327 =>
      bnd (x326 && x327) fun x328 =>
      bno (gd (x328 == true) (mD x246.2.1 x246.2.2.1 x246.2.2.2.1 x246.2.2.2.2.1 x246.2.2.2.2.2.1 x246.2.2.2.2.2.2.1 x246.2.2.2.2.2.2.2.1 x246.2.2.2.2.2.2.2.2) default) fun x329 =>
      bnd (decide (x329=2)) fun x330 =>
      bnd (x328 && x330) fun x331 =>
      bif (x331 == true) then (
       bno (lX x246.2.1 x246.2.2.1 x246.2.2.2.1 x246.2.2.2.2.1 x246.2.2.2.2.2.1 x246.2.2.2.2.2.2.1 x246.2.2.2.2.2.2.2.1 x246.2.2.2.2.2.2.2.2) fun x333 =>
       bnd (decide ((x333.length:Int)=0)) fun x334 =>
       bnd (x331 && x334) fun x335 =>
       bnd (bif x335 then true else false) fun x336 =>
       bnd (bif x336 then true else false) fun x337 =>
       bnd (bif x337 then true else false) fun x338 =>
       bnd (bif x338 then true else false) fun x339 =>
       bnd (bif x339 then true else false) fun x340 =>
       bnd (bif x340 then true else false) fun x341 =>
       bnd (bif x341 then true else false) fun x342 =>
       lG x342
      ) else (
        bnd (decide ((([]:(List Int)).length:Int)=0)) fun x343 =>
        bnd (x331 && x343) fun x344 =>
        bnd (bif x344 then true else false) fun x345 =>
        bnd (bif x345 then true else false) fun x346 =>
        bnd (bif x346 then true else false) fun x347 =>
        bnd (bif x347 then true else false) fun x348 =>
        bnd (bif x348 then true else false) fun x349 =>
        bnd (bif x349 then true else false) fun x350 =>
        bnd (bif x350 then true else false) fun x351 =>
        lG x351
      )
     ) else (
       bno (qW) fun x352 =>
       bnd (decide (x233.1=0)) fun x404 =>
       bnd (decide (x234.1=0)) fun x405 =>
       bnd (x404 && x405) fun x406 =>
       bnd (decide (x235.1=0)) fun x407 =>
       bnd (x406 && x407) fun x408 =>
       bnd (decide (x236.1=0)) fun x409 =>
       bnd (x408 && x409) fun x410 =>
       bno (gd (x410 == true) (gY x238 ([(⟨1,5,4,false⟩:aG),(⟨3,1,32,false⟩:aG),(⟨5,0,8,false⟩:aG)]:(List aG))) default) fun x411 =>
       bnd (x410 && x411) fun x412 =>
       bno (gd (x412 == true) (cS x239 ([1,5]:(List Int))) default) fun x413 =>
       bnd (x412 && x413) fun x414 =>
       bno (gd (x414 == true) (cS x240 ([1]:(List Int))) default) fun x415 =>
       bnd (x414 && x415) fun x416 =>
       bnd (decide (x241.1=0)) fun x417 =>
       bnd (x416 && x417) fun x418 =>
       bnd (decide (x242.1=9)) fun x419 =>
       bnd (x418 && x419) fun x420 =>
       bno (gd (x420 == true) (cS x243 ([3]:(List Int))) default) fun x421 =>
       bnd (x420 && x421) fun x422 =>
       bnd (decide (x244.1=0)) fun x423 =>
       bnd (x422 && x423) fun x424 =>
       bno (gd (x424 == true) (cS x245 ([3]:(List Int))) default) fun x425 =>
       bnd (x424 && x425) fun x426 =>
       bnd (decide (x246.1=13)) fun x427 =>
       bnd (x426 && x427) fun x428 =>
       bnd (decide (0=8)) fun x429 =>
       bnd (x428 && x429) fun x430 =>
       bno (gd (x430 == true) (mD x246.2.1 x246.2.2.1 x246.2.2.2.1 x246.2.2.2.2.1 x246.2.2.2.2.2.1 x246.2.2.2.2.2.2.1 x246.2.2.2.2.2.2.2.1 x246.2.2.2.2.2.2.2.2) default) fun x431 =>
       bnd (decide (x431=2)) fun x432 =>
       bnd (x430 && x432) fun x433 =>
       bif (x433 == true) then (
        bno (lX x246.2.1 x246.2.2.1 x246.2.2.2.1 x246.2.2.2.2.1 x246.2.2.2.2.2.1 x246.2.2.2.2.2.2.1 x246.2.2.2.2.2.2.2.1 x246.2.2.2.2.2.2.2.2) fun x435 =>
        bnd (decide ((x435.length:Int)=0)) fun x436 =>
        bnd (x433 && x436) fun x437 =>
        bnd (bif x437 then true else false) fun x438 =>
        bnd (bif x438 then true else false) fun x439 =>
        bnd (bif x439 then true else false) fun x440 =>
        bnd (bif x440 then true else false) fun x441 =>
        bnd (bif x441 then true else false) fun x442 =>
        bnd (bif x442 then true else false) fun x443 =>
        bnd (bif x443 then true else false) fun x444 =>
        lF x444
       ) else (
         bnd (decide ((([]:(List Int)).length:Int)=0)) fun x445 =>
         bnd (x433 && x445) fun x446 =>
         bnd (bif x446 then true else false) fun x447 =>
         bnd (bif x447 then true else false) fun x448 =>
         bnd (bif x448 then true else false) fun x449 =>
         bnd (bif x449 then true else false) fun x450 =>
         bnd (bif x450 then true else false) fun x451 =>
         bnd (bif x451 then true else false) fun x452 =>
         bnd (bif x452 then true else false) fun x453 =>
         lF x453
       )
     )
   )
 )

def lL (a0:eY) (x1:Int) (v11:Bool):Option Int :=
 bif v11 then (
  bno (nX a0.ID a0.Dep a0.Weight a0.Only) fun x13 =>
  some x13
 ) else (
   bnd (decide (x1=4)) fun x14 =>
   bif x14 then (
    bno (mE a0.ID) fun x16 =>
    some x16
   ) else (
     bno (mT a0.ID) fun x17 =>
     some x17
   )
 )
def lM (a0:eY) (x1:Int) (v5:Bool):Option Int :=
 bif v5 then (
  bno (iS a0.ID a0.Dep a0.Weight a0.Only) fun x7 =>
  some x7
 ) else (
   bnd (decide (x1=2)) fun x18 =>
   bif x18 then (
    lL a0 x1 x18
   ) else (
     bnd (decide (x1=3)) fun x20 =>
     lL a0 x1 x20
   )
 )
def nC (a0:eY):Option Int :=
 bno (remI a0.Kind 6) fun x1 =>
 bnd (decide (x1=0)) fun x21 =>
 bif x21 then (
  lM a0 x1 x21
 ) else (
   bnd (decide (x1=1)) fun x23 =>
   lM a0 x1 x23
 )

def eM (v96:Bool):Option Bool :=
 some v96
def iD (a0:eY) (a1:(List Int)):Option Bool :=
 bnd (decide (40 < (a1.length:Int))) fun x1 =>
 bif x1 then (
  bno (gB) fun x3 =>
  some x3
 ) else (
   bno (nC a0) fun x97 =>
   bnd (decide (x97=1)) fun x98 =>
   bif (x98 == true) then (
    bno (nG) fun x100 =>
    bnd (decide ((x100.length:Int)=0)) fun x101 =>
    bnd (x98 && x101) fun x102 =>
    bif (x102 == true) then (
     bno (lN) fun x104 =>
     bnd (decide ((x104.length:Int)=0)) fun x105 =>
     bnd (x102 && x105) fun x106 =>
     bif (x106 == true) then (
      bno (nV a0.ID) fun x108 =>
      bnd (decide ((x108.length:Int)=0)) fun x109 =>
      bnd (x106 && x109) fun x110 =>
      bif (x110 == true) then (
       bno (nY a0.ID) fun x112 =>
       bnd (decide ((x112.length:Int)=0)) fun x113 =>
       bnd (x110 && x113) fun x114 =>
       bif (x114 == true) then (
        bno (mC a1) fun x116 =>
        bnd (decide ((x116.length:Int)=0)) fun x117 =>
        bnd (x114 && x117) fun x118 =>
        bno (gd (x118 == true) (hR) default) fun x119 =>
        bnd (decide (x119=0)) fun x120 =>
        bnd (x118 && x120) fun x121 =>
        bno (gd (x121 == true) (gB) default) fun x122 =>
        bnd (x121 && x122) fun x123 =>
        eM x123
       ) else (
         bnd (decide ((([]:(List Int)).length:Int)=0)) fun x124 =>
         bnd (x114 && x124) fun x125 =>
         bno (gd (x125 == true) (hR) default) fun x126 =>
         bnd (decide (x126=0)) fun x127 =>
         bnd (x125 && x127) fun x128 =>
         bno (gd (x128 == true) (gB) default) fun x129 =>
         bnd (x128 && x129) fun x130 =>
         eM x130
       )
      ) else (
        bnd (decide ((([]:(List Int)).length:Int)=0)) fun x131 =>
        bnd (x110 && x131) fun x132 =>
        bnd (decide ((([]:(List Int)).length:Int)=0)) fun x134 =>
        bnd (x132 && x134) fun x135 =>
        bno (gd (x135 == true) (hR) default) fun x136 =>
        bnd (decide (x136=0)) fun x137 =>
        bnd (x135 && x137) fun x138 =>
        bno (gd (x138 == true) (gB) default) fun x139 =>
        bnd (x138 && x139) fun x140 =>
        eM x140
      )
     ) else (
       bnd (decide ((([]:(List Int)).length:Int)=0)) fun x141 =>
       bnd (x106 && x141) fun x142 =>
       bnd (decide ((([]:(List Int)).length:Int)=0)) fun x144 =>
       bnd (x142 && x144) fun x145 =>
       bnd (decide ((([]:(List Int)).length:Int)=0)) fun x147 =>
       bnd (x145 && x147) fun x148 =>
       bno (gd (x148 == true) (hR) default) fun x149 =>
       bnd (decide (x149=0)) fun x150 =>
       bnd (x148 && x150) fun x151 =>
       bno (gd (x151 == true) (gB) default) fun x152 =>
       bnd (x151 && x152) fun x153 =>
       eM x153
     )
    ) else (
      bnd (decide ((([]:(List Int)).length:Int)=0)) fun x154 =>
      bnd (x102 && x154) fun x155 =>
      bnd (decide ((([]:(List Int)).length:Int)=0)) fun x157 =>
      bnd (x155 && x157) fun x158 =>
      bnd (decide ((([]:(List Int)).length:Int)=0)) fun x160 =>
      bnd (x158 && x160) fun x161 =>
      bnd (decide ((([]:(List Int)).length:Int)=0)) fun x163 =>
      bnd (x161 && x163) fun x164 =>
      bno (gd (x164 == true) (hR) default) fun x165 =>
      bnd (decide (x165=0)) fun x166 =>
      bnd (x164 && x166) fun x167 =>
      bno (gd (x167 == true) (gB) default) fun x168 =>
      bnd (x167 && x168) fun x169 =>
      eM x169
    )
   ) else (
     bnd (decide ((([]:(List aG)).length:Int)=0)) fun x170 =>
     bnd (x98 && x170) fun x171 =>
     bnd (decide ((([]:(List Int)).length:Int)=0)) fun x173 =>
     bnd (x171 && x173) fun x174 =>
     bnd (decide ((([]:(List Int)).length:Int)=0)) fun x176 =>
     bnd (x174 && x176) fun x177 =>
     bnd (decide ((([]:(List Int)).length:Int)=0)) fun x179 =>
     bnd (x177 && x179) fun x180 =>
     bnd (decide ((([]:(List Int)).length:Int)=0)) fun x182 =>
     bnd (x180 && x182) fun x183 =>
     bno (gd (x183 == true) (hR) default) fun x184 =>
     bnd (decide (x184=0)) fun x185 =>
     bnd (x183 && x185) fun x186 =>
     bno (gd (x186 == true) (gB) default) fun x187 =>
     bnd (x186 && x187) fun x188 =>
     eM x188
   )
 )

end Go.Fn
