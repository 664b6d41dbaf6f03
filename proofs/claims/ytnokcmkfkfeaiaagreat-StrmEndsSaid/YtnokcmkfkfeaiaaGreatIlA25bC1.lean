/-
  A part of the proof: rules and plain facts. No condition.
-/
import Derived.Test.YtnokcmkfkfeaiaaGreatProg
import Derived.KernelRfl
import Derived.Test.YtnokcmkfkfeaiaaGreatIlEq
import Derived.Test.YtnokcmkfkfeaiaaGreatIlA25bD
set_option linter.all false
set_option maxRecDepth 8000
set_option maxHeartbeats 2000000
open Go Go.IL Go.Fn Go.Proofs
namespace Go.Proofs.YtnokcmkfkfeaiaaGreat
theorem ti3 : TI Tryz.prog 3 (some (.int .i64 0)) 1 8:=by unfold TI; kernel_rfl
theorem ti4 : TI Tryz.prog 4 (some (.bool false)) 1 1:=by unfold TI; kernel_rfl
theorem ti9 : TI Tryz.prog 9 (some (.string ⟨#[]⟩)) 1 16:=by unfold TI; kernel_rfl
theorem ti30 : TI Tryz.prog 30 (some (.agg #[.int .u8 0,.int .u8 0,.int .u8 0,.string ⟨#[]⟩])) 4 24:=by unfold TI; kernel_rfl
theorem ti33 : TI Tryz.prog 33 (some (.slice none 0 0)) 1 24:=by unfold TI; kernel_rfl
theorem ti35 : TI Tryz.prog 35 (some (.slice none 0 0)) 1 24:=by unfold TI; kernel_rfl
theorem ti37 : TI Tryz.prog 37 (some (.agg #[.int .i64 0,.string ⟨#[]⟩,.int .i64 0,.slice none 0 0,.slice none 0 0,.bool false,.bool false,.bool false,.bool false])) 9 88:=by unfold TI; kernel_rfl
theorem ti38 : TI Tryz.prog 38 (some (.slice none 0 0)) 1 24:=by unfold TI; kernel_rfl
theorem ti40 : TI Tryz.prog 40 (some (.agg #[.int .i64 0,.string ⟨#[]⟩,.slice none 0 0])) 3 48:=by unfold TI; kernel_rfl
theorem ti42 : TI Tryz.prog 42 (some (.agg #[.int .i64 0,.string ⟨#[]⟩,.slice none 0 0,.int .i64 0])) 4 56:=by unfold TI; kernel_rfl
theorem ti44 : TI Tryz.prog 44 (some (.agg #[.int .i64 0,.int .i64 0,.int .i64 0,.int .i64 0])) 4 32:=by unfold TI; kernel_rfl
theorem ti46 : TI Tryz.prog 46 (some (.agg #[.int .i64 0,.int .i64 0,.string ⟨#[]⟩,.int .i64 0,.slice none 0 0,.slice none 0 0,.bool false,.bool false,.bool false,.bool false,.int .i64 0,.string ⟨#[]⟩,.slice none 0 0,.int .i64 0,.int .i64 0,.int .i64 0,.int .i64 0,.int .i64 0,.int .i64 0,.int .i64 0,.int .i64 0,.int .i64 0,.int .i64 0,.int .i64 0])) 24 232:=by unfold TI; kernel_rfl
theorem dH : TI Tryz.prog 105 (some (.agg #[.int .i64 0,.int .i64 0,.int .i64 0,.bool false])) 4 32:=by unfold TI; kernel_rfl
theorem zD : TI Tryz.prog 173 (some (.agg #[.int .i64 0,.string ⟨#[]⟩,.slice none 0 0,.int .i64 0])) 4 56:=by unfold TI; kernel_rfl
theorem fF : TI Tryz.prog 219 (some (.agg #[.int .i64 0,.int .i64 0])) 2 16:=by unfold TI; kernel_rfl
theorem fN : TI Tryz.prog 228 (some (.agg #[.int .i64 0,.string ⟨#[]⟩])) 2 24:=by unfold TI; kernel_rfl
theorem ti257 : TI Tryz.prog 257 (some (.agg #[.int .i64 0,.int .i64 0,.int .i64 0,.int .i64 0])) 4 32:=by unfold TI; kernel_rfl
theorem ag3 : gP Tryz.prog 3 = false:=by kernel_rfl
theorem ag4 : gP Tryz.prog 4 = false:=by kernel_rfl
theorem ag9 : gP Tryz.prog 9 = false:=by kernel_rfl
theorem ag33 : gP Tryz.prog 33 = false:=by kernel_rfl
theorem ag35 : gP Tryz.prog 35 = false:=by kernel_rfl
theorem ag37 : gP Tryz.prog 37 = true:=by kernel_rfl
theorem ag38 : gP Tryz.prog 38 = false:=by kernel_rfl
theorem ag40 : gP Tryz.prog 40 = true:=by kernel_rfl
theorem ag42 : gP Tryz.prog 42 = true:=by kernel_rfl
theorem ag44 : gP Tryz.prog 44 = true:=by kernel_rfl
theorem ag46 : gP Tryz.prog 46 = true:=by kernel_rfl
theorem nN : gP Tryz.prog 105 = true:=by kernel_rfl
theorem ag173 : gP Tryz.prog 173 = true:=by kernel_rfl
theorem tY : gP Tryz.prog 219 = true:=by kernel_rfl
theorem qN : gP Tryz.prog 228 = true:=by kernel_rfl
theorem xG : ∀ w,(Array.mapM (m:=Sem) (fun (f : Field)=>Functor.map (Prod.mk f.offset) (sizeOf f.type)) (fieldsOf Tryz.prog 105)).run Tryz.prog w = .ok #[(0,1),(1,1),(2,1),(3,1)] w:=fun w=>by kernel_rfl
theorem pl173 : ∀ w,(Array.mapM (m:=Sem) (fun (f : Field)=>Functor.map (Prod.mk f.offset) (sizeOf f.type)) (fieldsOf Tryz.prog 173)).run Tryz.prog w = .ok #[(0,3),(3,1)] w:=fun w=>by kernel_rfl
theorem aBT : ∀ w,(Array.mapM (m:=Sem) (fun (f : Field)=>Functor.map (Prod.mk f.offset) (sizeOf f.type)) (fieldsOf Tryz.prog 219)).run Tryz.prog w = .ok #[(0,1),(1,1)] w:=fun w=>by kernel_rfl
theorem pl37 : ∀ w,(Array.mapM (m:=Sem) (fun (f : Field)=>Functor.map (Prod.mk f.offset) (sizeOf f.type)) (fieldsOf Tryz.prog 37)).run Tryz.prog w = .ok #[(0,1),(1,1),(2,1),(3,1),(4,1),(5,1),(6,1),(7,1),(8,1)] w:=fun w=>by kernel_rfl
theorem pl40 : ∀ w,(Array.mapM (m:=Sem) (fun (f : Field)=>Functor.map (Prod.mk f.offset) (sizeOf f.type)) (fieldsOf Tryz.prog 40)).run Tryz.prog w = .ok #[(0,1),(1,1),(2,1)] w:=fun w=>by kernel_rfl
theorem pl42 : ∀ w,(Array.mapM (m:=Sem) (fun (f : Field)=>Functor.map (Prod.mk f.offset) (sizeOf f.type)) (fieldsOf Tryz.prog 42)).run Tryz.prog w = .ok #[(0,3),(3,1)] w:=fun w=>by kernel_rfl
theorem pl44 : ∀ w,(Array.mapM (m:=Sem) (fun (f : Field)=>Functor.map (Prod.mk f.offset) (sizeOf f.type)) (fieldsOf Tryz.prog 44)).run Tryz.prog w = .ok #[(0,1),(1,1),(2,1),(3,1)] w:=fun w=>by kernel_rfl
theorem pl46 : ∀ w,(Array.mapM (m:=Sem) (fun (f : Field)=>Functor.map (Prod.mk f.offset) (sizeOf f.type)) (fieldsOf Tryz.prog 46)).run Tryz.prog w = .ok #[(0,1),(1,9),(10,4),(14,4),(18,4),(22,1),(23,1)] w:=fun w=>by kernel_rfl
theorem st219 : Tryz.prog.stoodInHeld 219 = false ∧ Tryz.prog.eqGuardType Tryz.prog.depth 219 = false:=⟨by kernel_rfl,by kernel_rfl⟩
theorem cl20 : bH Tryz.prog 20:=⟨Tryz.f20,Tryz.func20,rfl,rfl⟩
theorem cl39 : bH Tryz.prog 39:=⟨Tryz.f39,Tryz.func39,rfl,rfl⟩
theorem cl40 : bH Tryz.prog 40:=⟨Tryz.f40,Tryz.func40,rfl,rfl⟩
theorem cl43 : bH Tryz.prog 43:=⟨Tryz.f43,Tryz.func43,rfl,rfl⟩
theorem cl44 : bH Tryz.prog 44:=⟨Tryz.f44,Tryz.func44,rfl,rfl⟩
theorem cl45 : bH Tryz.prog 45:=⟨Tryz.f45,Tryz.func45,rfl,rfl⟩
theorem cl63 : bH Tryz.prog 63:=⟨Tryz.f63,Tryz.func63,rfl,rfl⟩
theorem cl64 : bH Tryz.prog 64:=⟨Tryz.f64,Tryz.func64,rfl,rfl⟩
theorem cl69 : bH Tryz.prog 69:=⟨Tryz.f69,Tryz.func69,rfl,rfl⟩
theorem cl82 : bH Tryz.prog 82:=⟨Tryz.f82,Tryz.func82,rfl,rfl⟩
theorem cl83 : bH Tryz.prog 83:=⟨Tryz.f83,Tryz.func83,rfl,rfl⟩
theorem cl95 : bH Tryz.prog 95:=⟨Tryz.f95,Tryz.func95,rfl,rfl⟩
theorem cl96 : bH Tryz.prog 96:=⟨Tryz.f96,Tryz.func96,rfl,rfl⟩
theorem cl97 : bH Tryz.prog 97:=⟨Tryz.f97,Tryz.func97,rfl,rfl⟩
theorem cl100 : bH Tryz.prog 100:=⟨Tryz.f100,Tryz.func100,rfl,rfl⟩
theorem yG : bH Tryz.prog 117:=⟨Tryz.f117,Tryz.func117,rfl,rfl⟩
theorem cl118 : bH Tryz.prog 118:=⟨Tryz.f118,Tryz.func118,rfl,rfl⟩
theorem cl127 : bH Tryz.prog 127:=⟨Tryz.f127,Tryz.func127,rfl,rfl⟩
theorem aA7 : bH Tryz.prog 129:=⟨Tryz.f129,Tryz.func129,rfl,rfl⟩
theorem cl130 : bH Tryz.prog 130:=⟨Tryz.f130,Tryz.func130,rfl,rfl⟩
theorem xA : bH Tryz.prog 131:=⟨Tryz.f131,Tryz.func131,rfl,rfl⟩
theorem cl133 : bH Tryz.prog 133:=⟨Tryz.f133,Tryz.func133,rfl,rfl⟩
theorem cl134 : bH Tryz.prog 134:=⟨Tryz.f134,Tryz.func134,rfl,rfl⟩
theorem aBw : bH Tryz.prog 135:=⟨Tryz.f135,Tryz.func135,rfl,rfl⟩
theorem cl136 : bH Tryz.prog 136:=⟨Tryz.f136,Tryz.func136,rfl,rfl⟩
theorem cl143 : bH Tryz.prog 143:=⟨Tryz.f143,Tryz.func143,rfl,rfl⟩
theorem cl145 : bH Tryz.prog 145:=⟨Tryz.f145,Tryz.func145,rfl,rfl⟩
theorem cl147 : bH Tryz.prog 147:=⟨Tryz.f147,Tryz.func147,rfl,rfl⟩
theorem zY : bH Tryz.prog 150:=⟨Tryz.f150,Tryz.func150,rfl,rfl⟩
theorem cl160 : bH Tryz.prog 160:=⟨Tryz.f160,Tryz.func160,rfl,rfl⟩
theorem cl161 : bH Tryz.prog 161:=⟨Tryz.f161,Tryz.func161,rfl,rfl⟩
theorem cl162 : bH Tryz.prog 162:=⟨Tryz.f162,Tryz.func162,rfl,rfl⟩
theorem cl167 : bH Tryz.prog 167:=⟨Tryz.f167,Tryz.func167,rfl,rfl⟩
theorem cl169 : bH Tryz.prog 169:=⟨Tryz.f169,Tryz.func169,rfl,rfl⟩
theorem aBv : bH Tryz.prog 170:=⟨Tryz.f170,Tryz.func170,rfl,rfl⟩
theorem zX : bH Tryz.prog 171:=⟨Tryz.f171,Tryz.func171,rfl,rfl⟩
theorem aBu : bH Tryz.prog 172:=⟨Tryz.f172,Tryz.func172,rfl,rfl⟩
theorem cl173 : bH Tryz.prog 173:=⟨Tryz.f173,Tryz.func173,rfl,rfl⟩
theorem cl176 : bH Tryz.prog 176:=⟨Tryz.f176,Tryz.func176,rfl,rfl⟩
theorem cl177 : bH Tryz.prog 177:=⟨Tryz.f177,Tryz.func177,rfl,rfl⟩
theorem cl183 : bH Tryz.prog 183:=⟨Tryz.f183,Tryz.func183,rfl,rfl⟩
theorem cl185 : bH Tryz.prog 185:=⟨Tryz.f185,Tryz.func185,rfl,rfl⟩
theorem cl186 : bH Tryz.prog 186:=⟨Tryz.f186,Tryz.func186,rfl,rfl⟩
theorem cl187 : bH Tryz.prog 187:=⟨Tryz.f187,Tryz.func187,rfl,rfl⟩
theorem cl188 : bH Tryz.prog 188:=⟨Tryz.f188,Tryz.func188,rfl,rfl⟩
theorem cl195 : bH Tryz.prog 195:=⟨Tryz.f195,Tryz.func195,rfl,rfl⟩
def la33:=LA.mk Tryz.underlying33 ag33 ti33 (by decide)
def la35:=LA.mk Tryz.underlying35 ag35 ti35 (by decide)
def la37:=LA.mk Tryz.underlying37 ag37 ti37 (by decide)
def la38:=LA.mk Tryz.underlying38 ag38 ti38 (by decide)
def la40:=LA.mk Tryz.underlying40 ag40 ti40 (by decide)
def la42:=LA.mk Tryz.underlying42 ag42 ti42 (by decide)
def la44:=LA.mk Tryz.underlying44 ag44 ti44 (by decide)
def la46:=LA.mk Tryz.underlying46 ag46 ti46 (by decide)
def qD:=LA.mk Tryz.underlying105 nN dH (by decide)
def aBZ:=LA.mk Tryz.underlying173 ag173 zD (by decide)
def nK:=LA.mk Tryz.underlying219 tY fF (by decide)
def la228:=LA.mk Tryz.underlying228 qN fN (by decide)
abbrev v0 (x : gQ) : List D:=[.int .i64 x.a.ID,.int .i64 x.a.Send.Base,.str x.a.Send.Data,.int .i64 x.a.Send.Next,.slice false (x.a.Send.Pieces.map aB.d),.slice false (x.a.Send.Lost.map aK.d),.bool x.a.Send.Closed,.bool x.a.Send.Sent,.bool x.a.Send.Again,.bool x.a.Send.Done,.int .i64 x.a.Recv.Recv.Base,.str x.a.Recv.Recv.Ready,.slice false (x.a.Recv.Recv.Parts.map aL.d),.int .i64 x.a.Recv.End,.int .i64 x.a.Out.Window,.int .i64 x.a.Out.Limit,.int .i64 x.a.Out.Used,.int .i64 x.a.Out.Read,.int .i64 x.a.In.Window,.int .i64 x.a.In.Limit,.int .i64 x.a.In.Used,.int .i64 x.a.In.Read,.int .i64 x.a.Mine,.int .i64 x.a.Hers,.int .i64 x.b.ID,.int .i64 x.b.Send.Base,.str x.b.Send.Data,.int .i64 x.b.Send.Next,.slice false (x.b.Send.Pieces.map aB.d),.slice false (x.b.Send.Lost.map aK.d),.bool x.b.Send.Closed,.bool x.b.Send.Sent,.bool x.b.Send.Again,.bool x.b.Send.Done,.int .i64 x.b.Recv.Recv.Base,.str x.b.Recv.Recv.Ready,.slice false (x.b.Recv.Recv.Parts.map aL.d),.int .i64 x.b.Recv.End,.int .i64 x.b.Out.Window,.int .i64 x.b.Out.Limit,.int .i64 x.b.Out.Used,.int .i64 x.b.Out.Read,.int .i64 x.b.In.Window,.int .i64 x.b.In.Limit,.int .i64 x.b.In.Used,.int .i64 x.b.In.Read,.int .i64 x.b.Mine,.int .i64 x.b.Hers,.slice false (x.went.map aO.d),.str x.wrote,.str x.read,.int .i64 x.given,.bool x.end_]
abbrev v1 (x : aR) : List D:=[.int .i64 x.ID,.int .i64 x.Send.Base,.str x.Send.Data,.int .i64 x.Send.Next,.slice false (x.Send.Pieces.map aB.d),.slice false (x.Send.Lost.map aK.d),.bool x.Send.Closed,.bool x.Send.Sent,.bool x.Send.Again,.bool x.Send.Done,.int .i64 x.Recv.Recv.Base,.str x.Recv.Recv.Ready,.slice false (x.Recv.Recv.Parts.map aL.d),.int .i64 x.Recv.End,.int .i64 x.Out.Window,.int .i64 x.Out.Limit,.int .i64 x.Out.Used,.int .i64 x.Out.Read,.int .i64 x.In.Window,.int .i64 x.In.Limit,.int .i64 x.In.Used,.int .i64 x.In.Read,.int .i64 x.Mine,.int .i64 x.Hers]
abbrev v2 (x : aW) : List D:=[.int .i64 x.Base,.str x.Data,.int .i64 x.Next,.slice false (x.Pieces.map aB.d),.slice false (x.Lost.map aK.d),.bool x.Closed,.bool x.Sent,.bool x.Again,.bool x.Done]
abbrev v3 (x : fI) : List D:=[.int .i64 x.State.Base,.str x.State.Ready,.slice false (x.State.Parts.map aL.d),.int .i64 x.end_]
abbrev v4 (x : bV) : List D:=[.int .i64 x.Recv.Base,.str x.Recv.Ready,.slice false (x.Recv.Parts.map aL.d),.int .i64 x.End]
abbrev v5 (x : bJ) : List D:=[.int .i64 x.Base,.str x.Ready,.slice false (x.Parts.map aL.d)]
abbrev v6 (x : bE) : List D:=[.int .i64 x.Window,.int .i64 x.Limit,.int .i64 x.Used,.int .i64 x.Read]
abbrev v7 (x : aJ) : List D:=[.int .i64 x.From,.int .i64 x.To,.int .i64 x.Path,.bool x.Fin]
abbrev v8 (x : cC) : List D:=[.int .u8 x.Kind,.int .u8 x.N,.int .u8 x.Path,.str x.Text]
abbrev v9 (x : bL) : List D:=[.int .i64 x.at_,.str x.s,.bool x.fin]
abbrev q10 {a1 : IntKind} {a2 : Int} {a3 : IntKind} {a4 : Int} {a5 : List UInt8} {a6 : IntKind} {a7 : Int} {a8 : Bool} {a9 : List D} {a10 : Bool} {a11 : List D} {a12 : Bool} {a13 : Bool} {a14 : Bool} {a15 : Bool} {a16 : IntKind} {a17 : Int} {a18 : List UInt8} {a19 : Bool} {a20 : List D} {a21 : IntKind} {a22 : Int} {a23 : IntKind} {a24 : Int} {a25 : IntKind} {a26 : Int} {a27 : IntKind} {a28 : Int} {a29 : IntKind} {a30 : Int} {a31 : IntKind} {a32 : Int} {a33 : IntKind} {a34 : Int} {a35 : IntKind} {a36 : Int} {a37 : IntKind} {a38 : Int} {a39 : IntKind} {a40 : Int} {a41 : IntKind} {a42 : Int} {a43 : IntKind} {a44 : Int} {a45 : IntKind} {a46 : Int} {a47 : List UInt8} {a48 : IntKind} {a49 : Int} {a50 : Bool} {a51 : List D} {a52 : Bool} {a53 : List D} {a54 : Bool} {a55 : Bool} {a56 : Bool} {a57 : Bool} {a58 : IntKind} {a59 : Int} {a60 : List UInt8} {a61 : Bool} {a62 : List D} {a63 : IntKind} {a64 : Int} {a65 : IntKind} {a66 : Int} {a67 : IntKind} {a68 : Int} {a69 : IntKind} {a70 : Int} {a71 : IntKind} {a72 : Int} {a73 : IntKind} {a74 : Int} {a75 : IntKind} {a76 : Int} {a77 : IntKind} {a78 : Int} {a79 : IntKind} {a80 : Int} {a81 : IntKind} {a82 : Int} {a83 : IntKind} {a84 : Int} {a85 : Nat} {a86 : Nat} {a87 : Nat} {a88 : List UInt8} {a89 : List UInt8} {a90 : IntKind} {a91 : Int} {a92 : Bool} : List D:=[.int a1 a2,.int a3 a4,.str a5,.int a6 a7,.slice a8 a9,.slice a10 a11,.bool a12,.bool a13,.bool a14,.bool a15,.int a16 a17,.str a18,.slice a19 a20,.int a21 a22,.int a23 a24,.int a25 a26,.int a27 a28,.int a29 a30,.int a31 a32,.int a33 a34,.int a35 a36,.int a37 a38,.int a39 a40,.int a41 a42,.int a43 a44,.int a45 a46,.str a47,.int a48 a49,.slice a50 a51,.slice a52 a53,.bool a54,.bool a55,.bool a56,.bool a57,.int a58 a59,.str a60,.slice a61 a62,.int a63 a64,.int a65 a66,.int a67 a68,.int a69 a70,.int a71 a72,.int a73 a74,.int a75 a76,.int a77 a78,.int a79 a80,.int a81 a82,.int a83 a84,.osl a85 a86 a87,.str a88,.str a89,.int a90 a91,.bool a92]
abbrev q11 {a1 : IntKind} {a2 : Int} {a3 : IntKind} {a4 : Int} {a5 : List UInt8} {a6 : IntKind} {a7 : Int} {a8 : Bool} {a9 : List D} {a10 : Bool} {a11 : List D} {a12 : Bool} {a13 : Bool} {a14 : Bool} {a15 : Bool} {a16 : IntKind} {a17 : Int} {a18 : List UInt8} {a19 : Bool} {a20 : List D} {a21 : IntKind} {a22 : Int} {a23 : IntKind} {a24 : Int} {a25 : IntKind} {a26 : Int} {a27 : IntKind} {a28 : Int} {a29 : IntKind} {a30 : Int} {a31 : IntKind} {a32 : Int} {a33 : IntKind} {a34 : Int} {a35 : IntKind} {a36 : Int} {a37 : IntKind} {a38 : Int} {a39 : IntKind} {a40 : Int} {a41 : IntKind} {a42 : Int} {a43 : IntKind} {a44 : Int} {a45 : IntKind} {a46 : Int} {a47 : List UInt8} {a48 : IntKind} {a49 : Int} {a50 : Bool} {a51 : List D} {a52 : Bool} {a53 : List D} {a54 : Bool} {a55 : Bool} {a56 : Bool} {a57 : Bool} {a58 : IntKind} {a59 : Int} {a60 : List UInt8} {a61 : Bool} {a62 : List D} {a63 : IntKind} {a64 : Int} {a65 : IntKind} {a66 : Int} {a67 : IntKind} {a68 : Int} {a69 : IntKind} {a70 : Int} {a71 : IntKind} {a72 : Int} {a73 : IntKind} {a74 : Int} {a75 : IntKind} {a76 : Int} {a77 : IntKind} {a78 : Int} {a79 : IntKind} {a80 : Int} {a81 : IntKind} {a82 : Int} {a83 : IntKind} {a84 : Int} {a85 : Bool} {a86 : List D} {a87 : List UInt8} {a88 : List UInt8} {a89 : IntKind} {a90 : Int} {a91 : Bool} : List D:=[.int a1 a2,.int a3 a4,.str a5,.int a6 a7,.slice a8 a9,.slice a10 a11,.bool a12,.bool a13,.bool a14,.bool a15,.int a16 a17,.str a18,.slice a19 a20,.int a21 a22,.int a23 a24,.int a25 a26,.int a27 a28,.int a29 a30,.int a31 a32,.int a33 a34,.int a35 a36,.int a37 a38,.int a39 a40,.int a41 a42,.int a43 a44,.int a45 a46,.str a47,.int a48 a49,.slice a50 a51,.slice a52 a53,.bool a54,.bool a55,.bool a56,.bool a57,.int a58 a59,.str a60,.slice a61 a62,.int a63 a64,.int a65 a66,.int a67 a68,.int a69 a70,.int a71 a72,.int a73 a74,.int a75 a76,.int a77 a78,.int a79 a80,.int a81 a82,.int a83 a84,.slice a85 a86,.str a87,.str a88,.int a89 a90,.bool a91]
abbrev q12 {a1 : IntKind} {a2 : Int} {a3 : IntKind} {a4 : Int} {a5 : List UInt8} {a6 : IntKind} {a7 : Int} {a8 : Bool} {a9 : List D} {a10 : Bool} {a11 : List D} {a12 : Bool} {a13 : Bool} {a14 : Bool} {a15 : Bool} {a16 : IntKind} {a17 : Int} {a18 : List UInt8} {a19 : Bool} {a20 : List D} {a21 : IntKind} {a22 : Int} {a23 : IntKind} {a24 : Int} {a25 : IntKind} {a26 : Int} {a27 : IntKind} {a28 : Int} {a29 : IntKind} {a30 : Int} {a31 : IntKind} {a32 : Int} {a33 : IntKind} {a34 : Int} {a35 : IntKind} {a36 : Int} {a37 : IntKind} {a38 : Int} {a39 : IntKind} {a40 : Int} {a41 : IntKind} {a42 : Int} {a43 : IntKind} {a44 : Int} {a45 : IntKind} {a46 : Int} {a47 : List UInt8} {a48 : IntKind} {a49 : Int} {a50 : Bool} {a51 : List D} {a52 : Bool} {a53 : List D} {a54 : Bool} {a55 : Bool} {a56 : Bool} {a57 : Bool} {a58 : IntKind} {a59 : Int} {a60 : List UInt8} {a61 : Bool} {a62 : List D} {a63 : IntKind} {a64 : Int} {a65 : IntKind} {a66 : Int} {a67 : IntKind} {a68 : Int} {a69 : IntKind} {a70 : Int} {a71 : IntKind} {a72 : Int} {a73 : IntKind} {a74 : Int} {a75 : IntKind} {a76 : Int} {a77 : IntKind} {a78 : Int} {a79 : IntKind} {a80 : Int} {a81 : IntKind} {a82 : Int} {a83 : IntKind} {a84 : Int} {a85 : List UInt8} {a86 : List UInt8} {a87 : IntKind} {a88 : Int} {a89 : Bool} : List D:=[.int a1 a2,.int a3 a4,.str a5,.int a6 a7,.slice a8 a9,.slice a10 a11,.bool a12,.bool a13,.bool a14,.bool a15,.int a16 a17,.str a18,.slice a19 a20,.int a21 a22,.int a23 a24,.int a25 a26,.int a27 a28,.int a29 a30,.int a31 a32,.int a33 a34,.int a35 a36,.int a37 a38,.int a39 a40,.int a41 a42,.int a43 a44,.int a45 a46,.str a47,.int a48 a49,.slice a50 a51,.slice a52 a53,.bool a54,.bool a55,.bool a56,.bool a57,.int a58 a59,.str a60,.slice a61 a62,.int a63 a64,.int a65 a66,.int a67 a68,.int a69 a70,.int a71 a72,.int a73 a74,.int a75 a76,.int a77 a78,.int a79 a80,.int a81 a82,.int a83 a84,.nils,.str a85,.str a86,.int a87 a88,.bool a89]
abbrev q13 {a1 : IntKind} {a2 : Int} {a3 : IntKind} {a4 : Int} {a5 : List UInt8} {a6 : IntKind} {a7 : Int} {a8 : Bool} {a9 : List D} {a10 : Bool} {a11 : List D} {a12 : Bool} {a13 : Bool} {a14 : Bool} {a15 : Bool} {a16 : IntKind} {a17 : Int} {a18 : List UInt8} {a19 : Bool} {a20 : List D} {a21 : IntKind} {a22 : Int} {a23 : IntKind} {a24 : Int} {a25 : IntKind} {a26 : Int} {a27 : IntKind} {a28 : Int} {a29 : IntKind} {a30 : Int} {a31 : IntKind} {a32 : Int} {a33 : IntKind} {a34 : Int} {a35 : IntKind} {a36 : Int} {a37 : IntKind} {a38 : Int} {a39 : IntKind} {a40 : Int} {a41 : IntKind} {a42 : Int} : List D:=[.int a1 a2,.int a3 a4,.str a5,.int a6 a7,.slice a8 a9,.slice a10 a11,.bool a12,.bool a13,.bool a14,.bool a15,.int a16 a17,.str a18,.slice a19 a20,.int a21 a22,.int a23 a24,.int a25 a26,.int a27 a28,.int a29 a30,.int a31 a32,.int a33 a34,.int a35 a36,.int a37 a38,.int a39 a40,.int a41 a42]
abbrev q14 {a1 : IntKind} {a2 : Int} {a3 : IntKind} {a4 : Int} {a5 : List UInt8} {a6 : IntKind} {a7 : Int} {a8 : Bool} {a9 : Bool} {a10 : Bool} {a11 : Bool} {a12 : IntKind} {a13 : Int} {a14 : List UInt8} {a15 : IntKind} {a16 : Int} {a17 : IntKind} {a18 : Int} {a19 : IntKind} {a20 : Int} {a21 : IntKind} {a22 : Int} {a23 : IntKind} {a24 : Int} {a25 : IntKind} {a26 : Int} {a27 : IntKind} {a28 : Int} {a29 : IntKind} {a30 : Int} {a31 : IntKind} {a32 : Int} {a33 : IntKind} {a34 : Int} {a35 : IntKind} {a36 : Int} : List D:=[.int a1 a2,.int a3 a4,.str a5,.int a6 a7,.nils,.nils,.bool a8,.bool a9,.bool a10,.bool a11,.int a12 a13,.str a14,.nils,.int a15 a16,.int a17 a18,.int a19 a20,.int a21 a22,.int a23 a24,.int a25 a26,.int a27 a28,.int a29 a30,.int a31 a32,.int a33 a34,.int a35 a36]
abbrev q15 {a1 : IntKind} {a2 : Int} {a3 : List UInt8} {a4 : IntKind} {a5 : Int} {a6 : Bool} {a7 : List D} {a8 : Bool} {a9 : List D} {a10 : Bool} {a11 : Bool} {a12 : Bool} {a13 : Bool} : List D:=[.int a1 a2,.str a3,.int a4 a5,.slice a6 a7,.slice a8 a9,.bool a10,.bool a11,.bool a12,.bool a13]
abbrev q16 {a1 : IntKind} {a2 : Int} {a3 : List UInt8} {a4 : IntKind} {a5 : Int} {a6 : Nat} {a7 : Nat} {a8 : Nat} {a9 : Bool} {a10 : List D} {a11 : Bool} {a12 : Bool} {a13 : Bool} {a14 : Bool} : List D:=[.int a1 a2,.str a3,.int a4 a5,.osl a6 a7 a8,.slice a9 a10,.bool a11,.bool a12,.bool a13,.bool a14]
abbrev q17 {a1 : IntKind} {a2 : Int} {a3 : List UInt8} {a4 : IntKind} {a5 : Int} {a6 : Bool} {a7 : Bool} {a8 : Bool} {a9 : Bool} : List D:=[.int a1 a2,.str a3,.int a4 a5,.nils,.nils,.bool a6,.bool a7,.bool a8,.bool a9]
abbrev q18 {a1 : IntKind} {a2 : Int} {a3 : IntKind} {a4 : Int} {a5 : IntKind} {a6 : Int} {a7 : IntKind} {a8 : Int} : List D:=[.int a1 a2,.int a3 a4,.int a5 a6,.int a7 a8]
abbrev q19 {a1 : IntKind} {a2 : Int} {a3 : List UInt8} {a4 : Bool} {a5 : List D} {a6 : IntKind} {a7 : Int} : List D:=[.int a1 a2,.str a3,.slice a4 a5,.int a6 a7]
abbrev q20 {a1 : IntKind} {a2 : Int} {a3 : IntKind} {a4 : Int} {a5 : IntKind} {a6 : Int} {a7 : Bool} : List D:=[.int a1 a2,.int a3 a4,.int a5 a6,.bool a7]
abbrev q21 {a1 : IntKind} {a2 : Int} {a3 : IntKind} {a4 : Int} {a5 : IntKind} {a6 : Int} {a7 : List UInt8} : List D:=[.int a1 a2,.int a3 a4,.int a5 a6,.str a7]
abbrev q22 {a1 : IntKind} {a2 : Int} {a3 : List UInt8} {a4 : IntKind} {a5 : Int} : List D:=[.int a1 a2,.str a3,.nils,.int a4 a5]
abbrev q23 {a1 : IntKind} {a2 : Int} {a3 : List UInt8} {a4 : Bool} {a5 : List D} : List D:=[.int a1 a2,.str a3,.slice a4 a5]
abbrev q24 {a1 : IntKind} {a2 : Int} {a3 : List UInt8} {a4 : Nat} {a5 : Nat} {a6 : Nat} : List D:=[.int a1 a2,.str a3,.osl a4 a5 a6]
abbrev q25 {a1 : IntKind} {a2 : Int} {a3 : List UInt8} {a4 : Bool} : List D:=[.int a1 a2,.str a3,.bool a4]
abbrev q26 {a1 : IntKind} {a2 : Int} {a3 : List UInt8} : List D:=[.int a1 a2,.str a3,.nils]
abbrev q27 {a1 : IntKind} {a2 : Int} {a3 : IntKind} {a4 : Int} : List D:=[.int a1 a2,.int a3 a4]
abbrev q28 {a1 : Nat} {a2 : Nat} {a3 : Nat} {a4 : Nat} : List D:=[.ref a1 a2,.ref a3 a4]
abbrev q29 {a1 : IntKind} {a2 : Int} {a3 : List UInt8} : List D:=[.int a1 a2,.str a3]
abbrev q30 {a1 : IntKind} {a2 : Int} {a3 : List UInt8} {a4 : IntKind} {a5 : Int} {a6 : Bool} {a7 : List D} {a8 : Bool} {a9 : List D} {a10 : Bool} {a11 : Bool} {a12 : Bool} {a13 : Bool} {a14 : IntKind} {a15 : Int} {a16 : IntKind} {a17 : Int} {a18 : IntKind} {a19 : Int} {a20 : Bool} {a21 : List UInt8} {a22 : Bool} : List D:=[.agg [.int a1 a2,.str a3,.int a4 a5,.slice a6 a7,.slice a8 a9,.bool a10,.bool a11,.bool a12,.bool a13],.agg [.int a14 a15,.int a16 a17,.int a18 a19,.bool a20],.str a21,.bool a22]
abbrev q31 {a1 : IntKind} {a2 : Int} {a3 : IntKind} {a4 : Int} {a5 : List UInt8} {a6 : IntKind} {a7 : Int} {a8 : Bool} {a9 : List D} {a10 : Bool} {a11 : List D} {a12 : Bool} {a13 : Bool} {a14 : Bool} {a15 : Bool} {a16 : IntKind} {a17 : Int} {a18 : List UInt8} {a19 : Bool} {a20 : List D} {a21 : IntKind} {a22 : Int} {a23 : IntKind} {a24 : Int} {a25 : IntKind} {a26 : Int} {a27 : IntKind} {a28 : Int} {a29 : IntKind} {a30 : Int} {a31 : IntKind} {a32 : Int} {a33 : IntKind} {a34 : Int} {a35 : IntKind} {a36 : Int} {a37 : IntKind} {a38 : Int} {a39 : IntKind} {a40 : Int} {a41 : IntKind} {a42 : Int} {a43 : IntKind} {a44 : Int} {a45 : IntKind} {a46 : Int} {a47 : IntKind} {a48 : Int} {a49 : Bool} {a50 : List UInt8} {a51 : Bool} : List D:=[.agg [.int a1 a2,.int a3 a4,.str a5,.int a6 a7,.slice a8 a9,.slice a10 a11,.bool a12,.bool a13,.bool a14,.bool a15,.int a16 a17,.str a18,.slice a19 a20,.int a21 a22,.int a23 a24,.int a25 a26,.int a27 a28,.int a29 a30,.int a31 a32,.int a33 a34,.int a35 a36,.int a37 a38,.int a39 a40,.int a41 a42],.agg [.int a43 a44,.int a45 a46,.int a47 a48,.bool a49],.str a50,.bool a51]
abbrev q32 {a1 : IntKind} {a2 : Int} {a3 : IntKind} {a4 : Int} {a5 : List UInt8} {a6 : IntKind} {a7 : Int} {a8 : Bool} {a9 : List D} {a10 : Bool} {a11 : List D} {a12 : Bool} {a13 : Bool} {a14 : Bool} {a15 : Bool} {a16 : IntKind} {a17 : Int} {a18 : List UInt8} {a19 : Bool} {a20 : List D} {a21 : IntKind} {a22 : Int} {a23 : IntKind} {a24 : Int} {a25 : IntKind} {a26 : Int} {a27 : IntKind} {a28 : Int} {a29 : IntKind} {a30 : Int} {a31 : IntKind} {a32 : Int} {a33 : IntKind} {a34 : Int} {a35 : IntKind} {a36 : Int} {a37 : IntKind} {a38 : Int} {a39 : IntKind} {a40 : Int} {a41 : IntKind} {a42 : Int} {a43 : List UInt8} {a44 : Bool} {a45 : IntKind} {a46 : Int} : List D:=[.agg [.int a1 a2,.int a3 a4,.str a5,.int a6 a7,.slice a8 a9,.slice a10 a11,.bool a12,.bool a13,.bool a14,.bool a15,.int a16 a17,.str a18,.slice a19 a20,.int a21 a22,.int a23 a24,.int a25 a26,.int a27 a28,.int a29 a30,.int a31 a32,.int a33 a34,.int a35 a36,.int a37 a38,.int a39 a40,.int a41 a42],.str a43,.bool a44,.int a45 a46]
abbrev q33 {a1 : IntKind} {a2 : Int} {a3 : List UInt8} {a4 : Bool} {a5 : List D} {a6 : IntKind} {a7 : Int} {a8 : IntKind} {a9 : Int} {a10 : IntKind} {a11 : Int} : List D:=[.agg [.int a1 a2,.str a3,.slice a4 a5,.int a6 a7],.int a8 a9,.int a10 a11]
abbrev q34 {a1 : IntKind} {a2 : Int} {a3 : IntKind} {a4 : Int} {a5 : List UInt8} {a6 : IntKind} {a7 : Int} {a8 : Bool} {a9 : List D} {a10 : Bool} {a11 : List D} {a12 : Bool} {a13 : Bool} {a14 : Bool} {a15 : Bool} {a16 : IntKind} {a17 : Int} {a18 : List UInt8} {a19 : Bool} {a20 : List D} {a21 : IntKind} {a22 : Int} {a23 : IntKind} {a24 : Int} {a25 : IntKind} {a26 : Int} {a27 : IntKind} {a28 : Int} {a29 : IntKind} {a30 : Int} {a31 : IntKind} {a32 : Int} {a33 : IntKind} {a34 : Int} {a35 : IntKind} {a36 : Int} {a37 : IntKind} {a38 : Int} {a39 : IntKind} {a40 : Int} {a41 : IntKind} {a42 : Int} {a43 : IntKind} {a44 : Int} {a45 : IntKind} {a46 : Int} : List D:=[.agg [.int a1 a2,.int a3 a4,.str a5,.int a6 a7,.slice a8 a9,.slice a10 a11,.bool a12,.bool a13,.bool a14,.bool a15,.int a16 a17,.str a18,.slice a19 a20,.int a21 a22,.int a23 a24,.int a25 a26,.int a27 a28,.int a29 a30,.int a31 a32,.int a33 a34,.int a35 a36,.int a37 a38,.int a39 a40,.int a41 a42],.int a43 a44,.int a45 a46]
abbrev q35 {a1 : IntKind} {a2 : Int} {a3 : IntKind} {a4 : Int} {a5 : IntKind} {a6 : Int} {a7 : IntKind} {a8 : Int} {a9 : IntKind} {a10 : Int} {a11 : Bool} : List D:=[.agg [.int a1 a2,.int a3 a4,.int a5 a6,.int a7 a8],.int a9 a10,.bool a11]
abbrev q36 {a1 : IntKind} {a2 : Int} {a3 : List UInt8} {a4 : Bool} {a5 : List D} {a6 : IntKind} {a7 : Int} {a8 : List UInt8} {a9 : Bool} : List D:=[.agg [.int a1 a2,.str a3,.slice a4 a5,.int a6 a7],.str a8,.bool a9]
abbrev q37 {a1 : IntKind} {a2 : Int} {a3 : IntKind} {a4 : Int} {a5 : IntKind} {a6 : Int} {a7 : IntKind} {a8 : Int} {a9 : IntKind} {a10 : Int} : List D:=[.agg [.int a1 a2,.int a3 a4,.int a5 a6,.int a7 a8],.int a9 a10]
abbrev q38 {a1 : IntKind} {a2 : Int} {a3 : IntKind} {a4 : Int} {a5 : List UInt8} {a6 : IntKind} {a7 : Int} {a8 : Bool} {a9 : List D} {a10 : Bool} {a11 : List D} {a12 : Bool} {a13 : Bool} {a14 : Bool} {a15 : Bool} {a16 : IntKind} {a17 : Int} {a18 : List UInt8} {a19 : Bool} {a20 : List D} {a21 : IntKind} {a22 : Int} {a23 : IntKind} {a24 : Int} {a25 : IntKind} {a26 : Int} {a27 : IntKind} {a28 : Int} {a29 : IntKind} {a30 : Int} {a31 : IntKind} {a32 : Int} {a33 : IntKind} {a34 : Int} {a35 : IntKind} {a36 : Int} {a37 : IntKind} {a38 : Int} {a39 : IntKind} {a40 : Int} {a41 : IntKind} {a42 : Int} {a43 : IntKind} {a44 : Int} : List D:=[.agg [.int a1 a2,.int a3 a4,.str a5,.int a6 a7,.slice a8 a9,.slice a10 a11,.bool a12,.bool a13,.bool a14,.bool a15,.int a16 a17,.str a18,.slice a19 a20,.int a21 a22,.int a23 a24,.int a25 a26,.int a27 a28,.int a29 a30,.int a31 a32,.int a33 a34,.int a35 a36,.int a37 a38,.int a39 a40,.int a41 a42],.int a43 a44]
abbrev q39 {a1 : IntKind} {a2 : Int} {a3 : IntKind} {a4 : Int} {a5 : IntKind} {a6 : Int} {a7 : Bool} {a8 : Bool} : List D:=[.agg [.int a1 a2,.int a3 a4,.int a5 a6,.bool a7],.bool a8]
abbrev w40 (a0 : Int) (a1 : Int) (a2 : List UInt8) (a3 : Int) (a4 : List aJ) (a5 : List aG) (a6 : Bool) (a7 : Bool) (a8 : Bool) (a9 : Bool) (a10 : Int) (a11 : List UInt8) (a12 : List aN) (a13 : Int) (a14 : Int) (a15 : Int) (a16 : Int) (a17 : Int) (a18 : Int) (a19 : Int) (a20 : Int) (a21 : Int) (a22 : Int) (a23 : Int) (a24 : Int) (a25 : Int) (a26 : List UInt8) (a27 : Int) (a28 : List aJ) (a29 : List aG) (a30 : Bool) (a31 : Bool) (a32 : Bool) (a33 : Bool) (a34 : Int) (a35 : List UInt8) (a36 : List aN) (a37 : Int) (a38 : Int) (a39 : Int) (a40 : Int) (a41 : Int) (a42 : Int) (a43 : Int) (a44 : Int) (a45 : Int) (a46 : Int) (a47 : Int) (a48 : D) (a49 : List UInt8) (a50 : List UInt8) (a51 : Int) (a52 : Bool) : List D:=[.int .i64 a0,.int .i64 a1,.str a2,.int .i64 a3,.slice false (a4.map aB.d),.slice false (a5.map aK.d),.bool a6,.bool a7,.bool a8,.bool a9,.int .i64 a10,.str a11,.slice false (a12.map aL.d),.int .i64 a13,.int .i64 a14,.int .i64 a15,.int .i64 a16,.int .i64 a17,.int .i64 a18,.int .i64 a19,.int .i64 a20,.int .i64 a21,.int .i64 a22,.int .i64 a23,.int .i64 a24,.int .i64 a25,.str a26,.int .i64 a27,.slice false (a28.map aB.d),.slice false (a29.map aK.d),.bool a30,.bool a31,.bool a32,.bool a33,.int .i64 a34,.str a35,.slice false (a36.map aL.d),.int .i64 a37,.int .i64 a38,.int .i64 a39,.int .i64 a40,.int .i64 a41,.int .i64 a42,.int .i64 a43,.int .i64 a44,.int .i64 a45,.int .i64 a46,.int .i64 a47,a48,.str a49,.str a50,.int .i64 a51,.bool a52]
abbrev w41 (a0 : Int) (a1 : Int) (a2 : List UInt8) (a3 : Int) (a4 : List aJ) (a5 : List aG) (a6 : Bool) (a7 : Bool) (a8 : Bool) (a9 : Bool) (a10 : Int) (a11 : List UInt8) (a12 : List aN) (a13 : Int) (a14 : Int) (a15 : Int) (a16 : Int) (a17 : Int) (a18 : Int) (a19 : Int) (a20 : Int) (a21 : Int) (a22 : Int) (a23 : Int) : List D:=[.int .i64 a0,.int .i64 a1,.str a2,.int .i64 a3,.slice false (a4.map aB.d),.slice false (a5.map aK.d),.bool a6,.bool a7,.bool a8,.bool a9,.int .i64 a10,.str a11,.slice false (a12.map aL.d),.int .i64 a13,.int .i64 a14,.int .i64 a15,.int .i64 a16,.int .i64 a17,.int .i64 a18,.int .i64 a19,.int .i64 a20,.int .i64 a21,.int .i64 a22,.int .i64 a23]
abbrev w42 (a0 : Int) (a1 : List UInt8) (a2 : Int) (a3 : List aJ) (a4 : List aG) (a5 : Bool) (a6 : Bool) (a7 : Bool) (a8 : Bool) : List D:=[.int .i64 a0,.str a1,.int .i64 a2,.slice false (a3.map aB.d),.slice false (a4.map aK.d),.bool a5,.bool a6,.bool a7,.bool a8]
abbrev w43 (a0 : Int) (a1 : List UInt8) (a2 : Int) (a3 : D) (a4 : List aG) (a5 : Bool) (a6 : Bool) (a7 : Bool) (a8 : Bool) : List D:=[.int .i64 a0,.str a1,.int .i64 a2,a3,.slice false (a4.map aK.d),.bool a5,.bool a6,.bool a7,.bool a8]
abbrev w44 (a0 : Int) (a1 : List UInt8) (a2 : List aN) (a3 : Int) : List D:=[.int .i64 a0,.str a1,.slice false (a2.map aL.d),.int .i64 a3]
abbrev w45 (a0 : Int) (a1 : Int) (a2 : Int) (a3 : Int) : List D:=[.int .i64 a0,.int .i64 a1,.int .i64 a2,.int .i64 a3]
abbrev w46 (a0 : Int) (a1 : Int) (a2 : Int) (a3 : Bool) : List D:=[.int .i64 a0,.int .i64 a1,.int .i64 a2,.bool a3]


theorem qU (a0 : (List cC)) (a1 : Int) (r : Bool) (h : gY a0 a1 = some r) : cF Tryz.prog 7 [.slice false (a0.map cP.d),.int .i64 a1] (.bool r):=by
 refine bA (rs:=[.bool r]) Tryz.func7 rfl Tryz.ntmps7 (nle rfl) rfl fun O hO=>?_
 show IWP _ _ _ _ ⟨[(0,.slice false (a0.map cP.d)),(1,.int .i64 a1)],[]⟩ _
 unfold gY at h
 refine aE (aA rfl (aH rfl rfl (lb rfl) (sv (d:=.bool false) rfl)) <|aD ?_)
 refine bC ?_
 obtain ⟨x1,hx1,h⟩:=aQ h
 refine aE (aA rfl (mvL rfl rfl rfl rfl) <|aA rfl (dL cP (l:=a0) rfl rfl (lb rfl) Tryz.underlying22 (svL rfl)) <|aA rfl (mvI rfl rfl rfl rfl) <|aA rfl (aP rfl rfl (lb rfl) (svI rfl) (svI rfl) rfl hx1) <|aD ?_)
 refine aV (b:=_) rfl (fun hc2=>?_) (fun hc2=>?_)
 ·
  replace h:=cD h hc2
  refine aE (aA rfl (aH rfl rfl (lb rfl) (sv (d:=.bool false) rfl)) <|aD ?_)
  refine aT ?_
  refine bI ?_
  obtain rfl:=Option.some.inj h
  refine ⟨.inr rfl,(.cons (sv rfl) .nil)⟩
 ·
  replace h:=cE h hc2
  refine aY ?_
  refine aS ?_
  refine bC ?_
  refine aE (aA rfl (aH rfl rfl (lb rfl) (sv (d:=.int _ 0) rfl)) <|aD ?_)
  refine bZ ?_
  refine dW (α:=Nat × Int) (fun z=>⟨[(0,.slice false (a0.map cP.d)),(5,.int .i64 z.2)],[]⟩) (fun z=>eL a0 z.1 z.2 = some r) (fun z=>z.1) (fuel,0) (fun i=>i) ⟨(.sames rfl rfl),.nil,cK [] rfl (by decide),fun _ _=>rfl⟩ ?_ ?_
  ·exact h
  ·
   rintro ⟨n0,v9⟩ h
   cases n0 with
   | zero=>exact absurd h (by unfold eL; exact nofun)
   | succ n0 =>
    unfold eL at h
    refine bC ?_
    obtain ⟨x16,hx16,h⟩:=aQ h
    refine aE (aA rfl (mvI rfl rfl rfl rfl) <|aA rfl (mvL rfl rfl rfl rfl) <|aA rfl (dL cP (l:=a0) rfl rfl (lb rfl) Tryz.underlying22 (svL rfl)) <|aA rfl (aP rfl rfl (lb rfl) (svI rfl) (svI rfl) rfl hx16) <|aD ?_)
    refine aV (b:=_) rfl (fun hc17=>?_) (fun hc17=>?_)
    ·
     replace h:=cD h hc17
     refine aY ?_
     refine aS ?_
     refine bC ?_
     refine bZ ?_
     obtain ⟨x18,hx18,h⟩:=bF h
     obtain ⟨x19,hx19,h⟩:=aQ h
     refine aE (aA rfl (mvL rfl rfl rfl rfl) <|aA rfl (mvI rfl rfl rfl rfl) <|aA rfl (dY cP (cs:=q21) rfl rfl (lb rfl) Tryz.underlying22 ti30 (svL rfl) (svI rfl) hx18 rfl rfl) <|aA rfl (bG (cs':=[.str _]) rfl rfl (lb rfl) Tryz.underlying30 rfl ti9 (by decide) (sv (d:=.fptr q21) rfl) rfl) <|aA rfl (dA rfl rfl (lb rfl) Tryz.underlying9 ag9 ti9 (by decide) (sv (d:=.fptr [.str _]) rfl) (nle rfl)) <|aA rfl (cT rfl rfl (lb rfl) Tryz.underlying9 (sv (d:=.str _) rfl) rfl) <|aA rfl (aP rfl rfl (lb rfl) (svI rfl) (sv (d:=.int _ 100) rfl) rfl hx19) <|aD ?_)
     refine aV (b:=_) rfl (fun hc20=>?_) (fun hc20=>?_)
     ·
      replace h:=cD h hc20
      refine aE (aA rfl (aH rfl rfl (lb rfl) (sv (d:=.bool false) rfl)) <|aD ?_)
      refine aT ?_
      refine cS ?_
      refine bI ?_
      refine bI ?_
      refine cS ?_
      refine bI ?_
      obtain rfl:=Option.some.inj h
      refine ⟨.inr rfl,(.cons (sv rfl) .nil)⟩
     ·
      replace h:=cE h hc20
      refine aY ?_
      refine cO ?_
      refine aS ?_
      obtain ⟨x21,hx21,h⟩:=aQ h
      refine bO (aA rfl (mvI rfl rfl rfl rfl) <|aA rfl (bM rfl rfl (lb rfl) (svI rfl) (sv (d:=.int _ 1) rfl) rfl hx21) <|aA rfl (asI rfl rfl rfl rfl) <|cL ?_)
      refine aS ⟨(n0,x21),(fun i=>i),⟨(.sames rfl rfl),.nil,cK [] rfl (by decide),fun _ _=>rfl⟩,?_,?_⟩
      exact h
      exact Nat.lt_succ_self _
    ·
     replace h:=cE h hc17
     refine eE ?_
     refine cU ?_
     refine cU ?_
     refine eG ?_
     refine aS ?_
     refine aE (aA rfl (aH rfl rfl (lb rfl) (sv (d:=.bool true) rfl)) <|aD ?_)
     refine aT ?_
     obtain rfl:=Option.some.inj h
     refine ⟨.inr rfl,(.cons (sv rfl) .nil)⟩

theorem gV (a0 : bE) (r : Int) (h : fL a0 = some r) : cF Tryz.prog 95 [.agg (v6 a0)] (.int .i64 r):=by
 refine bA (rs:=[.int .i64 r]) Tryz.func95 rfl Tryz.ntmps95 (nle rfl) rfl fun O hO=>?_
 show IWP _ _ _ _ ⟨[(0,.agg (v6 a0))],[]⟩ _
 unfold fL at h
 refine aE (aA rfl (bR (cs:=q18) 0 rfl rfl (lb rfl) rfl (svA q18 rfl) rfl rfl) <|aA rfl (aH rfl rfl (lb rfl) (sv (d:=.int _ 0) rfl)) <|aD ?_)
 obtain ⟨x1,hx1,h⟩:=aQ h
 obtain ⟨x2,hx2,h⟩:=aQ h
 obtain ⟨x3,hx3,h⟩:=aQ h
 obtain ⟨x4,hx4,h⟩:=aQ h
 obtain ⟨x5,hx5,h⟩:=aQ h
 obtain ⟨x6,hx6,h⟩:=aQ h
 obtain ⟨x7,hx7,h⟩:=aQ h
 refine aE (aA rfl (faR 3 rfl rfl rfl Tryz.underlying44 rfl ti3 (lb rfl) rfl rfl) <|aA rfl (aF (d:=.int _ _) rfl rfl (lb rfl) Tryz.underlying3 ag3 ti3 (by decide) (svR rfl) rfl (nle rfl) rfl) <|aA rfl (aP rfl rfl (lb rfl) (sv (d:=.int _ 0) rfl) (svI rfl) rfl hx1) <|aA rfl (mvB rfl rfl rfl rfl) <|aC rfl rfl (.one rfl) rfl (by decide) (fun hb=>(faR 3 rfl rfl rfl Tryz.underlying44 rfl ti3 (lb rfl) rfl rfl)) <|aC rfl rfl (.one rfl) rfl (by decide) (fun hb=>(aF (d:=.int _ _) rfl rfl (lb rfl) Tryz.underlying3 ag3 ti3 (by decide) (svcR rfl hb) rfl (nle rfl) rfl)) <|aC rfl rfl (.one rfl) rfl (by decide) (fun hb=>(faR 2 rfl rfl rfl Tryz.underlying44 rfl ti3 (lb rfl) rfl rfl)) <|aC rfl rfl (.one rfl) rfl (by decide) (fun hb=>(aF (d:=.int _ _) rfl rfl (lb rfl) Tryz.underlying3 ag3 ti3 (by decide) (svcR rfl hb) rfl (nle rfl) rfl)) <|aC rfl rfl (.one rfl) rfl (by decide) (fun hb=>(aP rfl rfl (lb rfl) (svcI rfl hb) (svcI rfl hb) rfl hx2)) <|aA rfl (bT rfl rfl (lb rfl) (svB rfl) rfl rfl hx3) <|aA rfl (mvB rfl rfl rfl rfl) <|aC rfl rfl (.one rfl) rfl (by decide) (fun hb=>(faR 2 rfl rfl rfl Tryz.underlying44 rfl ti3 (lb rfl) rfl rfl)) <|aC rfl rfl (.one rfl) rfl (by decide) (fun hb=>(aF (d:=.int _ _) rfl rfl (lb rfl) Tryz.underlying3 ag3 ti3 (by decide) (svcR rfl hb) rfl (nle rfl) rfl)) <|aC rfl rfl (.one rfl) rfl (by decide) (fun hb=>(faR 1 rfl rfl rfl Tryz.underlying44 rfl ti3 (lb rfl) rfl rfl)) <|aC rfl rfl (.one rfl) rfl (by decide) (fun hb=>(aF (d:=.int _ _) rfl rfl (lb rfl) Tryz.underlying3 ag3 ti3 (by decide) (svcR rfl hb) rfl (nle rfl) rfl)) <|aC rfl rfl (.one rfl) rfl (by decide) (fun hb=>(aP rfl rfl (lb rfl) (svcI rfl hb) (svcI rfl hb) rfl hx4)) <|aA rfl (bT rfl rfl (lb rfl) (svB rfl) rfl rfl hx5) <|aA rfl (mvB rfl rfl rfl rfl) <|aC rfl rfl (.one rfl) rfl (by decide) (fun hb=>(faR 1 rfl rfl rfl Tryz.underlying44 rfl ti3 (lb rfl) rfl rfl)) <|aC rfl rfl (.one rfl) rfl (by decide) (fun hb=>(aF (d:=.int _ _) rfl rfl (lb rfl) Tryz.underlying3 ag3 ti3 (by decide) (svcR rfl hb) rfl (nle rfl) rfl)) <|aC rfl rfl (.one rfl) rfl (by decide) (fun hb=>(aP rfl rfl (lb rfl) (svcI rfl hb) (sv (d:=.int _ 1099511627776) rfl) rfl hx6)) <|aA rfl (bT rfl rfl (lb rfl) (svB rfl) rfl rfl hx7) <|aA rfl (asB rfl rfl rfl rfl) <|aD ?_)
 refine bC ?_
 obtain ⟨x8,hx8,h⟩:=aQ h
 obtain ⟨x9,hx9,h⟩:=aQ h
 obtain ⟨x10,hx10,h⟩:=aQ h
 obtain ⟨x11,hx11,h⟩:=aQ h
 refine aE (aA rfl (mvB rfl rfl rfl rfl) <|aA rfl (dB rfl rfl (lb rfl) (svB rfl)) <|aA rfl (mvB rfl rfl rfl rfl) <|aC rfl rfl (.one rfl) rfl (by decide) (fun hb=>(faR 0 rfl rfl rfl Tryz.underlying44 rfl ti3 (lb rfl) rfl rfl)) <|aC rfl rfl (.one rfl) rfl (by decide) (fun hb=>(aF (d:=.int _ _) rfl rfl (lb rfl) Tryz.underlying3 ag3 ti3 (by decide) (svcR rfl hb) rfl (nle rfl) rfl)) <|aC rfl rfl (.one rfl) rfl (by decide) (fun hb=>(aP rfl rfl (lb rfl) (svcI rfl hb) (sv (d:=.int _ 1) rfl) rfl hx8)) <|aA rfl (cQ rfl rfl (lb rfl) (svB rfl) rfl rfl hx9) <|aA rfl (mvB rfl rfl rfl rfl) <|aC rfl rfl (.one rfl) rfl (by decide) (fun hb=>(faR 0 rfl rfl rfl Tryz.underlying44 rfl ti3 (lb rfl) rfl rfl)) <|aC rfl rfl (.one rfl) rfl (by decide) (fun hb=>(aF (d:=.int _ _) rfl rfl (lb rfl) Tryz.underlying3 ag3 ti3 (by decide) (svcR rfl hb) rfl (nle rfl) rfl)) <|aC rfl rfl (.one rfl) rfl (by decide) (fun hb=>(aP rfl rfl (lb rfl) (svcI rfl hb) (sv (d:=.int _ 1048576) rfl) rfl hx10)) <|aA rfl (cQ rfl rfl (lb rfl) (svB rfl) rfl rfl hx11) <|aD ?_)
 refine aV (b:=_) rfl (fun hc12=>?_) (fun hc12=>?_)
 ·
  replace h:=cD h hc12
  refine aE (aA rfl (aH rfl rfl (lb rfl) (sv (d:=.int _ 8) rfl)) <|aD ?_)
  refine aT ?_
  refine bI ?_
  obtain rfl:=Option.some.inj h
  refine ⟨.inr rfl,(.cons (sv rfl) .nil)⟩
 ·
  replace h:=cE h hc12
  refine aY ?_
  refine aS ?_
  refine aE (aA rfl (aH rfl rfl (lb rfl) (sv (d:=.int _ 0) rfl)) <|aD ?_)
  refine aT ?_
  obtain rfl:=Option.some.inj h
  refine ⟨.inr rfl,(.cons (sv rfl) .nil)⟩

theorem rJ (a0 : Int) (r : (bE × Int)) (h : lL a0 = some r) : cF Tryz.prog 43 [.int .i64 a0] (retD [.agg (v6 r.1),.int .i64 r.2]):=by
 refine bA (rs:=[.agg (v6 r.1),.int .i64 r.2]) Tryz.func43 rfl Tryz.ntmps43 (nle rfl) rfl fun O hO=>?_
 show IWP _ _ _ _ ⟨[(0,.int .i64 a0)],[]⟩ _
 unfold lL at h
 refine aE (aA rfl (bD (cs:=q18) (cs':=(w45 0 0 0 0)) 0 rfl rfl (lb rfl) rfl ti44 rfl rfl (.all _)) <|aA rfl (aH rfl rfl (lb rfl) (sv (d:=.int _ 0) rfl)) <|aD ?_)
 refine aE (aA rfl (mvI rfl rfl rfl rfl) <|aA rfl (mvI rfl rfl rfl rfl) <|aA rfl (bS (cs:=q18) rfl rfl (lb rfl) Tryz.underlying44 ti44 pl44 rfl (.cons (svI rfl) (.cons (svI rfl) .nil)) rfl) <|aA rfl (bD (cs:=q18) (cs':=(w45 0 0 0 0)) 1 rfl rfl (lb rfl) rfl ti44 rfl rfl (.all _)) <|aA rfl (stA q18 q18 ti44 rfl rfl rfl rfl rfl rfl rfl rfl (nle rfl) rfl) <|aD ?_)
 refine bC ?_
 obtain ⟨x1,hx1,h⟩:=bF h
 refine aE (aA rfl (lra q18 la44 rfl rfl rfl rfl rfl (nle rfl) rfl) <|aA rfl (aU (r:=.int _ _) rfl rfl (lb rfl) cl95 (.cons (svA q18 rfl) .nil) rfl (gV _ _ hx1)) <|aA rfl (asI rfl rfl rfl rfl) <|aD ?_)
 obtain ⟨x2,hx2,h⟩:=aQ h
 refine aE (aA rfl (mvI rfl rfl rfl rfl) <|aA rfl (aP rfl rfl (lb rfl) (svI rfl) (sv (d:=.int _ 0) rfl) rfl hx2) <|aD ?_)
 refine aV (b:=_) rfl (fun hc3=>?_) (fun hc3=>?_)
 ·
  replace h:=cD h hc3
  refine aE (aA rfl (bS (cs:=q18) rfl rfl (lb rfl) Tryz.underlying44 ti44 pl44 rfl .nil rfl) <|aA rfl (mvI rfl rfl rfl rfl) <|aA rfl (stA q18 q18 ti44 rfl rfl rfl rfl rfl rfl rfl rfl (nle rfl) rfl) <|aA rfl (asI rfl rfl rfl rfl) <|aD ?_)
  refine aT ?_
  refine bI ?_
  obtain rfl:=Option.some.inj h
  refine ⟨.inr rfl,(.cons (rva la44 rfl rfl (nle rfl) rfl) (.cons (sv rfl) .nil))⟩
 ·
  replace h:=cE h hc3
  refine aY ?_
  refine aS ?_
  refine aE (aA rfl (lra q18 la44 rfl rfl rfl rfl rfl (nle rfl) rfl) <|aA rfl (stA q18 q18 ti44 rfl rfl rfl rfl rfl rfl rfl rfl (nle rfl) rfl) <|aA rfl (aH rfl rfl (lb rfl) (sv (d:=.int _ 0) rfl)) <|aD ?_)
  refine aT ?_
  obtain rfl:=Option.some.inj h
  refine ⟨.inr rfl,(.cons (rva la44 rfl rfl (nle rfl) rfl) (.cons (sv rfl) .nil))⟩

theorem zJ  (r : aW) (h : uP = some r) : cF Tryz.prog 44 [] (.agg (v2 r)):=by
 refine bA (rs:=[.agg (v2 r)]) Tryz.func44 rfl Tryz.ntmps44 (nle rfl) rfl fun O hO=>?_
 show IWP _ _ _ _ ⟨[],[]⟩ _
 unfold uP at h
 refine aE (aA rfl (bD (cs:=q17) (cs':=(w42 0 [] 0 ([] : List aJ) ([] : List aG) false false false false)) 0 rfl rfl (lb rfl) rfl ti37 rfl rfl (.k (.k (.k (.cons (.nils _) (.cons (.nils _) (.all _))))))) <|aD ?_)
 refine aE (aA rfl (xY (d':=.agg (w42 0 [] 0 ([] : List aJ) ([] : List aG) false false false false)) (bS (cs:=q17) rfl rfl (lb rfl) Tryz.underlying37 ti37 pl37 rfl .nil rfl) (.agg (.k (.k (.k (.cons (.nils _) (.cons (.nils _) (.all _)))))))) <|aA rfl (bN (ds':=[.int _ _,.str _,.int _ _,.slice false (([] : List aJ).map aB.d),.slice false (([] : List aG).map aK.d),.bool _,.bool _,.bool _,.bool _]) rfl rfl ti37 (svR rfl) rfl (svA q15 rfl) rfl rfl rfl (nle rfl) rfl) <|aD ?_)
 refine aT ?_
 obtain rfl:=Option.some.inj h
 refine ⟨.inr rfl,(.cons (rva la37 rfl rfl (nle rfl) rfl) .nil)⟩

theorem xR  (r : bJ) (h : sK = some r) : cF Tryz.prog 100 [] (.agg (v5 r)):=by
 refine bA (rs:=[.agg (v5 r)]) Tryz.func100 rfl Tryz.ntmps100 (nle rfl) rfl fun O hO=>?_
 show IWP _ _ _ _ ⟨[],[]⟩ _
 unfold sK at h
 refine aE (aA rfl (bD (cs:=q26) (cs':=[.int .i64 0,.str [],.slice false (([] : List aN).map aL.d)]) 0 rfl rfl (lb rfl) rfl ti40 rfl rfl (.k (.k (.cons (.nils _) .nil)))) <|aD ?_)
 refine aE (aA rfl (xY (d':=.agg [.int .i64 0,.str [],.slice false (([] : List aN).map aL.d)]) (bS (cs:=q26) rfl rfl (lb rfl) Tryz.underlying40 ti40 pl40 rfl .nil rfl) (.agg (.k (.k (.cons (.nils _) .nil))))) <|aA rfl (bN (ds':=[.int _ _,.str _,.slice false (([] : List aN).map aL.d)]) rfl rfl ti40 (svR rfl) rfl (svA q23 rfl) rfl rfl rfl (nle rfl) rfl) <|aD ?_)
 refine aT ?_
 obtain rfl:=Option.some.inj h
 refine ⟨.inr rfl,(.cons (rva la40 rfl rfl (nle rfl) rfl) .nil)⟩

theorem zL  (r : bV) (h : uR = some r) : cF Tryz.prog 45 [] (.agg (v4 r)):=by
 refine bA (rs:=[.agg (v4 r)]) Tryz.func45 rfl Tryz.ntmps45 (nle rfl) rfl fun O hO=>?_
 show IWP _ _ _ _ ⟨[],[]⟩ _
 unfold uR at h
 refine aE (aA rfl (bD (cs:=q22) (cs':=(w44 0 [] ([] : List aN) 0)) 0 rfl rfl (lb rfl) rfl ti42 rfl rfl (.k (.k (.cons (.nils _) (.all _))))) <|aD ?_)
 obtain ⟨x1,hx1,h⟩:=bF h
 refine aE (aA rfl (aU (r:=.agg q23) rfl rfl (lb rfl) cl100 .nil rfl (xR  _ hx1)) <|aA rfl (bS (cs:=q19) rfl rfl (lb rfl) Tryz.underlying42 ti42 pl42 rfl (.cons (svA q23 rfl) (.cons (sv (d:=.int _ (-1)) rfl) .nil)) rfl) <|aA rfl (stA q19 q19 ti42 rfl rfl rfl rfl rfl rfl rfl rfl (nle rfl) rfl) <|aD ?_)
 refine aT ?_
 obtain rfl:=Option.some.inj h
 refine ⟨.inr rfl,(.cons (rva la42 rfl rfl (nle rfl) rfl) .nil)⟩

theorem mV (a0 : Int) (a1 : Int) (a2 : Int) (r : (aR × Int)) (h : lB a0 a1 a2 = some r) : cF Tryz.prog 14 [.int .i64 a0,.int .i64 a1,.int .i64 a2] (retD [.agg (v1 r.1),.int .i64 r.2]):=by
 refine bA (rs:=[.agg (v1 r.1),.int .i64 r.2]) Tryz.func14 rfl Tryz.ntmps14 (nle rfl) rfl fun O hO=>?_
 show IWP _ _ _ _ ⟨[(0,.int .i64 a0),(1,.int .i64 a1),(2,.int .i64 a2)],[]⟩ _
 unfold lB at h
 refine aE (aA rfl (bD (cs:=q14) (cs':=(w41 0 0 [] 0 ([] : List aJ) ([] : List aG) false false false false 0 [] ([] : List aN) 0 0 0 0 0 0 0 0 0 0 0)) 0 rfl rfl (lb rfl) rfl ti46 rfl rfl (.k4 (.cons (.nils _) (.cons (.nils _) (.k4 (.k (.k (.cons (.nils _) (.all _))))))))) <|aA rfl (aH rfl rfl (lb rfl) (sv (d:=.int _ 0) rfl)) <|aD ?_)
 obtain ⟨x1,hx1,h⟩:=bF h
 refine aE (aA rfl (mvI rfl rfl rfl rfl) <|aA rfl (aU (r:=.tuple q37) rfl rfl (lb rfl) cl43 (.cons (svI rfl) .nil) rfl (rJ _ _ hx1)) <|aA rfl (aM rfl rfl (lb rfl) (sv (d:=.tuple q37) rfl)) <|aA rfl (aZ (d:=.agg q18) rfl rfl (lb rfl) (sv (d:=.tuple q37) rfl) rfl) <|aA rfl (aZ (d:=.int _ _) rfl rfl (lb rfl) (sv (d:=.tuple q37) rfl) rfl) <|aA rfl (bD (cs:=q18) (cs':=(w45 0 0 0 0)) 1 rfl rfl (lb rfl) rfl ti44 rfl rfl (.all _)) <|aA rfl (stA q18 q18 ti44 rfl rfl rfl rfl rfl rfl rfl rfl (nle rfl) rfl) <|aA rfl (asI rfl rfl rfl rfl) <|aD ?_)
 obtain ⟨x2,hx2,h⟩:=bF h
 refine aE (aA rfl (mvI rfl rfl rfl rfl) <|aA rfl (aU (r:=.tuple q37) rfl rfl (lb rfl) cl43 (.cons (svI rfl) .nil) rfl (rJ _ _ hx2)) <|aA rfl (aM rfl rfl (lb rfl) (sv (d:=.tuple q37) rfl)) <|aA rfl (aZ (d:=.agg q18) rfl rfl (lb rfl) (sv (d:=.tuple q37) rfl) rfl) <|aA rfl (aZ (d:=.int _ _) rfl rfl (lb rfl) (sv (d:=.tuple q37) rfl) rfl) <|aA rfl (bD (cs:=q18) (cs':=(w45 0 0 0 0)) 2 rfl rfl (lb rfl) rfl ti44 rfl rfl (.all _)) <|aA rfl (stA q18 q18 ti44 rfl rfl rfl rfl rfl rfl rfl rfl (nle rfl) rfl) <|aA rfl (asI rfl rfl rfl rfl) <|aD ?_)
 refine bC ?_
 obtain ⟨x3,hx3,h⟩:=aQ h
 obtain ⟨x4,hx4,h⟩:=aQ h
 obtain ⟨x5,hx5,h⟩:=aQ h
 obtain ⟨x6,hx6,h⟩:=aQ h
 obtain ⟨x7,hx7,h⟩:=aQ h
 obtain ⟨x8,hx8,h⟩:=aQ h
 obtain ⟨x9,hx9,h⟩:=aQ h
 obtain ⟨x10,hx10,h⟩:=aQ h
 obtain ⟨x11,hx11,h⟩:=aQ h
 refine aE (aA rfl (mvI rfl rfl rfl rfl) <|aA rfl (aP rfl rfl (lb rfl) (svI rfl) (sv (d:=.int _ 0) rfl) rfl hx3) <|aA rfl (mvB rfl rfl rfl rfl) <|aC rfl rfl (.one rfl) rfl (by decide) (fun hb=>(mvI rfl rfl rfl rfl)) <|aC rfl rfl (.one rfl) rfl (by decide) (fun hb=>(aP rfl rfl (lb rfl) (svcI rfl hb) (sv (d:=.int _ 0) rfl) rfl hx4)) <|aA rfl (cQ rfl rfl (lb rfl) (svB rfl) rfl rfl hx5) <|aA rfl (mvB rfl rfl rfl rfl) <|aC rfl rfl (.one rfl) rfl (by decide) (fun hb=>(mvI rfl rfl rfl rfl)) <|aC rfl rfl (.one rfl) rfl (by decide) (fun hb=>(aP rfl rfl (lb rfl) (svcI rfl hb) (sv (d:=.int _ 4096) rfl) rfl hx6)) <|aA rfl (cQ rfl rfl (lb rfl) (svB rfl) rfl rfl hx7) <|aA rfl (mvB rfl rfl rfl rfl) <|aC rfl rfl (.one rfl) rfl (by decide) (fun hb=>(mvI rfl rfl rfl rfl)) <|aC rfl rfl (.one rfl) rfl (by decide) (fun hb=>(aP rfl rfl (lb rfl) (svcI rfl hb) (sv (d:=.int _ 0) rfl) rfl hx8)) <|aA rfl (cQ rfl rfl (lb rfl) (svB rfl) rfl rfl hx9) <|aA rfl (mvB rfl rfl rfl rfl) <|aC rfl rfl (.one rfl) rfl (by decide) (fun hb=>(mvI rfl rfl rfl rfl)) <|aC rfl rfl (.one rfl) rfl (by decide) (fun hb=>(aP rfl rfl (lb rfl) (svcI rfl hb) (sv (d:=.int _ 1048576) rfl) rfl hx10)) <|aA rfl (cQ rfl rfl (lb rfl) (svB rfl) rfl rfl hx11) <|aD ?_)
 refine aV (b:=_) rfl (fun hc12=>?_) (fun hc12=>?_)
 ·
  replace h:=cD h hc12
  refine aE (aA rfl (xY (d':=.agg (w41 0 0 [] 0 ([] : List aJ) ([] : List aG) false false false false 0 [] ([] : List aN) 0 0 0 0 0 0 0 0 0 0 0)) (bS (cs:=q14) rfl rfl (lb rfl) Tryz.underlying46 ti46 pl46 rfl .nil rfl) (.agg (.k4 (.cons (.nils _) (.cons (.nils _) (.k4 (.k (.k (.cons (.nils _) (.all _)))))))))) <|aA rfl (bN (ds':=[.int _ _,.int _ _,.str _,.int _ _,.slice false (([] : List aJ).map aB.d),.slice false (([] : List aG).map aK.d),.bool _,.bool _,.bool _,.bool _,.int _ _,.str _,.slice false (([] : List aN).map aL.d),.int _ _,.int _ _,.int _ _,.int _ _,.int _ _,.int _ _,.int _ _,.int _ _,.int _ _,.int _ _,.int _ _]) rfl rfl ti46 (svR rfl) rfl (svA q13 rfl) rfl rfl rfl (nle rfl) rfl) <|aA rfl (aH rfl rfl (lb rfl) (sv (d:=.int _ 8) rfl)) <|aD ?_)
  refine aT ?_
  refine bI ?_
  obtain rfl:=Option.some.inj h
  refine ⟨.inr rfl,(.cons (rva la46 rfl rfl (nle rfl) rfl) (.cons (sv rfl) .nil))⟩
 ·
  replace h:=cE h hc12
  refine aY ?_
  refine aS ?_
  obtain ⟨x13,hx13,h⟩:=bF h
  obtain ⟨x14,hx14,h⟩:=bF h
  refine dD rfl [⟨[0],[],[(41,.int .i64 a0)],[]⟩,
   ⟨[],[],[(42,.agg (v2 x13))],[]⟩,
   ⟨[],[],[(43,.agg (v4 x14))],[]⟩,
   ⟨[8],[1],[(44,.agg (v6 x1.1))],[]⟩,
   ⟨[10],[2],[(45,.agg (v6 x2.1))],[]⟩,
   ⟨[41,42,43,44,45],[],[(46,.agg (w41 a0 x13.Base x13.Data x13.Next x13.Pieces x13.Lost x13.Closed x13.Sent x13.Again x13.Done x14.Recv.Base x14.Recv.Ready x14.Recv.Parts x14.End x1.1.Window x1.1.Limit x1.1.Used x1.1.Read x2.1.Window x2.1.Limit x2.1.Used x2.1.Read (-1) (-1)))],[]⟩,
   ⟨[6,46],[0],[],[(0,.blk 46 (w41 a0 x13.Base x13.Data x13.Next x13.Pieces x13.Lost x13.Closed x13.Sent x13.Again x13.Done x14.Recv.Base x14.Recv.Ready x14.Recv.Parts x14.End x1.1.Window x1.1.Limit x1.1.Used x1.1.Read x2.1.Window x2.1.Limit x2.1.Used x2.1.Read (-1) (-1)))]⟩,
   ⟨[],[],[(7,.int .i64 0)],[]⟩] rfl ?_ (by kernel_rfl) ?_
  ·refine .cons (lop rfl rfl fun S hA=>(aM rfl rfl (lb rfl) (svaI hA rfl rfl))) ?_
   refine .cons (lop rfl rfl fun S hA=>(aU (r:=.agg q15) rfl rfl (lb rfl) cl44 .nil rfl (zJ  _ hx13))) ?_
   refine .cons (lop rfl rfl fun S hA=>(aU (r:=.agg q19) rfl rfl (lb rfl) cl45 .nil rfl (zL  _ hx14))) ?_
   refine .cons (lop rfl rfl fun S hA=>(bK (cs:=q18) rfl rfl (lb rfl) Tryz.underlying44 ag44 ti44 (by decide) (svaR hA rfl rfl) (agi hA rfl rfl) (nle rfl) rfl)) ?_
   refine .cons (lop rfl rfl fun S hA=>(bK (cs:=q18) rfl rfl (lb rfl) Tryz.underlying44 ag44 ti44 (by decide) (svaR hA rfl rfl) (agi hA rfl rfl) (nle rfl) rfl)) ?_
   refine .cons (lop rfl rfl fun S hA=>(bS (cs:=q13) rfl rfl (lb rfl) Tryz.underlying46 ti46 pl46 rfl (.cons (svaI hA rfl rfl) (.cons (svaA q15 hA rfl rfl) (.cons (svaA q19 hA rfl rfl) (.cons (svaA q18 hA rfl rfl) (.cons (svaA q18 hA rfl rfl) (.cons (sv (d:=.int _ (-1)) rfl) (.cons (sv (d:=.int _ (-1)) rfl) .nil))))))) rfl)) ?_
   refine .cons (lop rfl rfl fun S hA=>(bN (ds':=q13) rfl rfl ti46 (svaR hA rfl rfl) (agi hA rfl rfl) (svaA q13 hA rfl rfl) rfl rfl rfl (nle rfl) rfl)) ?_
   refine .cons (lop rfl rfl fun S hA=>(aH rfl rfl (lb rfl) (sv (d:=.int _ 0) rfl))) ?_
   exact .nil
  refine aT ?_
  obtain rfl:=Option.some.inj h
  refine ⟨.inr rfl,(.cons (rva la46 rfl rfl (nle rfl) rfl) (.cons (sv rfl) .nil))⟩

theorem oD (a0 : Int) (a1 : Int) (a2 : Int) (r : Bool) (h : mK a0 a1 a2 = some r) : cF Tryz.prog 40 [.int .i64 a0,.int .i64 a1,.int .i64 a2] (.bool r):=by
 refine bA (rs:=[.bool r]) Tryz.func40 rfl Tryz.ntmps40 (nle rfl) rfl fun O hO=>?_
 show IWP _ _ _ _ ⟨[(0,.int .i64 a0),(1,.int .i64 a1),(2,.int .i64 a2)],[]⟩ _
 unfold mK at h
 refine aE (aA rfl (aH rfl rfl (lb rfl) (sv (d:=.bool false) rfl)) <|aD ?_)
 obtain ⟨x1,hx1,h⟩:=aQ h
 obtain ⟨x2,hx2,h⟩:=aQ h
 obtain ⟨x3,hx3,h⟩:=aQ h
 refine aE (aA rfl (mvI rfl rfl rfl rfl) <|aA rfl (mvI rfl rfl rfl rfl) <|aA rfl (aP rfl rfl (lb rfl) (svI rfl) (svI rfl) rfl hx1) <|aA rfl (mvB rfl rfl rfl rfl) <|aC rfl rfl (.one rfl) rfl (by decide) (fun hb=>(mvI rfl rfl rfl rfl)) <|aC rfl rfl (.one rfl) rfl (by decide) (fun hb=>(mvI rfl rfl rfl rfl)) <|aC rfl rfl (.one rfl) rfl (by decide) (fun hb=>(aP rfl rfl (lb rfl) (svcI rfl hb) (svcI rfl hb) rfl hx2)) <|aA rfl (bT rfl rfl (lb rfl) (svB rfl) rfl rfl hx3) <|aA rfl (asB rfl rfl rfl rfl) <|aD ?_)
 refine aT ?_
 obtain rfl:=Option.some.inj h
 refine ⟨.inr rfl,(.cons (sv rfl) .nil)⟩

theorem sV (a0 : Int) (r : Bool) (h : oJ a0 = some r) : cF Tryz.prog 185 [.int .i64 a0] (.bool r):=by
 refine bA (rs:=[.bool r]) Tryz.func185 rfl Tryz.ntmps185 (nle rfl) rfl fun O hO=>?_
 show IWP _ _ _ _ ⟨[(0,.int .i64 a0)],[]⟩ _
 unfold oJ at h
 refine aE (aA rfl (aH rfl rfl (lb rfl) (sv (d:=.bool false) rfl)) <|aD ?_)
 obtain ⟨x1,hx1,h⟩:=aQ h
 obtain ⟨x2,hx2,h⟩:=aQ h
 obtain ⟨x3,hx3,h⟩:=aQ h
 refine aE (aA rfl (mvI rfl rfl rfl rfl) <|aA rfl (aP rfl rfl (lb rfl) (svI rfl) (sv (d:=.int _ 0) rfl) rfl hx1) <|aA rfl (mvB rfl rfl rfl rfl) <|aC rfl rfl (.one rfl) rfl (by decide) (fun hb=>(mvI rfl rfl rfl rfl)) <|aC rfl rfl (.one rfl) rfl (by decide) (fun hb=>(aP rfl rfl (lb rfl) (svcI rfl hb) (sv (d:=.int _ 4611686018427387903) rfl) rfl hx2)) <|aA rfl (bT rfl rfl (lb rfl) (svB rfl) rfl rfl hx3) <|aA rfl (asB rfl rfl rfl rfl) <|aD ?_)
 refine aT ?_
 obtain rfl:=Option.some.inj h
 refine ⟨.inr rfl,(.cons (sv rfl) .nil)⟩

theorem jK (a0 : aG) (r : Bool) (h : fU a0 = some r) : cF Tryz.prog 170 [.agg [.int .i64 a0.From,.int .i64 a0.To]] (.bool r):=by
 refine bA (rs:=[.bool r]) Tryz.func170 rfl Tryz.ntmps170 (nle rfl) rfl fun O hO=>?_
 show IWP _ _ _ _ ⟨[(0,.agg [.int .i64 a0.From,.int .i64 a0.To])],[]⟩ _
 unfold fU at h
 refine aE (aA rfl (bR (cs:=q27) 0 rfl rfl (lb rfl) rfl (svA q27 rfl) rfl rfl) <|aA rfl (aH rfl rfl (lb rfl) (sv (d:=.bool false) rfl)) <|aD ?_)
 obtain ⟨x1,hx1,h⟩:=bF h
 obtain ⟨x2,hx2,h⟩:=bF h
 obtain ⟨x3,hx3,h⟩:=aQ h
 refine aE (aA rfl (faR 0 rfl rfl rfl Tryz.underlying219 rfl ti3 (lb rfl) rfl rfl) <|aA rfl (aF (d:=.int _ _) rfl rfl (lb rfl) Tryz.underlying3 ag3 ti3 (by decide) (svR rfl) rfl (nle rfl) rfl) <|aA rfl (aU (r:=.bool _) rfl rfl (lb rfl) cl185 (.cons (svI rfl) .nil) rfl (sV _ _ hx1)) <|aA rfl (mvB rfl rfl rfl rfl) <|aC rfl rfl (.one rfl) rfl (by decide) (fun hb=>(faR 1 rfl rfl rfl Tryz.underlying219 rfl ti3 (lb rfl) rfl rfl)) <|aC rfl rfl (.one rfl) rfl (by decide) (fun hb=>(aF (d:=.int _ _) rfl rfl (lb rfl) Tryz.underlying3 ag3 ti3 (by decide) (svcR rfl hb) rfl (nle rfl) rfl)) <|aC rfl rfl (.one rfl) rfl (by decide) (fun hb=>(aU (r:=.bool _) rfl rfl (lb rfl) cl185 (.cons (svcI rfl hb) .nil) rfl (sV _ _ (gd_t hx2 hb)))) <|aA rfl (bT rfl rfl (lb rfl) (svB rfl) rfl rfl hx3) <|aA rfl (asB rfl rfl rfl rfl) <|aD ?_)
 refine aT ?_
 obtain rfl:=Option.some.inj h
 refine ⟨.inr rfl,(.cons (sv rfl) .nil)⟩

theorem sW (a0 : aG) (r : Bool) (h : kC a0 = some r) : cF Tryz.prog 187 [.agg [.int .i64 a0.From,.int .i64 a0.To]] (.bool r):=by
 refine bA (rs:=[.bool r]) Tryz.func187 rfl Tryz.ntmps187 (nle rfl) rfl fun O hO=>?_
 show IWP _ _ _ _ ⟨[(0,.agg [.int .i64 a0.From,.int .i64 a0.To])],[]⟩ _
 unfold kC at h
 refine aE (aA rfl (bR (cs:=q27) 0 rfl rfl (lb rfl) rfl (svA q27 rfl) rfl rfl) <|aA rfl (aH rfl rfl (lb rfl) (sv (d:=.bool false) rfl)) <|aD ?_)
 obtain ⟨x1,hx1,h⟩:=bF h
 refine aE (aA rfl (lra q27 nK rfl rfl rfl rfl rfl (nle rfl) rfl) <|aA rfl (aU (r:=.bool _) rfl rfl (lb rfl) aBv (.cons (svA q27 rfl) .nil) rfl (jK _ _ hx1)) <|aA rfl (dB rfl rfl (lb rfl) (svB rfl)) <|aA rfl (asB rfl rfl rfl rfl) <|aD ?_)
 refine aT ?_
 obtain rfl:=Option.some.inj h
 refine ⟨.inr rfl,(.cons (sv rfl) .nil)⟩

theorem gT (a0 : (List aG)) (r : Int) (h : dV a0 = some r) : cF Tryz.prog 195 [.slice false (a0.map aK.d),.fn 187 []] (.int .i64 r):=by
 refine bA (rs:=[.int .i64 r]) Tryz.func195 rfl Tryz.ntmps195 (nle rfl) rfl fun O hO=>?_
 show IWP _ _ _ _ ⟨[(0,.slice false (a0.map aK.d)),(1,.fn 187 [])],[]⟩ _
 unfold dV at h
 refine aE (aA rfl (aH rfl rfl (lb rfl) (sv (d:=.int _ 0) rfl)) <|aD ?_)
 refine bC ?_
 refine aE (aA rfl (mvL rfl rfl rfl rfl) <|aA rfl (dL aK (l:=a0) rfl rfl (lb rfl) Tryz.underlying35 (svL rfl)) <|aA rfl (aM rfl rfl (lb rfl) (sv (d:=.int _ 0) rfl)) <|aD ?_)
 refine bZ ?_
 refine dW (α:=Nat × Int) (fun z=>⟨[(0,.slice false (a0.map aK.d)),(1,.fn 187 []),(7,.int .i64 (a0.length : Int)),(8,.int .i64 z.2)],[]⟩) (fun z=>bU a0 z.1 z.2 = some r) (fun z=>z.1) (fuel,0) (fun i=>i) ⟨(.sames rfl rfl),.nil,cK [] rfl (by decide),fun _ _=>rfl⟩ ?_ ?_
 ·exact h
 ·
  rintro ⟨n0,v7⟩ h
  cases n0 with
  | zero=>exact absurd h (by unfold bU; exact nofun)
  | succ n0 =>
   unfold bU at h
   obtain ⟨x14,hx14,h⟩:=aQ h
   refine aE (aA rfl (aP rfl rfl (lb rfl) (svI rfl) (svI rfl) rfl hx14) <|aD ?_)
   refine bC ?_
   refine aV (b:=_) rfl (fun hc15=>?_) (fun hc15=>?_)
   ·
    replace h:=cD h hc15
    refine aY ?_
    refine aS ?_
    refine bC ?_
    refine bZ ?_
    refine aE (aA rfl (mvI rfl rfl rfl rfl) <|aA rfl (asI rfl rfl rfl rfl) <|aD ?_)
    obtain ⟨x16,hx16,h⟩:=bF h
    obtain ⟨x17,hx17,h⟩:=bF h
    refine aE (aA rfl (aM rfl rfl (lb rfl) (sv (d:=.fn 187 []) rfl)) <|aA rfl (mvL rfl rfl rfl rfl) <|aA rfl (mvI rfl rfl rfl rfl) <|aA rfl (dY aK (cs:=q27) rfl rfl (lb rfl) Tryz.underlying35 fF (svL rfl) (svI rfl) hx16 rfl rfl) <|aA rfl (dE (cs:=q27) rfl rfl (lb rfl) Tryz.underlying219 tY fF (by decide) (sv (d:=.fptr q27) rfl) (nle rfl) rfl) <|aA rfl (nB (r:=.bool _) rfl rfl (lb rfl) cl187 (sv (d:=.fn 187 []) rfl) (.cons (svA q27 rfl) .nil) rfl (sW _ _ hx17)) <|aD ?_)
    refine aV (b:=_) rfl (fun hc18=>?_) (fun hc18=>?_)
    ·
     replace h:=cD h hc18
     refine aE (aA rfl (mvI rfl rfl rfl rfl) <|aA rfl (asI rfl rfl rfl rfl) <|aD ?_)
     refine aT ?_
     refine cS ?_
     refine bI ?_
     refine bI ?_
     refine cS ?_
     refine bI ?_
     obtain rfl:=Option.some.inj h
     refine ⟨.inr rfl,(.cons (sv rfl) .nil)⟩
    ·
     replace h:=cE h hc18
     refine aY ?_
     refine cO ?_
     refine aS ?_
     obtain ⟨x19,hx19,h⟩:=aQ h
     refine bO (aA rfl (bM rfl rfl (lb rfl) (svI rfl) (sv (d:=.int _ 1) rfl) rfl hx19) <|aA rfl (mvI rfl rfl rfl rfl) <|cL ?_)
     refine aS ⟨(n0,x19),(fun i=>i),⟨(.sames rfl rfl),.nil,cK [] rfl (by decide),fun _ _=>rfl⟩,?_,?_⟩
     exact h
     exact Nat.lt_succ_self _
   ·
    replace h:=cE h hc15
    refine eE ?_
    refine cU ?_
    refine cU ?_
    refine eG ?_
    refine aS ?_
    refine aE (aA rfl (aH rfl rfl (lb rfl) (sv (d:=.int _ (-1)) rfl)) <|aD ?_)
    refine aT ?_
    obtain rfl:=Option.some.inj h
    refine ⟨.inr rfl,(.cons (sv rfl) .nil)⟩

theorem gB (a0 : (List aG)) (r : Bool) (h : cX a0 = some r) : cF Tryz.prog 186 [.slice false (a0.map aK.d),.fn 187 []] (.bool r):=by
 refine bA (rs:=[.bool r]) Tryz.func186 rfl Tryz.ntmps186 (nle rfl) rfl fun O hO=>?_
 show IWP _ _ _ _ ⟨[(0,.slice false (a0.map aK.d)),(1,.fn 187 [])],[]⟩ _
 unfold cX at h
 refine aE (aA rfl (aH rfl rfl (lb rfl) (sv (d:=.bool false) rfl)) <|aD ?_)
 obtain ⟨x1,hx1,h⟩:=bF h
 obtain ⟨x2,hx2,h⟩:=aQ h
 refine aE (aA rfl (mvL rfl rfl rfl rfl) <|aA rfl (aM rfl rfl (lb rfl) (sv (d:=.fn 187 []) rfl)) <|aA rfl (aU (r:=.int _ _) rfl rfl (lb rfl) cl195 (.cons (svL rfl) (.cons (sv (d:=.fn 187 []) rfl) .nil)) rfl (gT _ _ hx1)) <|aA rfl (aP rfl rfl (lb rfl) (svI rfl) (sv (d:=.int _ 0) rfl) rfl hx2) <|aA rfl (asB rfl rfl rfl rfl) <|aD ?_)
 refine aT ?_
 obtain rfl:=Option.some.inj h
 refine ⟨.inr rfl,(.cons (sv rfl) .nil)⟩

theorem fX (a0 : aG) (r : Bool) (h : eX a0 = some r) : cF Tryz.prog 171 [.agg [.int .i64 a0.From,.int .i64 a0.To]] (.bool r):=by
 refine bA (rs:=[.bool r]) Tryz.func171 rfl Tryz.ntmps171 (nle rfl) rfl fun O hO=>?_
 show IWP _ _ _ _ ⟨[(0,.agg [.int .i64 a0.From,.int .i64 a0.To])],[]⟩ _
 unfold eX at h
 refine aE (aA rfl (bR (cs:=q27) 0 rfl rfl (lb rfl) rfl (svA q27 rfl) rfl rfl) <|aA rfl (aH rfl rfl (lb rfl) (sv (d:=.bool false) rfl)) <|aD ?_)
 obtain ⟨x1,hx1,h⟩:=aQ h
 refine aE (aA rfl (faR 1 rfl rfl rfl Tryz.underlying219 rfl ti3 (lb rfl) rfl rfl) <|aA rfl (aF (d:=.int _ _) rfl rfl (lb rfl) Tryz.underlying3 ag3 ti3 (by decide) (svR rfl) rfl (nle rfl) rfl) <|aA rfl (faR 0 rfl rfl rfl Tryz.underlying219 rfl ti3 (lb rfl) rfl rfl) <|aA rfl (aF (d:=.int _ _) rfl rfl (lb rfl) Tryz.underlying3 ag3 ti3 (by decide) (svR rfl) rfl (nle rfl) rfl) <|aA rfl (aP rfl rfl (lb rfl) (svI rfl) (svI rfl) rfl hx1) <|aA rfl (asB rfl rfl rfl rfl) <|aD ?_)
 refine aT ?_
 obtain rfl:=Option.some.inj h
 refine ⟨.inr rfl,(.cons (sv rfl) .nil)⟩

theorem hT (a0 : (List aG)) (r : Int) (h : dZ a0 = some r) : cF Tryz.prog 195 [.slice false (a0.map aK.d),.fn 171 []] (.int .i64 r):=by
 refine bA (rs:=[.int .i64 r]) Tryz.func195 rfl Tryz.ntmps195 (nle rfl) rfl fun O hO=>?_
 show IWP _ _ _ _ ⟨[(0,.slice false (a0.map aK.d)),(1,.fn 171 [])],[]⟩ _
 unfold dZ at h
 refine aE (aA rfl (aH rfl rfl (lb rfl) (sv (d:=.int _ 0) rfl)) <|aD ?_)
 refine bC ?_
 refine aE (aA rfl (mvL rfl rfl rfl rfl) <|aA rfl (dL aK (l:=a0) rfl rfl (lb rfl) Tryz.underlying35 (svL rfl)) <|aA rfl (aM rfl rfl (lb rfl) (sv (d:=.int _ 0) rfl)) <|aD ?_)
 refine bZ ?_
 refine dW (α:=Nat × Int) (fun z=>⟨[(0,.slice false (a0.map aK.d)),(1,.fn 171 []),(7,.int .i64 (a0.length : Int)),(8,.int .i64 z.2)],[]⟩) (fun z=>bY a0 z.1 z.2 = some r) (fun z=>z.1) (fuel,0) (fun i=>i) ⟨(.sames rfl rfl),.nil,cK [] rfl (by decide),fun _ _=>rfl⟩ ?_ ?_
 ·exact h
 ·
  rintro ⟨n0,v7⟩ h
  cases n0 with
  | zero=>exact absurd h (by unfold bY; exact nofun)
  | succ n0 =>
   unfold bY at h
   obtain ⟨x14,hx14,h⟩:=aQ h
   refine aE (aA rfl (aP rfl rfl (lb rfl) (svI rfl) (svI rfl) rfl hx14) <|aD ?_)
   refine bC ?_
   refine aV (b:=_) rfl (fun hc15=>?_) (fun hc15=>?_)
   ·
    replace h:=cD h hc15
    refine aY ?_
    refine aS ?_
    refine bC ?_
    refine bZ ?_
    refine aE (aA rfl (mvI rfl rfl rfl rfl) <|aA rfl (asI rfl rfl rfl rfl) <|aD ?_)
    obtain ⟨x16,hx16,h⟩:=bF h
    obtain ⟨x17,hx17,h⟩:=bF h
    refine aE (aA rfl (aM rfl rfl (lb rfl) (sv (d:=.fn 171 []) rfl)) <|aA rfl (mvL rfl rfl rfl rfl) <|aA rfl (mvI rfl rfl rfl rfl) <|aA rfl (dY aK (cs:=q27) rfl rfl (lb rfl) Tryz.underlying35 fF (svL rfl) (svI rfl) hx16 rfl rfl) <|aA rfl (dE (cs:=q27) rfl rfl (lb rfl) Tryz.underlying219 tY fF (by decide) (sv (d:=.fptr q27) rfl) (nle rfl) rfl) <|aA rfl (nB (r:=.bool _) rfl rfl (lb rfl) zX (sv (d:=.fn 171 []) rfl) (.cons (svA q27 rfl) .nil) rfl (fX _ _ hx17)) <|aD ?_)
    refine aV (b:=_) rfl (fun hc18=>?_) (fun hc18=>?_)
    ·
     replace h:=cD h hc18
     refine aE (aA rfl (mvI rfl rfl rfl rfl) <|aA rfl (asI rfl rfl rfl rfl) <|aD ?_)
     refine aT ?_
     refine cS ?_
     refine bI ?_
     refine bI ?_
     refine cS ?_
     refine bI ?_
     obtain rfl:=Option.some.inj h
     refine ⟨.inr rfl,(.cons (sv rfl) .nil)⟩
    ·
     replace h:=cE h hc18
     refine aY ?_
     refine cO ?_
     refine aS ?_
     obtain ⟨x19,hx19,h⟩:=aQ h
     refine bO (aA rfl (bM rfl rfl (lb rfl) (svI rfl) (sv (d:=.int _ 1) rfl) rfl hx19) <|aA rfl (mvI rfl rfl rfl rfl) <|cL ?_)
     refine aS ⟨(n0,x19),(fun i=>i),⟨(.sames rfl rfl),.nil,cK [] rfl (by decide),fun _ _=>rfl⟩,?_,?_⟩
     exact h
     exact Nat.lt_succ_self _
   ·
    replace h:=cE h hc15
    refine eE ?_
    refine cU ?_
    refine cU ?_
    refine eG ?_
    refine aS ?_
    refine aE (aA rfl (aH rfl rfl (lb rfl) (sv (d:=.int _ (-1)) rfl)) <|aD ?_)
    refine aT ?_
    obtain rfl:=Option.some.inj h
    refine ⟨.inr rfl,(.cons (sv rfl) .nil)⟩

theorem gU (a0 : (List aG)) (r : Bool) (h : dG a0 = some r) : cF Tryz.prog 186 [.slice false (a0.map aK.d),.fn 171 []] (.bool r):=by
 refine bA (rs:=[.bool r]) Tryz.func186 rfl Tryz.ntmps186 (nle rfl) rfl fun O hO=>?_
 show IWP _ _ _ _ ⟨[(0,.slice false (a0.map aK.d)),(1,.fn 171 [])],[]⟩ _
 unfold dG at h
 refine aE (aA rfl (aH rfl rfl (lb rfl) (sv (d:=.bool false) rfl)) <|aD ?_)
 obtain ⟨x1,hx1,h⟩:=bF h
 obtain ⟨x2,hx2,h⟩:=aQ h
 refine aE (aA rfl (mvL rfl rfl rfl rfl) <|aA rfl (aM rfl rfl (lb rfl) (sv (d:=.fn 171 []) rfl)) <|aA rfl (aU (r:=.int _ _) rfl rfl (lb rfl) cl195 (.cons (svL rfl) (.cons (sv (d:=.fn 171 []) rfl) .nil)) rfl (hT _ _ hx1)) <|aA rfl (aP rfl rfl (lb rfl) (svI rfl) (sv (d:=.int _ 0) rfl) rfl hx2) <|aA rfl (asB rfl rfl rfl rfl) <|aD ?_)
 refine aT ?_
 obtain rfl:=Option.some.inj h
 refine ⟨.inr rfl,(.cons (sv rfl) .nil)⟩

theorem lE (a0 : (List aG)) (r : Int) (h : iV a0 = some r) : cF Tryz.prog 172 [.slice false (a0.map aK.d)] (.int .i64 r):=by
 refine bA (rs:=[.int .i64 r]) Tryz.func172 rfl Tryz.ntmps172 (nle rfl) rfl fun O hO=>?_
 show IWP _ _ _ _ ⟨[(0,.slice false (a0.map aK.d))],[]⟩ _
 unfold iV at h
 refine aE (aA rfl (aH rfl rfl (lb rfl) (sv (d:=.int _ 0) rfl)) <|aD ?_)
 refine bC ?_
 refine bZ ?_
 obtain ⟨x1,hx1,h⟩:=bF h
 refine aE (aA rfl (mvL rfl rfl rfl rfl) <|aA rfl (aU (r:=.bool _) rfl rfl (lb rfl) cl186 (.cons (svL rfl) (.cons (sv (d:=.fn 187 []) rfl) .nil)) rfl (gB _ _ hx1)) <|aA rfl (asB rfl rfl rfl rfl) <|aD ?_)
 refine aV (b:=_) rfl (fun hc2=>?_) (fun hc2=>?_)
 ·
  replace h:=cD h hc2
  refine aE (aA rfl (aH rfl rfl (lb rfl) (sv (d:=.int _ 8) rfl)) <|aD ?_)
  refine aT ?_
  refine cS ?_
  refine bI ?_
  obtain rfl:=Option.some.inj h
  refine ⟨.inr rfl,(.cons (sv rfl) .nil)⟩
 ·
  replace h:=cE h hc2
  obtain ⟨x3,hx3,h⟩:=bF h
  refine aE (aA rfl (mvL rfl rfl rfl rfl) <|aA rfl (aU (r:=.bool _) rfl rfl (lb rfl) cl186 (.cons (svL rfl) (.cons (sv (d:=.fn 171 []) rfl) .nil)) rfl (gU _ _ hx3)) <|aA rfl (asB rfl rfl rfl rfl) <|aD ?_)
  refine aV (b:=_) rfl (fun hc4=>?_) (fun hc4=>?_)
  ·
   replace h:=cD h hc4
   refine aE (aA rfl (aH rfl rfl (lb rfl) (sv (d:=.int _ 4) rfl)) <|aD ?_)
   refine aT ?_
   refine cS ?_
   refine bI ?_
   obtain rfl:=Option.some.inj h
   refine ⟨.inr rfl,(.cons (sv rfl) .nil)⟩
  ·
   replace h:=cE h hc4
   refine aY ?_
   refine cO ?_
   refine aS ?_
   refine bC ?_
   refine aE (aA rfl (aH rfl rfl (lb rfl) (sv (d:=.int _ 1) rfl)) <|aD ?_)
   refine bZ ?_
   refine dW (α:=Nat × Int) (fun z=>⟨[(0,.slice false (a0.map aK.d)),(3,.int .i64 z.2)],[]⟩) (fun z=>fH a0 z.1 z.2 = some r) (fun z=>z.1) (fuel,1) (fun i=>i) ⟨(.sames rfl rfl),.nil,cK [] rfl (by decide),fun _ _=>rfl⟩ ?_ ?_
   ·exact h
   ·
    rintro ⟨n0,v13⟩ h
    cases n0 with
    | zero=>exact absurd h (by unfold fH; exact nofun)
    | succ n0 =>
     unfold fH at h
     refine bC ?_
     obtain ⟨x22,hx22,h⟩:=aQ h
     refine aE (aA rfl (mvI rfl rfl rfl rfl) <|aA rfl (mvL rfl rfl rfl rfl) <|aA rfl (dL aK (l:=a0) rfl rfl (lb rfl) Tryz.underlying35 (svL rfl)) <|aA rfl (aP rfl rfl (lb rfl) (svI rfl) (svI rfl) rfl hx22) <|aD ?_)
     refine aV (b:=_) rfl (fun hc23=>?_) (fun hc23=>?_)
     ·
      replace h:=cD h hc23
      refine aY ?_
      refine aS ?_
      refine bC ?_
      refine bZ ?_
      obtain ⟨x24,hx24,h⟩:=bF h
      obtain ⟨x25,hx25,h⟩:=aQ h
      obtain ⟨x26,hx26,h⟩:=bF h
      obtain ⟨x27,hx27,h⟩:=aQ h
      refine dD rfl [⟨[0],[],[(16,.slice false (a0.map aK.d))],[]⟩,
       ⟨[3],[],[(17,.int .i64 v13)],[]⟩,
       ⟨[16,17],[],[(18,.fptr [.int .i64 x24.From,.int .i64 x24.To])],[]⟩,
       ⟨[18],[],[(19,.fptr [.int .i64 x24.From])],[]⟩,
       ⟨[19],[],[(20,.int .i64 x24.From)],[]⟩,
       ⟨[0],[],[(21,.slice false (a0.map aK.d))],[]⟩,
       ⟨[3],[],[(22,.int .i64 v13)],[]⟩,
       ⟨[22],[],[(23,.int .i64 x25)],[]⟩,
       ⟨[21,23],[],[(24,.fptr [.int .i64 x26.From,.int .i64 x26.To])],[]⟩,
       ⟨[24],[],[(25,.fptr [.int .i64 x26.To])],[]⟩,
       ⟨[25],[],[(26,.int .i64 x26.To)],[]⟩,
       ⟨[20,26],[],[(27,.bool x27)],[]⟩] rfl ?_ (by kernel_rfl) ?_
      ·refine .cons (lop rfl rfl fun S hA=>(aM rfl rfl (lb rfl) (svaL hA rfl rfl))) ?_
       refine .cons (lop rfl rfl fun S hA=>(aM rfl rfl (lb rfl) (svaI hA rfl rfl))) ?_
       refine .cons (lop rfl rfl fun S hA=>(dY aK (cs:=q27) rfl rfl (lb rfl) Tryz.underlying35 fF (svaL hA rfl rfl) (svaI hA rfl rfl) hx24 rfl rfl)) ?_
       refine .cons (lop rfl rfl fun S hA=>(bG (cs':=[.int _ _]) rfl rfl (lb rfl) Tryz.underlying219 rfl ti3 (by decide) (sv (d:=.fptr q27) (agr hA rfl rfl)) rfl)) ?_
       refine .cons (lop rfl rfl fun S hA=>(dA rfl rfl (lb rfl) Tryz.underlying3 ag3 ti3 (by decide) (sv (d:=.fptr [.int _ _]) (agr hA rfl rfl)) (nle rfl))) ?_
       refine .cons (lop rfl rfl fun S hA=>(aM rfl rfl (lb rfl) (svaL hA rfl rfl))) ?_
       refine .cons (lop rfl rfl fun S hA=>(aM rfl rfl (lb rfl) (svaI hA rfl rfl))) ?_
       refine .cons (lop rfl rfl fun S hA=>(bM rfl rfl (lb rfl) (svaI hA rfl rfl) (sv (d:=.int _ 1) rfl) rfl hx25)) ?_
       refine .cons (lop rfl rfl fun S hA=>(dY aK (cs:=q27) rfl rfl (lb rfl) Tryz.underlying35 fF (svaL hA rfl rfl) (svaI hA rfl rfl) hx26 rfl rfl)) ?_
       refine .cons (lop rfl rfl fun S hA=>(bG (cs':=[.int _ _]) rfl rfl (lb rfl) Tryz.underlying219 rfl ti3 (by decide) (sv (d:=.fptr q27) (agr hA rfl rfl)) rfl)) ?_
       refine .cons (lop rfl rfl fun S hA=>(dA rfl rfl (lb rfl) Tryz.underlying3 ag3 ti3 (by decide) (sv (d:=.fptr [.int _ _]) (agr hA rfl rfl)) (nle rfl))) ?_
       refine .cons (lop rfl rfl fun S hA=>(aP rfl rfl (lb rfl) (svaI hA rfl rfl) (svaI hA rfl rfl) rfl hx27)) ?_
       exact .nil
      refine aV (b:=_) rfl (fun hc28=>?_) (fun hc28=>?_)
      ·
       replace h:=cD h hc28
       refine aE (aA rfl (aH rfl rfl (lb rfl) (sv (d:=.int _ 10) rfl)) <|aD ?_)
       refine aT ?_
       refine cS ?_
       refine bI ?_
       refine bI ?_
       refine cS ?_
       refine bI ?_
       obtain rfl:=Option.some.inj h
       refine ⟨.inr rfl,(.cons (sv rfl) .nil)⟩
      ·
       replace h:=cE h hc28
       refine aY ?_
       refine cO ?_
       refine aS ?_
       obtain ⟨x29,hx29,h⟩:=aQ h
       refine bO (aA rfl (mvI rfl rfl rfl rfl) <|aA rfl (bM rfl rfl (lb rfl) (svI rfl) (sv (d:=.int _ 1) rfl) rfl hx29) <|aA rfl (asI rfl rfl rfl rfl) <|cL ?_)
       refine aS ⟨(n0,x29),(fun i=>i),⟨(.sames rfl rfl),.nil,cK [] rfl (by decide),fun _ _=>rfl⟩,?_,?_⟩
       exact h
       exact Nat.lt_succ_self _
     ·
      replace h:=cE h hc23
      refine eE ?_
      refine cU ?_
      refine cU ?_
      refine eG ?_
      refine aS ?_
      refine aE (aA rfl (aH rfl rfl (lb rfl) (sv (d:=.int _ 0) rfl)) <|aD ?_)
      refine aT ?_
      obtain rfl:=Option.some.inj h
      refine ⟨.inr rfl,(.cons (sv rfl) .nil)⟩

theorem qV (a0 : aW) (r : Bool) (h : iQ a0 = some r) : cF Tryz.prog 160 [.agg (v2 a0)] (.bool r):=by
 refine bA (rs:=[.bool r]) Tryz.func160 rfl Tryz.ntmps160 (nle rfl) rfl fun O hO=>?_
 show IWP _ _ _ _ ⟨[(0,.agg (v2 a0))],[]⟩ _
 unfold iQ at h
 refine aE (aA rfl (bR (cs:=q15) 0 rfl rfl (lb rfl) rfl (svA q15 rfl) rfl rfl) <|aA rfl (aH rfl rfl (lb rfl) (sv (d:=.bool false) rfl)) <|aD ?_)
 refine bC ?_
 obtain ⟨x1,hx1,h⟩:=bF h
 obtain ⟨x2,hx2,h⟩:=aQ h
 refine aE (aA rfl (faR 4 rfl rfl rfl Tryz.underlying37 rfl ti35 (lb rfl) rfl rfl) <|aA rfl (lrL la35 rfl rfl rfl rfl rfl (nle rfl) rfl) <|aA rfl (aU (r:=.int _ _) rfl rfl (lb rfl) aBu (.cons (svL rfl) .nil) rfl (lE _ _ hx1)) <|aA rfl (aP rfl rfl (lb rfl) (svI rfl) (sv (d:=.int _ 0) rfl) rfl hx2) <|aD ?_)
 refine aV (b:=_) rfl (fun hc3=>?_) (fun hc3=>?_)
 ·
  replace h:=cD h hc3
  refine aE (aA rfl (aH rfl rfl (lb rfl) (sv (d:=.bool false) rfl)) <|aD ?_)
  refine aT ?_
  refine bI ?_
  obtain rfl:=Option.some.inj h
  refine ⟨.inr rfl,(.cons (sv rfl) .nil)⟩
 ·
  replace h:=cE h hc3
  refine aY ?_
  refine aS ?_
  obtain ⟨x4,hx4,h⟩:=aQ h
  obtain ⟨x5,hx5,h⟩:=bF h
  obtain ⟨x6,hx6,h⟩:=aQ h
  obtain ⟨x7,hx7,h⟩:=aQ h
  obtain ⟨x8,hx8,h⟩:=bF h
  obtain ⟨x9,hx9,h⟩:=aQ h
  obtain ⟨x10,hx10,h⟩:=aQ h
  obtain ⟨x11,hx11,h⟩:=aQ h
  refine dD rfl [⟨[1],[],[(7,.ref 0 4)],[]⟩,
   ⟨[7],[0],[(8,.slice false (a0.Lost.map aK.d))],[]⟩,
   ⟨[8],[],[(9,.int .i64 (a0.Lost.length : Int))],[]⟩,
   ⟨[9],[],[(10,.bool x4)],[]⟩,
   ⟨[10],[],[(11,.bool x4)],[]⟩,
   ⟨[1,11],[],[(12,.cnd (x4 == false) (.ref 0 4))],[]⟩,
   ⟨[11,12],[0],[(13,.cnd (x4 == false) (.slice false (a0.Lost.map aK.d)))],[]⟩,
   ⟨[11,13],[],[(14,.cnd (x4 == false) (.fptr [.int .i64 x5.From,.int .i64 x5.To]))],[]⟩,
   ⟨[11,14],[],[(15,.cnd (x4 == false) (.fptr [.int .i64 x5.From]))],[]⟩,
   ⟨[11,15],[],[(16,.cnd (x4 == false) (.int .i64 x5.From))],[]⟩,
   ⟨[1,11],[],[(17,.cnd (x4 == false) (.ref 0 0))],[]⟩,
   ⟨[11,17],[0],[(18,.cnd (x4 == false) (.int .i64 a0.Base))],[]⟩,
   ⟨[11,16,18],[],[(19,.cnd (x4 == false) (.bool x6))],[]⟩,
   ⟨[11,19],[],[(20,.cnd (x4 == false) (.bool x6))],[]⟩,
   ⟨[1,20],[],[(21,.cnd (((x4 == false) && (x6 == true))) (.ref 0 4))],[]⟩,
   ⟨[20,21],[0],[(22,.cnd (((x4 == false) && (x6 == true))) (.slice false (a0.Lost.map aK.d)))],[]⟩,
   ⟨[1,20],[],[(23,.cnd (((x4 == false) && (x6 == true))) (.ref 0 4))],[]⟩,
   ⟨[20,23],[0],[(24,.cnd (((x4 == false) && (x6 == true))) (.slice false (a0.Lost.map aK.d)))],[]⟩,
   ⟨[20,24],[],[(25,.cnd (((x4 == false) && (x6 == true))) (.int .i64 (a0.Lost.length : Int)))],[]⟩,
   ⟨[20,25],[],[(26,.cnd (((x4 == false) && (x6 == true))) (.int .i64 x7))],[]⟩,
   ⟨[20,22,26],[],[(27,.cnd (((x4 == false) && (x6 == true))) (.fptr [.int .i64 x8.From,.int .i64 x8.To]))],[]⟩,
   ⟨[20,27],[],[(28,.cnd (((x4 == false) && (x6 == true))) (.fptr [.int .i64 x8.To]))],[]⟩,
   ⟨[20,28],[],[(29,.cnd (((x4 == false) && (x6 == true))) (.int .i64 x8.To))],[]⟩,
   ⟨[1,20],[],[(30,.cnd (((x4 == false) && (x6 == true))) (.ref 0 2))],[]⟩,
   ⟨[20,30],[0],[(31,.cnd (((x4 == false) && (x6 == true))) (.int .i64 a0.Next))],[]⟩,
   ⟨[20,29,31],[],[(32,.cnd (((x4 == false) && (x6 == true))) (.bool x9))],[]⟩,
   ⟨[11,20,32],[],[(33,.cnd (x4 == false) (.bool x10))],[]⟩,
   ⟨[11,33],[],[(34,.bool x11)],[]⟩,
   ⟨[34],[],[(2,.bool x11)],[]⟩] rfl ?_ (by kernel_rfl) ?_
  ·refine .cons (lop rfl rfl fun S hA=>(aI rfl rfl (lb rfl) Tryz.underlying37 rfl ti35 (by decide) (svaR hA rfl rfl) (off':=4) rfl)) ?_
   refine .cons (lop rfl rfl fun S hA=>(aF (d:=.slice _ _) rfl rfl (lb rfl) Tryz.underlying35 ag35 ti35 (by decide) (svaR hA rfl rfl) (agi hA rfl rfl) (nle rfl) rfl)) ?_
   refine .cons (lop rfl rfl fun S hA=>(dL aK (l:=a0.Lost) rfl rfl (lb rfl) Tryz.underlying35 (svaL hA rfl rfl))) ?_
   refine .cons (lop rfl rfl fun S hA=>(aP rfl rfl (lb rfl) (svaI hA rfl rfl) (sv (d:=.int _ 0) rfl) rfl hx4)) ?_
   refine .cons (lop rfl rfl fun S hA=>(aM rfl rfl (lb rfl) (svaB hA rfl rfl))) ?_
   refine .cons (lopg rfl rfl rfl rfl (by decide) (fun S hA=>grd1 hA rfl rfl) (fun S hA hb=>(aI rfl rfl (lb rfl) Tryz.underlying37 rfl ti35 (by decide) (svaR hA rfl rfl) (off':=4) rfl))) ?_
   refine .cons (lopg rfl rfl rfl rfl (by decide) (fun S hA=>grd1 hA rfl rfl) (fun S hA hb=>(aF (d:=.slice _ _) rfl rfl (lb rfl) Tryz.underlying35 ag35 ti35 (by decide) (svc (d:=.ref _ _) (agr hA rfl rfl) hb) (agi hA rfl rfl) (nle rfl) rfl))) ?_
   refine .cons (lopg rfl rfl rfl rfl (by decide) (fun S hA=>grd1 hA rfl rfl) (fun S hA hb=>(dY aK (cs:=q27) rfl rfl (lb rfl) Tryz.underlying35 fF (svc (d:=.slice _ _) (agr hA rfl rfl) hb) (sv (d:=.int _ 0) rfl) (gd_t hx5 hb) rfl rfl))) ?_
   refine .cons (lopg rfl rfl rfl rfl (by decide) (fun S hA=>grd1 hA rfl rfl) (fun S hA hb=>(bG (cs':=[.int _ _]) rfl rfl (lb rfl) Tryz.underlying219 rfl ti3 (by decide) (svc (d:=.fptr q27) (agr hA rfl rfl) hb) rfl))) ?_
   refine .cons (lopg rfl rfl rfl rfl (by decide) (fun S hA=>grd1 hA rfl rfl) (fun S hA hb=>(dA rfl rfl (lb rfl) Tryz.underlying3 ag3 ti3 (by decide) (svc (d:=.fptr [.int _ _]) (agr hA rfl rfl) hb) (nle rfl)))) ?_
   refine .cons (lopg rfl rfl rfl rfl (by decide) (fun S hA=>grd1 hA rfl rfl) (fun S hA hb=>(aI rfl rfl (lb rfl) Tryz.underlying37 rfl ti3 (by decide) (svaR hA rfl rfl) (off':=0) rfl))) ?_
   refine .cons (lopg rfl rfl rfl rfl (by decide) (fun S hA=>grd1 hA rfl rfl) (fun S hA hb=>(aF (d:=.int _ _) rfl rfl (lb rfl) Tryz.underlying3 ag3 ti3 (by decide) (svc (d:=.ref _ _) (agr hA rfl rfl) hb) (agi hA rfl rfl) (nle rfl) rfl))) ?_
   refine .cons (lopg rfl rfl rfl rfl (by decide) (fun S hA=>grd1 hA rfl rfl) (fun S hA hb=>(aP rfl rfl (lb rfl) (svc (d:=.int _ _) (agr hA rfl rfl) hb) (svc (d:=.int _ _) (agr hA rfl rfl) hb) rfl hx6))) ?_
   refine .cons (lopg rfl rfl rfl rfl (by decide) (fun S hA=>grd1 hA rfl rfl) (fun S hA hb=>(aM rfl rfl (lb rfl) (svc (d:=.bool _) (agr hA rfl rfl) hb)))) ?_
   refine .cons (lopg rfl rfl rfl rfl (by decide) (fun S hA=>grd2 hA rfl rfl) (fun S hA hb=>(aI rfl rfl (lb rfl) Tryz.underlying37 rfl ti35 (by decide) (svaR hA rfl rfl) (off':=4) rfl))) ?_
   refine .cons (lopg rfl rfl rfl rfl (by decide) (fun S hA=>grd2 hA rfl rfl) (fun S hA hb=>(aF (d:=.slice _ _) rfl rfl (lb rfl) Tryz.underlying35 ag35 ti35 (by decide) (svc (d:=.ref _ _) (agr hA rfl rfl) hb) (agi hA rfl rfl) (nle rfl) rfl))) ?_
   refine .cons (lopg rfl rfl rfl rfl (by decide) (fun S hA=>grd2 hA rfl rfl) (fun S hA hb=>(aI rfl rfl (lb rfl) Tryz.underlying37 rfl ti35 (by decide) (svaR hA rfl rfl) (off':=4) rfl))) ?_
   refine .cons (lopg rfl rfl rfl rfl (by decide) (fun S hA=>grd2 hA rfl rfl) (fun S hA hb=>(aF (d:=.slice _ _) rfl rfl (lb rfl) Tryz.underlying35 ag35 ti35 (by decide) (svc (d:=.ref _ _) (agr hA rfl rfl) hb) (agi hA rfl rfl) (nle rfl) rfl))) ?_
   refine .cons (lopg rfl rfl rfl rfl (by decide) (fun S hA=>grd2 hA rfl rfl) (fun S hA hb=>(dL aK (l:=a0.Lost) rfl rfl (lb rfl) Tryz.underlying35 (svc (d:=.slice _ _) (agr hA rfl rfl) hb)))) ?_
   refine .cons (lopg rfl rfl rfl rfl (by decide) (fun S hA=>grd2 hA rfl rfl) (fun S hA hb=>(bM rfl rfl (lb rfl) (svc (d:=.int _ _) (agr hA rfl rfl) hb) (sv (d:=.int _ 1) rfl) rfl hx7))) ?_
   refine .cons (lopg rfl rfl rfl rfl (by decide) (fun S hA=>grd2 hA rfl rfl) (fun S hA hb=>(dY aK (cs:=q27) rfl rfl (lb rfl) Tryz.underlying35 fF (svc (d:=.slice _ _) (agr hA rfl rfl) hb) (svc (d:=.int _ _) (agr hA rfl rfl) hb) (gd_t hx8 hb) rfl rfl))) ?_
   refine .cons (lopg rfl rfl rfl rfl (by decide) (fun S hA=>grd2 hA rfl rfl) (fun S hA hb=>(bG (cs':=[.int _ _]) rfl rfl (lb rfl) Tryz.underlying219 rfl ti3 (by decide) (svc (d:=.fptr q27) (agr hA rfl rfl) hb) rfl))) ?_
   refine .cons (lopg rfl rfl rfl rfl (by decide) (fun S hA=>grd2 hA rfl rfl) (fun S hA hb=>(dA rfl rfl (lb rfl) Tryz.underlying3 ag3 ti3 (by decide) (svc (d:=.fptr [.int _ _]) (agr hA rfl rfl) hb) (nle rfl)))) ?_
   refine .cons (lopg rfl rfl rfl rfl (by decide) (fun S hA=>grd2 hA rfl rfl) (fun S hA hb=>(aI rfl rfl (lb rfl) Tryz.underlying37 rfl ti3 (by decide) (svaR hA rfl rfl) (off':=2) rfl))) ?_
   refine .cons (lopg rfl rfl rfl rfl (by decide) (fun S hA=>grd2 hA rfl rfl) (fun S hA hb=>(aF (d:=.int _ _) rfl rfl (lb rfl) Tryz.underlying3 ag3 ti3 (by decide) (svc (d:=.ref _ _) (agr hA rfl rfl) hb) (agi hA rfl rfl) (nle rfl) rfl))) ?_
   refine .cons (lopg rfl rfl rfl rfl (by decide) (fun S hA=>grd2 hA rfl rfl) (fun S hA hb=>(aP rfl rfl (lb rfl) (svc (d:=.int _ _) (agr hA rfl rfl) hb) (svc (d:=.int _ _) (agr hA rfl rfl) hb) rfl hx9))) ?_
   refine .cons (lopg rfl rfl rfl rfl (by decide) (fun S hA=>grd1 hA rfl rfl) (fun S hA hb=>(jH rfl rfl (lb rfl) hb (svc (d:=.bool _) (agr hA rfl rfl) hb) (agr hA rfl rfl) rfl hx10))) ?_
   refine .cons (lop rfl rfl fun S hA=>(cQ rfl rfl (lb rfl) (svaB hA rfl rfl) rfl (agr hA rfl rfl) hx11)) ?_
   refine .cons (lop rfl rfl fun S hA=>(aH rfl rfl (lb rfl) (svaB hA rfl rfl))) ?_
   exact .nil
  refine aT ?_
  obtain rfl:=Option.some.inj h
  refine ⟨.inr rfl,(.cons (sv rfl) .nil)⟩

theorem sT (a0 : Int) (r : Bool) (h : lO a0 = some r) : cF Tryz.prog 133 [.int .i64 a0] (.bool r):=by
 refine bA (rs:=[.bool r]) Tryz.func133 rfl Tryz.ntmps133 (nle rfl) rfl fun O hO=>?_
 show IWP _ _ _ _ ⟨[(0,.int .i64 a0)],[]⟩ _
 unfold lO at h
 refine aE (aA rfl (aH rfl rfl (lb rfl) (sv (d:=.bool false) rfl)) <|aD ?_)
 obtain ⟨x1,hx1,h⟩:=aQ h
 obtain ⟨x2,hx2,h⟩:=aQ h
 obtain ⟨x3,hx3,h⟩:=aQ h
 refine aE (aA rfl (mvI rfl rfl rfl rfl) <|aA rfl (aP rfl rfl (lb rfl) (svI rfl) (sv (d:=.int _ 0) rfl) rfl hx1) <|aA rfl (mvB rfl rfl rfl rfl) <|aC rfl rfl (.one rfl) rfl (by decide) (fun hb=>(mvI rfl rfl rfl rfl)) <|aC rfl rfl (.one rfl) rfl (by decide) (fun hb=>(aP rfl rfl (lb rfl) (svcI rfl hb) (sv (d:=.int _ 4) rfl) rfl hx2)) <|aA rfl (bT rfl rfl (lb rfl) (svB rfl) rfl rfl hx3) <|aA rfl (asB rfl rfl rfl rfl) <|aD ?_)
 refine aT ?_
 obtain rfl:=Option.some.inj h
 refine ⟨.inr rfl,(.cons (sv rfl) .nil)⟩

theorem iZ (a0 : aJ) (r : aG) (h : eW a0 = some r) : cF Tryz.prog 135 [.agg (v7 a0)] (.agg [.int .i64 r.From,.int .i64 r.To]):=by
 refine bA (rs:=[.agg [.int .i64 r.From,.int .i64 r.To]]) Tryz.func135 rfl Tryz.ntmps135 (nle rfl) rfl fun O hO=>?_
 show IWP _ _ _ _ ⟨[(0,.agg (v7 a0))],[]⟩ _
 unfold eW at h
 refine aE (aA rfl (bR (cs:=q20) 0 rfl rfl (lb rfl) rfl (svA q20 rfl) rfl rfl) <|aA rfl (bD (cs:=q27) (cs':=[.int .i64 0,.int .i64 0]) 1 rfl rfl (lb rfl) rfl fF rfl rfl (.all _)) <|aD ?_)
 refine aE (aA rfl (faR 0 rfl rfl rfl Tryz.underlying105 rfl ti3 (lb rfl) rfl rfl) <|aA rfl (aF (d:=.int _ _) rfl rfl (lb rfl) Tryz.underlying3 ag3 ti3 (by decide) (svR rfl) rfl (nle rfl) rfl) <|aA rfl (faR 1 rfl rfl rfl Tryz.underlying105 rfl ti3 (lb rfl) rfl rfl) <|aA rfl (aF (d:=.int _ _) rfl rfl (lb rfl) Tryz.underlying3 ag3 ti3 (by decide) (svR rfl) rfl (nle rfl) rfl) <|aA rfl (bS (cs:=q27) rfl rfl (lb rfl) Tryz.underlying219 fF aBT rfl (.cons (svI rfl) (.cons (svI rfl) .nil)) rfl) <|aA rfl (stA q27 q27 fF rfl rfl rfl rfl rfl rfl rfl rfl (nle rfl) rfl) <|aD ?_)
 refine aT ?_
 obtain rfl:=Option.some.inj h
 refine ⟨.inr rfl,(.cons (rva nK rfl rfl (nle rfl) rfl) .nil)⟩

theorem fP (a0 : (List aG)) (r : (List aG)) (h : cZ a0 = some r) : FnH Tryz.prog 169 [.slice false (a0.map aK.d)] [] (.osl 0 aK.sz r.length) [(0,.blk 219 (D.flat (r.map aK.d)))]:=by
 refine fE (rs:=[.osl 0 aK.sz r.length]) Tryz.func169 rfl Tryz.ntmps169 (nle rfl) fun O hO=>?_
 show IWP _ _ _ _ ⟨[(0,.slice false (a0.map aK.d))],[]⟩ _
 unfold cZ at h
 refine aE (aA rfl (aH rfl rfl (lb rfl) (sv (d:=.nils) rfl)) <|aD ?_)
 refine bC ?_
 refine aE (aA rfl (mvL rfl rfl rfl rfl) <|tH rfl rfl rfl (by decide) Tryz.underlying35 (svL rfl) rfl <| fun bn1 hbn1 =>
  aD ?_)
 refine aV (b:=_) rfl (fun hc2=>?_) (fun hc2=>?_)
 ·
  replace h:=yI h (mapE (hbn1 hc2))
  refine aE (aA rfl (aH rfl rfl (lb rfl) (sv (d:=.nils) rfl)) <|aD ?_)
  refine aT ?_
  refine bI ?_
  obtain rfl:=Option.some.inj h
  refine ⟨.inr rfl,(fun i=>if i = 0 then 50 else i),⟨.nil,(.cons (.nilb rfl) .nil),cK [50] rfl (by decide),(fun i hi=>by first | rfl | (show (if _ then _ else _) = _; (repeat' split) <;> omega))⟩,(.cons (svno rfl) .nil),rfl⟩
 ·
  replace h:=yJ h
  refine aY ?_
  refine aS ?_
  obtain ⟨x3,hx3,h⟩:=bF h
  refine aE (aA rfl (pK aK.toEnc0 ([] : (List aG)) 0 rfl rfl (lb rfl) Tryz.underlying35 fF rfl .nil rfl rfl (by decide)) <|aA rfl (mvL rfl rfl rfl rfl) <|aA rfl (mE aK.toEnc0 1 rfl rfl (lb rfl) Tryz.underlying35 fF rfl rfl rfl rfl rfl (xC aK (ys:=a0) (svL rfl)) hx3) <|aA rfl (aH rfl rfl (lb rfl) (sv (d:=.osl _ _ _) rfl)) <|aD ?_)
  refine aT ?_
  obtain rfl:=Option.some.inj h
  refine ⟨.inr rfl,(fun i=>if i = 0 then 1 else i),⟨.nil,(.cons (EntW.lst rfl) .nil),cK [1] rfl (by decide),(fun i hi=>by first | rfl | (show (if _ then _ else _) = _; (repeat' split) <;> omega))⟩,(.cons (sv rfl) .nil),rfl⟩

theorem pH (a0 : (List aG)) (a1 : aG) (r : (List aG)) (h : lV a0 a1 = some r) : cF Tryz.prog 134 [.slice false (a0.map aK.d), .agg [.int .i64 a1.From, .int .i64 a1.To]] (.slice false (r.map aK.d)) := by
 refine iC (rs:=[.slice false (r.map aK.d)]) Tryz.func134 rfl Tryz.ntmps134 (nle rfl) rfl fun O hO=>?_
 show IWP _ _ _ _ ⟨[(0,.slice false (a0.map aK.d)),(1,.agg [.int .i64 a1.From,.int .i64 a1.To])],[]⟩ _
 unfold lV at h
 refine aE (aA rfl (bR (cs:=q27) 0 rfl rfl (lb rfl) rfl (svA q27 rfl) rfl rfl) <|aA rfl (aH rfl rfl (lb rfl) (sv (d:=.nils) rfl)) <|aD ?_)
 refine bC ?_
 obtain ⟨x1,hx1,h⟩:=bF h
 obtain ⟨x2,hx2,h⟩:=bF h
 obtain ⟨x3,hx3,h⟩:=aQ h
 obtain ⟨x4,hx4,h⟩:=bF h
 obtain ⟨x5,hx5,h⟩:=aQ h
 obtain ⟨x6,hx6,h⟩:=aQ h
 refine aE (aA rfl (lra q27 nK rfl rfl rfl rfl rfl (nle rfl) rfl) <|aA rfl (aU (r:=.bool _) rfl rfl (lb rfl) aBv (.cons (svA q27 rfl) .nil) rfl (jK _ _ hx1)) <|aA rfl (dB rfl rfl (lb rfl) (svB rfl)) <|aA rfl (mvB rfl rfl rfl rfl) <|aC rfl rfl (.one rfl) rfl (by decide) (fun hb=>(lra q27 nK rfl rfl rfl rfl rfl (nle rfl) rfl)) <|aC rfl rfl (.one rfl) rfl (by decide) (fun hb=>(aU (r:=.bool _) rfl rfl (lb rfl) zX (.cons (svc (d:=.agg [.int .i64 a1.From,.int .i64 a1.To]) rfl hb) .nil) rfl (fX _ _ (gd_t hx2 hb)))) <|aA rfl (cQ rfl rfl (lb rfl) (svB rfl) rfl rfl hx3) <|aA rfl (mvB rfl rfl rfl rfl) <|aC rfl rfl (.one rfl) rfl (by decide) (fun hb=>(mvL rfl rfl rfl rfl)) <|aC rfl rfl (.one rfl) rfl (by decide) (fun hb=>(aU (r:=.int _ _) rfl rfl (lb rfl) aBu (.cons (svcL rfl hb) .nil) rfl (lE _ _ (gd_t hx4 hb)))) <|aC rfl rfl (.one rfl) rfl (by decide) (fun hb=>(aP rfl rfl (lb rfl) (svcI rfl hb) (sv (d:=.int _ 0) rfl) rfl hx5)) <|aA rfl (cQ rfl rfl (lb rfl) (svB rfl) rfl rfl hx6) <|aD ?_)
 refine aV (b:=_) rfl (fun hc7=>?_) (fun hc7=>?_)
 ·
  replace h:=cD h hc7
  obtain ⟨x8,hx8,h⟩:=bF h
  refine aE (aA rfl (mvL rfl rfl rfl rfl) <|aA rfl (dO (r':=.osl 1 aK.sz x8.length) (H1':=[(1,.blk 219 (D.flat (x8.map aK.d)))]) 1 [] rfl rfl (lb rfl) cl169 (.cons (svL rfl) .nil) rfl rfl ⟨rfl,rfl,by decide,rfl,List.forall_mem_nil _⟩ (fP _ _ hx8) rfl rfl (List.forall_mem_cons.2 ⟨⟨rfl,(fB aK)⟩,List.forall_mem_nil _⟩) (by simp only [List.map_cons,List.map_nil,Ent.ren,eD,eQ]; rfl)) <|aA rfl (aH rfl rfl (lb rfl) (sv (d:=.osl _ _ _) rfl)) <|aD ?_)
  refine aT ?_
  refine bI ?_
  obtain rfl:=Option.some.inj h
  refine ⟨.inr rfl,_,(.cons (sv rfl) .nil),(.cons (FDT aK rfl rfl) .nil)⟩
 ·
  replace h:=cE h hc7
  refine aY ?_
  refine aS ?_
  refine aE (aA rfl (bD (cs:=[.nils]) (cs':=[.nils]) 1 rfl rfl (lb rfl) rfl ti35 rfl rfl (.all _)) <|aD ?_)
  refine bC ?_
  refine aE (aA rfl (mvL rfl rfl rfl rfl) <|aA rfl (lra q27 nK rfl rfl rfl rfl rfl (nle rfl) rfl) <|?_)
  refine vH (S':=⟨[(5,.ref 1 0),(21,.slice false (a0.map aK.d)),(22,.agg [.int .i64 a1.From,.int .i64 a1.To])],[(1,.blk 35 [.nils])]⟩) (fun i=>i) ⟨(.sames rfl rfl),(.cons (.blk rfl rfl rfl) .nil),cK [1] rfl (by decide),fun _ _=>rfl⟩ ?_
  refine aAp 1 2 rfl rfl rfl (by decide) cl173 Tryz.func173 rfl (.cons (svL rfl) (.cons (svA q27 rfl) .nil)) Tryz.ntmps173 (nle rfl) rfl hO fun O1 hO1=>?_
  show IWP _ _ _ _ ⟨[(0,.slice false (a0.map aK.d)),(1,.agg [.int .i64 a1.From,.int .i64 a1.To])],[(2,.kept 1 [.dead,.dead,.dead,.dead,.dead,.ref 1 0,.dead,.dead,.dead,.dead,.dead,.dead,.dead,.dead,.dead,.dead,.dead,.dead,.dead,.dead,.dead,.slice false (a0.map aK.d),.agg [.int .i64 a1.From,.int .i64 a1.To],.dead,.dead,.dead,.dead,.dead,.dead,.dead]),(1,.blk 35 [.nils])]⟩ _
  refine aE (aA rfl (bR (cs:=[.slice _ _]) 3 rfl rfl (lb rfl) rfl (svL rfl) rfl rfl) <|aA rfl (bR (cs:=q27) 4 rfl rfl (lb rfl) rfl (svA q27 rfl) rfl rfl) <|aA rfl (aH rfl rfl (lb rfl) (sv (d:=.nilf) rfl)) <|aD ?_)
  refine aE (aA rfl (jW rfl rfl (lb rfl) (.cons (svR rfl) (.cons (svR rfl) .nil))) <|aA rfl (aH rfl rfl (lb rfl) (sv (d:=.fn 188 q28) rfl)) <|aD ?_)
  refine aT ?_
  refine ⟨.inr rfl,2,_,[.fn 188 [.ref 3 0,.ref 4 0]],(.cons (sv rfl) .nil),rfl,rfl,⟨[(5,.ref 1 0),(23,.fn 188 [.ref 3 0,.ref 4 0])],[(1,.blk 35 [.nils]),(3,.blk 35 [.slice false (a0.map aK.d)]),(4,.blk 219 [.int .i64 a1.From,.int .i64 a1.To])]⟩,(fun i=>i),⟨(.sames rfl rfl),(.cons (.blk rfl rfl rfl) (.cons (.blk rfl rfl rfl) (.cons (.blk rfl rfl rfl) .nil))),cK [1,3,4] rfl (by decide),fun _ _=>rfl⟩,?_⟩
  refine aD ?_
  refine bZ ?_
  refine uY (S':=⟨[(5,.ref 1 0),(23,.fn 188 [.ref 3 0,.ref 4 0])],[(1,.blk 35 [.nils]),(3,.blk 35 [.slice false (a0.map aK.d)]),(4,.blk 219 [.int .i64 a1.From,.int .i64 a1.To])]⟩) (fun i=>i) ⟨(.sames rfl rfl),(.cons (.blk rfl rfl rfl) (.cons (.blk rfl rfl rfl) (.cons (.blk rfl rfl rfl) .nil))),cK [1,3,4] rfl (by decide),fun _ _=>rfl⟩ ?_
  refine aAb 1 5 6 (sv (d:=.fn 188 q28) rfl) cl188 Tryz.func188 rfl rfl Tryz.ntmps188 (nle rfl) rfl rfl hO fun O1 hO1 hlc1=>?_
  show IWP _ _ _ _ ⟨[(0,.yld 5),(1,.ref 3 0),(2,.ref 4 0)],[(6,.kept 1 [.dead,.dead,.dead,.dead,.dead,.ref 1 0,.dead,.dead,.dead,.dead,.dead,.dead,.dead,.dead,.dead,.dead,.dead,.dead,.dead,.dead,.dead,.dead,.dead,.fn 188 [.ref 3 0,.ref 4 0],.dead,.dead,.dead,.dead,.dead,.dead]),(5,.loop 1 [.dead,.dead,.dead,.dead,.dead,.ref 1 0,.dead,.dead,.dead,.dead,.dead,.dead,.dead,.dead,.dead,.dead,.dead,.dead,.dead,.dead,.dead,.dead,.dead,.fn 188 [.ref 3 0,.ref 4 0],.dead,.dead,.dead,.dead,.dead,.dead] .ready none),(1,.blk 35 [.nils]),(3,.blk 35 [.slice false (a0.map aK.d)]),(4,.blk 219 [.int .i64 a1.From,.int .i64 a1.To])]⟩ _
  refine aE (aA rfl (lrL la35 rfl rfl rfl rfl rfl (nle rfl) rfl) <|aA rfl (dL aK (l:=a0) rfl rfl (lb rfl) Tryz.underlying35 (svL rfl)) <|aA rfl (aM rfl rfl (lb rfl) (sv (d:=.int _ 0) rfl)) <|aD ?_)
  refine bZ ?_
  refine dW (α:=Nat × Int × (List aG)) (fun z=>⟨[(0,.yld 5),(2,.ref 4 0),(8,.slice false (a0.map aK.d)),(9,.int .i64 (a0.length : Int)),(10,.int .i64 z.2.1)],[(5,.loop 1 [.dead,.dead,.dead,.dead,.dead,.ref 1 0,.dead,.dead,.dead,.dead,.dead,.dead,.dead,.dead,.dead,.dead,.dead,.dead,.dead,.dead,.dead,.dead,.dead,.fn 188 [.ref 3 0,.ref 4 0],.dead,.dead,.dead,.dead,.dead,.dead] .ready none),(4,.blk 219 [.int .i64 a1.From,.int .i64 a1.To]),(6,.kept 1 [.dead,.dead,.dead,.dead,.dead,.ref 1 0,.dead,.dead,.dead,.dead,.dead,.dead,.dead,.dead,.dead,.dead,.dead,.dead,.dead,.dead,.dead,.dead,.dead,.fn 188 [.ref 3 0,.ref 4 0],.dead,.dead,.dead,.dead,.dead,.dead]),(1,.blk 35 [.osl 28 aK.sz z.2.2.length]),(3,.blk 35 [.slice false (a0.map aK.d)]),(28,.blk 219 (D.flat (z.2.2.map aK.d)))]⟩) (fun z=>gO a0 a1 z.1 z.2.1 z.2.2 = some r) (fun z=>z.1) (fuel,0,([] : (List aG))) (fun i=>if i = 28 then 85 else i) ⟨(.sames rfl rfl),(.cons (.loop rfl rfl rfl) (.cons (.blk rfl rfl rfl) (.cons (.kept rfl rfl rfl) (.cons (.sub rfl (.nilo .nil) rfl) (.cons (.blk rfl rfl rfl) (.cons (.nilb rfl) .nil)))))),cK [5,4,6,1,3,85] rfl (by decide),(fun i hi=>by first | rfl | (show (if _ then _ else _) = _; (repeat' split) <;> omega))⟩ ?_ ?_
  ·exact h
  ·
   rintro ⟨n0,v52,v53⟩ h
   cases n0 with
   | zero=>exact absurd h (by unfold gO; exact nofun)
   | succ n0 =>
    unfold gO at h
    obtain ⟨x97,hx97,h⟩:=aQ h
    refine aE (aA rfl (aP rfl rfl (lb rfl) (svI rfl) (svI rfl) rfl hx97) <|aD ?_)
    refine bC ?_
    refine aV (b:=_) rfl (fun hc98=>?_) (fun hc98=>?_)
    ·
     replace h:=cD h hc98
     refine aY ?_
     refine aS ?_
     refine bC ?_
     refine bZ ?_
     obtain ⟨x99,hx99,h⟩:=bF h
     refine aE (aA rfl (dY aK (cs:=q27) rfl rfl (lb rfl) Tryz.underlying35 fF (svL rfl) (svI rfl) hx99 rfl rfl) <|aA rfl (dE (cs:=q27) rfl rfl (lb rfl) Tryz.underlying219 tY fF (by decide) (sv (d:=.fptr q27) rfl) (nle rfl) rfl) <|aA rfl (bD (cs:=q27) (cs':=[.int .i64 0,.int .i64 0]) 29 rfl rfl (lb rfl) rfl fF rfl rfl (.all _)) <|aA rfl (stA q27 q27 fF rfl rfl rfl rfl rfl rfl rfl rfl (nle rfl) rfl) <|aD ?_)
     obtain ⟨x100,hx100,h⟩:=aQ h
     obtain ⟨x101,hx101,h⟩:=aQ h
     refine aE (aA rfl (faR 0 rfl rfl rfl Tryz.underlying219 rfl ti3 (lb rfl) rfl rfl) <|aA rfl (aF (d:=.int _ _) rfl rfl (lb rfl) Tryz.underlying3 ag3 ti3 (by decide) (svR rfl) rfl (nle rfl) rfl) <|aA rfl (faR 1 rfl rfl rfl Tryz.underlying219 rfl ti3 (lb rfl) rfl rfl) <|aA rfl (aF (d:=.int _ _) rfl rfl (lb rfl) Tryz.underlying3 ag3 ti3 (by decide) (svR rfl) rfl (nle rfl) rfl) <|aA rfl (faR 0 rfl rfl rfl Tryz.underlying219 rfl ti3 (lb rfl) rfl rfl) <|aA rfl (aF (d:=.int _ _) rfl rfl (lb rfl) Tryz.underlying3 ag3 ti3 (by decide) (svR rfl) rfl (nle rfl) rfl) <|aA rfl (jD rfl rfl (lb rfl) (svI rfl) (svI rfl) hx100) <|aA rfl (bS (cs:=q27) rfl rfl (lb rfl) Tryz.underlying219 fF aBT rfl (.cons (svI rfl) (.cons (svI rfl) .nil)) rfl) <|aA rfl (faR 0 rfl rfl rfl Tryz.underlying219 rfl ti3 (lb rfl) rfl rfl) <|aA rfl (aF (d:=.int _ _) rfl rfl (lb rfl) Tryz.underlying3 ag3 ti3 (by decide) (svR rfl) rfl (nle rfl) rfl) <|aA rfl (faR 1 rfl rfl rfl Tryz.underlying219 rfl ti3 (lb rfl) rfl rfl) <|aA rfl (aF (d:=.int _ _) rfl rfl (lb rfl) Tryz.underlying3 ag3 ti3 (by decide) (svR rfl) rfl (nle rfl) rfl) <|aA rfl (kO rfl rfl (lb rfl) (svI rfl) (svI rfl) hx101) <|aA rfl (faR 1 rfl rfl rfl Tryz.underlying219 rfl ti3 (lb rfl) rfl rfl) <|aA rfl (aF (d:=.int _ _) rfl rfl (lb rfl) Tryz.underlying3 ag3 ti3 (by decide) (svR rfl) rfl (nle rfl) rfl) <|aA rfl (bS (cs:=q27) rfl rfl (lb rfl) Tryz.underlying219 fF aBT rfl (.cons (svI rfl) (.cons (svI rfl) .nil)) rfl) <|aA rfl (tD (cs:=q18) rfl rfl (lb rfl) Tryz.underlying257 ti257 fF rfl (.cons (svA q27 rfl) (.cons (svA q27 rfl) .nil)) rfl) <|aA rfl (aM rfl rfl (lb rfl) (sv (d:=.int _ 0) rfl)) <|aD ?_)
     refine bZ ?_
     refine dW (α:=Nat × Int × (List aG)) (fun z=>⟨[(0,.yld 5),(2,.ref 4 0),(8,.slice false (a0.map aK.d)),(9,.int .i64 (a0.length : Int)),(10,.int .i64 v52),(30,.agg (w45 x99.From x100 x101 x99.To)),(31,.int .i64 z.2.1)],[(5,.loop 1 [.dead,.dead,.dead,.dead,.dead,.ref 1 0,.dead,.dead,.dead,.dead,.dead,.dead,.dead,.dead,.dead,.dead,.dead,.dead,.dead,.dead,.dead,.dead,.dead,.fn 188 [.ref 3 0,.ref 4 0],.dead,.dead,.dead,.dead,.dead,.dead] .ready none),(4,.blk 219 [.int .i64 a1.From,.int .i64 a1.To]),(6,.kept 1 [.dead,.dead,.dead,.dead,.dead,.ref 1 0,.dead,.dead,.dead,.dead,.dead,.dead,.dead,.dead,.dead,.dead,.dead,.dead,.dead,.dead,.dead,.dead,.dead,.fn 188 [.ref 3 0,.ref 4 0],.dead,.dead,.dead,.dead,.dead,.dead]),(1,.blk 35 [.osl 28 aK.sz z.2.2.length]),(3,.blk 35 [.slice false (a0.map aK.d)]),(28,.blk 219 (D.flat (z.2.2.map aK.d)))]⟩) (fun z=>fA v52 (gO a0 a1 n0) x99 x100 x101 z.1 z.2.1 z.2.2 = some r) (fun z=>z.1) (fuel,0,v53) (fun i=>i) ⟨(.sames rfl rfl),(.cons (.loop rfl rfl rfl) (.cons (.blk rfl rfl rfl) (.cons (.kept rfl rfl rfl) (.cons (.blk rfl rfl rfl) (.cons (.blk rfl rfl rfl) (.cons (EntW.lst rfl) .nil)))))),cK [5,4,6,1,3,28] rfl (by decide),fun _ _=>rfl⟩ ?_ ?_
     ·exact h
     ·
      rintro ⟨n1,v113,v114⟩ h
      cases n1 with
      | zero=>exact absurd h (by unfold fA; exact nofun)
      | succ n1 =>
       unfold fA at h
       obtain ⟨x127,hx127,h⟩:=aQ h
       refine aE (aA rfl (aP rfl rfl (lb rfl) (svI rfl) (sv (d:=.int _ 2) rfl) rfl hx127) <|aD ?_)
       refine bC ?_
       refine aV (b:=_) rfl (fun hc128=>?_) (fun hc128=>?_)
       ·
        replace h:=cD h hc128
        refine aY ?_
        refine aS ?_
        refine bC ?_
        refine bZ ?_
        obtain ⟨x129,hx129,h⟩:=bF h
        refine aE (aA rfl (wO aK (ds:=q27) rfl rfl (lb rfl) Tryz.underlying257 Tryz.underlying219 tY fF (by decide) (svA q18 rfl) (svI rfl) hx129 rfl ⟨rfl,⟨rfl,trivial⟩⟩ rfl rfl) <|aA rfl (bD (cs:=q27) (cs':=[.int .i64 0,.int .i64 0]) 29 rfl rfl (lb rfl) rfl fF rfl rfl (.all _)) <|aA rfl (stA q27 q27 fF rfl rfl rfl rfl rfl rfl rfl rfl (nle rfl) rfl) <|aD ?_)
        obtain ⟨x130,hx130,h⟩:=bF h
        refine aE (aA rfl (lra q27 nK rfl rfl rfl rfl rfl (nle rfl) rfl) <|aA rfl (aU (r:=.bool _) rfl rfl (lb rfl) zX (.cons (svA q27 rfl) .nil) rfl (fX _ _ hx130)) <|aA rfl (dB rfl rfl (lb rfl) (svB rfl)) <|aA rfl (mvB rfl rfl rfl rfl) <|aC rfl rfl (.one rfl) rfl (by decide) (fun hb=>(aM rfl rfl (lb rfl) (sv (d:=.yld _) rfl))) <|aC rfl rfl (.one rfl) rfl (by decide) (fun hb=>(lra q27 nK rfl rfl rfl rfl rfl (nle rfl) rfl)) <|?_)
        refine kK rfl rfl (.one rfl) rfl (by decide) (fun hc131=>?_) (fun hc131=>?_)
        ·
         replace h:=cD h hc131
         refine kV 38 rfl hc131 ?_
         refine kV 39 rfl hc131 ?_
         refine vH (S':=⟨[(0,.yld 5),(2,.ref 4 0),(8,.slice false (a0.map aK.d)),(9,.int .i64 (a0.length : Int)),(10,.int .i64 v52),(30,.agg (w45 x99.From x100 x101 x99.To)),(31,.int .i64 v113),(37,.bool (!x130)),(38,.yld 5),(39,.agg [.int .i64 x129.From,.int .i64 x129.To])],[(1,.blk 35 [.osl 28 aK.sz v114.length]),(3,.blk 35 [.slice false (a0.map aK.d)]),(4,.blk 219 [.int .i64 a1.From,.int .i64 a1.To]),(5,.loop 1 [.dead,.dead,.dead,.dead,.dead,.ref 1 0,.dead,.dead,.dead,.dead,.dead,.dead,.dead,.dead,.dead,.dead,.dead,.dead,.dead,.dead,.dead,.dead,.dead,.fn 188 [.ref 3 0,.ref 4 0],.dead,.dead,.dead,.dead,.dead,.dead] .ready none),(6,.kept 1 [.dead,.dead,.dead,.dead,.dead,.ref 1 0,.dead,.dead,.dead,.dead,.dead,.dead,.dead,.dead,.dead,.dead,.dead,.dead,.dead,.dead,.dead,.dead,.dead,.fn 188 [.ref 3 0,.ref 4 0],.dead,.dead,.dead,.dead,.dead,.dead]),(28,.blk 219 (D.flat (v114.map aK.d)))]⟩) (fun i=>i) ⟨(.sames rfl rfl),(.cons (.blk rfl rfl rfl) (.cons (.blk rfl rfl rfl) (.cons (.blk rfl rfl rfl) (.cons (.loop rfl rfl rfl) (.cons (.kept rfl rfl rfl) (.cons (EntW.lst rfl) .nil)))))),cK [1,3,4,5,6,28] rfl (by decide),fun _ _=>rfl⟩ ?_
         refine aAo 2 5 30 rfl rfl rfl (by decide) rfl (.cons (svA q27 rfl) .nil) rfl rfl rfl rfl rfl rfl hO1 hlc1 ⟨[(24,.agg [.int .i64 x129.From,.int .i64 x129.To]),(5,.ref 1 0)],[(1,.blk 35 [.osl 28 aK.sz v114.length]),(3,.blk 35 [.slice false (a0.map aK.d)]),(4,.blk 219 [.int .i64 a1.From,.int .i64 a1.To]),(5,.loop 1 [.dead,.dead,.dead,.dead,.dead,.ref 1 0,.dead,.dead,.dead,.dead,.dead,.dead,.dead,.dead,.dead,.dead,.dead,.dead,.dead,.dead,.dead,.dead,.dead,.fn 188 [.ref 3 0,.ref 4 0],.dead,.dead,.dead,.dead,.dead,.dead] .ready none),(6,.kept 1 [.dead,.dead,.dead,.dead,.dead,.ref 1 0,.dead,.dead,.dead,.dead,.dead,.dead,.dead,.dead,.dead,.dead,.dead,.dead,.dead,.dead,.dead,.dead,.dead,.fn 188 [.ref 3 0,.ref 4 0],.dead,.dead,.dead,.dead,.dead,.dead]),(28,.blk 219 (D.flat (v114.map aK.d))),(30,.kept 2 [.yld 5,.dead,.ref 4 0,.dead,.dead,.dead,.dead,.dead,.slice false (a0.map aK.d),.int .i64 (a0.length : Int),.int .i64 v52,.dead,.dead,.dead,.dead,.dead,.dead,.dead,.dead,.dead,.dead,.dead,.dead,.dead,.dead,.dead,.dead,.dead,.dead,.dead,.agg (w45 x99.From x100 x101 x99.To),.int .i64 v113,.dead,.dead,.dead,.dead,.dead,.bool (!x130),.yld 5,.agg [.int .i64 x129.From,.int .i64 x129.To],.dead,.dead,.dead,.dead,.dead])]⟩ (fun i=>i) ⟨(.sames rfl rfl),(.cons (.blk rfl rfl rfl) (.cons (.blk rfl rfl rfl) (.cons (.blk rfl rfl rfl) (.cons (.loop rfl rfl rfl) (.cons (.kept rfl rfl rfl) (.cons (EntW.lst rfl) (.cons (.kept rfl rfl rfl) .nil))))))),cK [1,3,4,5,6,28,30] rfl (by decide),fun _ _=>rfl⟩ fun O2=>?_
         refine bO (aA rfl (bD (cs:=q27) (cs':=[.int .i64 0,.int .i64 0]) 31 rfl rfl (lb rfl) rfl fF rfl rfl (.all _)) <|aA rfl (stA q27 q27 fF rfl rfl rfl rfl rfl rfl rfl rfl (nle rfl) rfl) <|cL ?_)
         refine ⟨rfl,5,_,rfl,⟨[(5,.ref 1 0),(6,.ref 31 0)],[(1,.blk 35 [.osl 28 aK.sz v114.length]),(3,.blk 35 [.slice false (a0.map aK.d)]),(4,.blk 219 [.int .i64 a1.From,.int .i64 a1.To]),(5,.loop 1 [.dead,.dead,.dead,.dead,.dead,.ref 1 0,.dead,.dead,.dead,.dead,.dead,.dead,.dead,.dead,.dead,.dead,.dead,.dead,.dead,.dead,.dead,.dead,.dead,.fn 188 [.ref 3 0,.ref 4 0],.dead,.dead,.dead,.dead,.dead,.dead] .busy none),(6,.kept 1 [.dead,.dead,.dead,.dead,.dead,.ref 1 0,.dead,.dead,.dead,.dead,.dead,.dead,.dead,.dead,.dead,.dead,.dead,.dead,.dead,.dead,.dead,.dead,.dead,.fn 188 [.ref 3 0,.ref 4 0],.dead,.dead,.dead,.dead,.dead,.dead]),(28,.blk 219 (D.flat (v114.map aK.d))),(30,.kept 2 [.yld 5,.dead,.ref 4 0,.dead,.dead,.dead,.dead,.dead,.slice false (a0.map aK.d),.int .i64 (a0.length : Int),.int .i64 v52,.dead,.dead,.dead,.dead,.dead,.dead,.dead,.dead,.dead,.dead,.dead,.dead,.dead,.dead,.dead,.dead,.dead,.dead,.dead,.agg (w45 x99.From x100 x101 x99.To),.int .i64 v113,.dead,.dead,.dead,.dead,.dead,.bool (!x130),.yld 5,.agg [.int .i64 x129.From,.int .i64 x129.To],.dead,.dead,.dead,.dead,.dead]),(31,.blk 219 [.int .i64 x129.From,.int .i64 x129.To])]⟩,(fun i=>i),⟨(.sames rfl rfl),(.cons (.blk rfl rfl rfl) (.cons (.blk rfl rfl rfl) (.cons (.blk rfl rfl rfl) (.cons (.loop rfl rfl rfl) (.cons (.kept rfl rfl rfl) (.cons (EntW.lst rfl) (.cons (.kept rfl rfl rfl) (.cons (.blk rfl rfl rfl) .nil)))))))),cK [1,3,4,5,6,28,30,31] rfl (by decide),fun _ _=>rfl⟩,?_⟩
         refine bZ ?_
         obtain ⟨x132,hx132,h⟩:=bF h
         refine bO (aA rfl (aF (d:=.osl _ _ _) rfl rfl (lb rfl) Tryz.underlying35 ag35 ti35 (by decide) (svR rfl) rfl (nle rfl) rfl) <|aA rfl (lra q27 nK rfl rfl rfl rfl rfl (nle rfl) rfl) <|aA rfl (pK aK.toEnc0 ([(⟨x129.From,x129.To⟩ : aG)] : (List aG)) 32 rfl rfl (lb rfl) Tryz.underlying35 fF rfl (.cons (svA q27 rfl) .nil) rfl rfl (by decide)) <|aA rfl (mE aK.toEnc0 33 rfl rfl (lb rfl) Tryz.underlying35 fF rfl rfl rfl rfl rfl (zF aK.toEnc0 rfl rfl rfl) hx132) <|aA rfl (bN (ds':=[.osl _ _ _]) rfl rfl ti35 (svR rfl) rfl (sv (d:=.osl _ _ _) rfl) rfl rfl rfl (nle rfl) rfl) <|cL ?_)
         refine cO ?_
         refine ⟨5,30,_,_,none,rfl,rfl,rfl,rfl,(by decide),⟨[(0,.yld 5),(2,.ref 4 0),(8,.slice false (a0.map aK.d)),(9,.int .i64 (a0.length : Int)),(10,.int .i64 v52),(30,.agg (w45 x99.From x100 x101 x99.To)),(31,.int .i64 v113),(37,.bool (!x130)),(38,.yld 5),(39,.agg [.int .i64 x129.From,.int .i64 x129.To]),(40,.bool true)],[(1,.blk 35 [.osl 33 aK.sz x132.length]),(3,.blk 35 [.slice false (a0.map aK.d)]),(4,.blk 219 [.int .i64 a1.From,.int .i64 a1.To]),(5,.loop 1 [.dead,.dead,.dead,.dead,.dead,.ref 1 0,.dead,.dead,.dead,.dead,.dead,.dead,.dead,.dead,.dead,.dead,.dead,.dead,.dead,.dead,.dead,.dead,.dead,.fn 188 [.ref 3 0,.ref 4 0],.dead,.dead,.dead,.dead,.dead,.dead] .ready none),(6,.kept 1 [.dead,.dead,.dead,.dead,.dead,.ref 1 0,.dead,.dead,.dead,.dead,.dead,.dead,.dead,.dead,.dead,.dead,.dead,.dead,.dead,.dead,.dead,.dead,.dead,.fn 188 [.ref 3 0,.ref 4 0],.dead,.dead,.dead,.dead,.dead,.dead]),(33,.blk 219 (D.flat (x132.map aK.d)))]⟩,(fun i=>i),⟨(.sames rfl rfl),(.cons (.blk rfl rfl rfl) (.cons (.blk rfl rfl rfl) (.cons (.blk rfl rfl rfl) (.cons (.loop rfl rfl rfl) (.cons (.kept rfl rfl rfl) (.cons (EntW.lst rfl) .nil)))))),cK [1,3,4,5,6,33] rfl (by decide),fun _ _=>rfl⟩,?_⟩
         obtain ⟨x133,hx133,h⟩:=aQ h
         refine aC rfl rfl (.one rfl) rfl (by decide) (fun hb=>(dB rfl rfl (lb rfl) (svB rfl))) <|aA rfl (bT rfl rfl (lb rfl) (svB rfl) rfl rfl hx133) <|aD ?_
         refine aV (b:=_) rfl (fun hc134=>?_) (fun hc134=>?_)
         ·
          replace h:=cD h hc134
          refine aT ?_
          refine cS ?_
          refine bI ?_
          refine bI ?_
          refine cS ?_
          refine cS ?_
          refine bI ?_
          refine bI ?_
          refine cS ?_
          refine ⟨.inr rfl,5,6,_,_,_,_,rfl,(by simp),rfl,rfl,⟨[(5,.ref 1 0)],[(1,.blk 35 [.osl 33 aK.sz x132.length]),(33,.blk 219 (D.flat (x132.map aK.d)))]⟩,(fun i=>i),⟨(.sames rfl rfl),(.cons (.blk rfl rfl rfl) (.cons (EntW.lst rfl) .nil)),cK [1,33] rfl (by decide),fun _ _=>rfl⟩,?_⟩
          refine cO ?_
          refine aS ?_
          refine aE (aA rfl (aF (d:=.osl _ _ _) rfl rfl (lb rfl) Tryz.underlying35 ag35 ti35 (by decide) (svR rfl) rfl (nle rfl) rfl) <|aA rfl (aH rfl rfl (lb rfl) (sv (d:=.osl _ _ _) rfl)) <|aD ?_)
          refine aT ?_
          obtain rfl:=Option.some.inj h
          refine ⟨.inr rfl,_,(.cons (sv rfl) .nil),(.cons (FDT aK rfl rfl) .nil)⟩
         ·
          replace h:=cE h hc134
          refine aY ?_
          refine cO ?_
          refine aS ?_
          obtain ⟨x135,hx135,h⟩:=aQ h
          refine bO (aA rfl (bM rfl rfl (lb rfl) (svI rfl) (sv (d:=.int _ 1) rfl) rfl hx135) <|aA rfl (mvI rfl rfl rfl rfl) <|cL ?_)
          refine aS ⟨(n1,x135,x132),(fun i=>if i = 28 then 33 else i),⟨(.sames rfl rfl),(.cons (.loop rfl rfl rfl) (.cons (.blk rfl rfl rfl) (.cons (.kept rfl rfl rfl) (.cons (.blk rfl rfl rfl) (.cons (.blk rfl rfl rfl) (.cons (EntW.lst rfl) .nil)))))),cK [5,4,6,1,3,33] rfl (by decide),(fun i hi=>by first | rfl | (show (if _ then _ else _) = _; (repeat' split) <;> omega))⟩,?_,?_⟩
          exact h
          exact Nat.lt_succ_self _
        ·
         replace h:=cE h hc131
         obtain ⟨x136,hx136,h⟩:=aQ h
         refine aC rfl rfl (.one rfl) rfl (by decide) (fun hb=>(dB rfl rfl (lb rfl) (svcB rfl hb))) <|aA rfl (bT rfl rfl (lb rfl) (svB rfl) rfl rfl hx136) <|aD ?_
         refine aV (b:=_) rfl (fun hc137=>?_) (fun hc137=>?_)
         ·
          replace h:=cD h hc137
          refine aT ?_
          refine cS ?_
          refine bI ?_
          refine bI ?_
          refine cS ?_
          refine cS ?_
          refine bI ?_
          refine bI ?_
          refine cS ?_
          refine ⟨.inr rfl,5,6,_,_,_,_,rfl,(by simp),rfl,rfl,⟨[(5,.ref 1 0)],[(1,.blk 35 [.osl 28 aK.sz v114.length]),(28,.blk 219 (D.flat (v114.map aK.d)))]⟩,(fun i=>i),⟨(.sames rfl rfl),(.cons (.blk rfl rfl rfl) (.cons (EntW.lst rfl) .nil)),cK [1,28] rfl (by decide),fun _ _=>rfl⟩,?_⟩
          refine cO ?_
          refine aS ?_
          refine aE (aA rfl (aF (d:=.osl _ _ _) rfl rfl (lb rfl) Tryz.underlying35 ag35 ti35 (by decide) (svR rfl) rfl (nle rfl) rfl) <|aA rfl (aH rfl rfl (lb rfl) (sv (d:=.osl _ _ _) rfl)) <|aD ?_)
          refine aT ?_
          obtain rfl:=Option.some.inj h
          refine ⟨.inr rfl,_,(.cons (sv rfl) .nil),(.cons (FDT aK rfl rfl) .nil)⟩
         ·
          replace h:=cE h hc137
          refine aY ?_
          refine cO ?_
          refine aS ?_
          obtain ⟨x138,hx138,h⟩:=aQ h
          refine bO (aA rfl (bM rfl rfl (lb rfl) (svI rfl) (sv (d:=.int _ 1) rfl) rfl hx138) <|aA rfl (mvI rfl rfl rfl rfl) <|cL ?_)
          refine aS ⟨(n1,x138,v114),(fun i=>i),⟨(.sames rfl rfl),(.cons (.loop rfl rfl rfl) (.cons (.blk rfl rfl rfl) (.cons (.kept rfl rfl rfl) (.cons (.blk rfl rfl rfl) (.cons (.blk rfl rfl rfl) (.cons (EntW.lst rfl) .nil)))))),cK [5,4,6,1,3,28] rfl (by decide),fun _ _=>rfl⟩,?_,?_⟩
          exact h
          exact Nat.lt_succ_self _
       ·
        replace h:=cE h hc128
        refine eE ?_
        refine cU ?_
        refine cU ?_
        refine eG ?_
        refine cO ?_
        refine aS ?_
        obtain ⟨x139,hx139,h⟩:=aQ h
        refine bO (aA rfl (bM rfl rfl (lb rfl) (svI rfl) (sv (d:=.int _ 1) rfl) rfl hx139) <|aA rfl (mvI rfl rfl rfl rfl) <|cL ?_)
        refine aS ⟨(n0,x139,v114),(fun i=>i),⟨(.sames rfl rfl),(.cons (.loop rfl rfl rfl) (.cons (.blk rfl rfl rfl) (.cons (.kept rfl rfl rfl) (.cons (.blk rfl rfl rfl) (.cons (.blk rfl rfl rfl) (.cons (EntW.lst rfl) .nil)))))),cK [5,4,6,1,3,28] rfl (by decide),fun _ _=>rfl⟩,?_,?_⟩
        exact h
        exact Nat.lt_succ_self _
    ·
     replace h:=cE h hc98
     refine eE ?_
     refine cU ?_
     refine cU ?_
     refine eG ?_
     refine ⟨.inl rfl,5,6,_,_,_,_,rfl,(by simp),rfl,rfl,⟨[(5,.ref 1 0)],[(1,.blk 35 [.osl 28 aK.sz v53.length]),(28,.blk 219 (D.flat (v53.map aK.d)))]⟩,(fun i=>i),⟨(.sames rfl rfl),(.cons (.blk rfl rfl rfl) (.cons (EntW.lst rfl) .nil)),cK [1,28] rfl (by decide),fun _ _=>rfl⟩,?_⟩
     refine cO ?_
     refine aS ?_
     refine aE (aA rfl (aF (d:=.osl _ _ _) rfl rfl (lb rfl) Tryz.underlying35 ag35 ti35 (by decide) (svR rfl) rfl (nle rfl) rfl) <|aA rfl (aH rfl rfl (lb rfl) (sv (d:=.osl _ _ _) rfl)) <|aD ?_)
     refine aT ?_
     obtain rfl:=Option.some.inj h
     refine ⟨.inr rfl,_,(.cons (sv rfl) .nil),(.cons (FDT aK rfl rfl) .nil)⟩

theorem wJ (a0 : (List aG)) (a1 : aG) (r : (List aG)) (h : mY a0 a1 = some r) : cF Tryz.prog 183 [.slice false (a0.map aK.d),.agg [.int .i64 a1.From,.int .i64 a1.To]] (.slice false (r.map aK.d)):=by
 refine bA (rs:=[.slice false (r.map aK.d)]) Tryz.func183 rfl Tryz.ntmps183 (nle rfl) rfl fun O hO=>?_
 show IWP _ _ _ _ ⟨[(0,.slice false (a0.map aK.d)),(1,.agg [.int .i64 a1.From,.int .i64 a1.To])],[]⟩ _
 unfold mY at h
 refine aE (aA rfl (bR (cs:=q27) 0 rfl rfl (lb rfl) rfl (svA q27 rfl) rfl rfl) <|aA rfl (aH rfl rfl (lb rfl) (sv (d:=.nils) rfl)) <|aD ?_)
 refine bC ?_
 obtain ⟨x1,hx1,h⟩:=bF h
 obtain ⟨x2,hx2,h⟩:=bF h
 obtain ⟨x3,hx3,h⟩:=aQ h
 obtain ⟨x4,hx4,h⟩:=aQ h
 obtain ⟨x5,hx5,h⟩:=bF h
 obtain ⟨x6,hx6,h⟩:=aQ h
 refine aE (aA rfl (lra q27 nK rfl rfl rfl rfl rfl (nle rfl) rfl) <|aA rfl (aU (r:=.bool _) rfl rfl (lb rfl) aBv (.cons (svA q27 rfl) .nil) rfl (jK _ _ hx1)) <|aA rfl (dB rfl rfl (lb rfl) (svB rfl)) <|aA rfl (mvB rfl rfl rfl rfl) <|aC rfl rfl (.one rfl) rfl (by decide) (fun hb=>(mvL rfl rfl rfl rfl)) <|aC rfl rfl (.one rfl) rfl (by decide) (fun hb=>(aU (r:=.int _ _) rfl rfl (lb rfl) aBu (.cons (svcL rfl hb) .nil) rfl (lE _ _ (gd_t hx2 hb)))) <|aC rfl rfl (.one rfl) rfl (by decide) (fun hb=>(aP rfl rfl (lb rfl) (svcI rfl hb) (sv (d:=.int _ 0) rfl) rfl hx3)) <|aA rfl (cQ rfl rfl (lb rfl) (svB rfl) rfl rfl hx4) <|aA rfl (mvB rfl rfl rfl rfl) <|aC rfl rfl (.one rfl) rfl (by decide) (fun hb=>(lra q27 nK rfl rfl rfl rfl rfl (nle rfl) rfl)) <|aC rfl rfl (.one rfl) rfl (by decide) (fun hb=>(aU (r:=.bool _) rfl rfl (lb rfl) zX (.cons (svc (d:=.agg [.int .i64 a1.From,.int .i64 a1.To]) rfl hb) .nil) rfl (fX _ _ (gd_t hx5 hb)))) <|aA rfl (cQ rfl rfl (lb rfl) (svB rfl) rfl rfl hx6) <|aD ?_)
 refine aV (b:=_) rfl (fun hc7=>?_) (fun hc7=>?_)
 ·
  replace h:=cD h hc7
  refine aE (aA rfl (aH rfl rfl (lb rfl) (sv (d:=.nils) rfl)) <|aD ?_)
  refine aT ?_
  refine bI ?_
  obtain rfl:=Option.some.inj h
  refine ⟨.inr rfl,(.cons (aAC rfl rfl) .nil)⟩
 ·
  replace h:=cE h hc7
  refine aY ?_
  refine aS ?_
  refine aE (aA rfl (lra q27 nK rfl rfl rfl rfl rfl (nle rfl) rfl) <|aA rfl (tE aK ([(⟨a1.From,a1.To⟩ : aG)] : (List aG)) 1 rfl rfl (lb rfl) Tryz.underlying35 fF rfl (.cons (svA q27 rfl) .nil) rfl rfl (by decide)) <|aA rfl (aH rfl rfl (lb rfl) (sv (d:=.gsl _ _ _) rfl)) <|aD ?_)
  refine bC ?_
  refine aE (aA rfl (mvL rfl rfl rfl rfl) <|aA rfl (dL aK (l:=a0) rfl rfl (lb rfl) Tryz.underlying35 (svL rfl)) <|aA rfl (aM rfl rfl (lb rfl) (sv (d:=.int _ 0) rfl)) <|aD ?_)
  refine bZ ?_
  refine dW (α:=Nat × (List aG) × Int) (fun z=>⟨[(5,.slice false (z.2.1.map aK.d)),(22,.slice false (a0.map aK.d)),(23,.int .i64 (a0.length : Int)),(24,.int .i64 z.2.2)],[]⟩) (fun z=>gN a0 z.1 z.2.1 z.2.2 = some r) (fun z=>z.1) (fuel,([(⟨a1.From,a1.To⟩ : aG)] : (List aG)),0) (fun i=>i) ⟨(.cons (.coe (svg rfl) rfl) (.sames rfl rfl)),.nil,cK [] rfl (by decide),fun _ _=>rfl⟩ ?_ ?_
  ·exact h
  ·
   rintro ⟨n0,v13,v14⟩ h
   cases n0 with
   | zero=>exact absurd h (by unfold gN; exact nofun)
   | succ n0 =>
    unfold gN at h
    obtain ⟨x20,hx20,h⟩:=aQ h
    refine aE (aA rfl (aP rfl rfl (lb rfl) (svI rfl) (svI rfl) rfl hx20) <|aD ?_)
    refine bC ?_
    refine aV (b:=_) rfl (fun hc21=>?_) (fun hc21=>?_)
    ·
     replace h:=cD h hc21
     refine aY ?_
     refine aS ?_
     refine bC ?_
     refine bZ ?_
     obtain ⟨x22,hx22,h⟩:=bF h
     refine aE (aA rfl (dY aK (cs:=q27) rfl rfl (lb rfl) Tryz.underlying35 fF (svL rfl) (svI rfl) hx22 rfl rfl) <|aA rfl (dE (cs:=q27) rfl rfl (lb rfl) Tryz.underlying219 tY fF (by decide) (sv (d:=.fptr q27) rfl) (nle rfl) rfl) <|aA rfl (bD (cs:=q27) (cs':=[.int .i64 0,.int .i64 0]) 0 rfl rfl (lb rfl) rfl fF rfl rfl (.all _)) <|aA rfl (stA q27 q27 fF rfl rfl rfl rfl rfl rfl rfl rfl (nle rfl) rfl) <|aD ?_)
     obtain ⟨x23,hx23,h⟩:=bF h
     refine bO (aA rfl (mvL rfl rfl rfl rfl) <|aA rfl (lra q27 nK rfl rfl rfl rfl rfl (nle rfl) rfl) <|aA rfl (aU (r:=.slice _ _) rfl rfl (lb rfl) cl134 (.cons (svL rfl) (.cons (svA q27 rfl) .nil)) rfl (pH _ _ _ hx23)) <|aA rfl (aH rfl rfl (lb rfl) (svL rfl)) <|cL ?_)
     refine cO ?_
     refine aS ?_
     obtain ⟨x24,hx24,h⟩:=aQ h
     refine bO (aA rfl (bM rfl rfl (lb rfl) (svI rfl) (sv (d:=.int _ 1) rfl) rfl hx24) <|aA rfl (mvI rfl rfl rfl rfl) <|cL ?_)
     refine aS ⟨(n0,x23,x24),(fun i=>i),⟨(.sames rfl rfl),.nil,cK [] rfl (by decide),fun _ _=>rfl⟩,?_,?_⟩
     exact h
     exact Nat.lt_succ_self _
    ·
     replace h:=cE h hc21
     refine eE ?_
     refine cU ?_
     refine cU ?_
     refine eG ?_
     refine aS ?_
     refine aE (aA rfl (mvL rfl rfl rfl rfl) <|aA rfl (aH rfl rfl (lb rfl) (svL rfl)) <|aD ?_)
     refine aT ?_
     obtain rfl:=Option.some.inj h
     refine ⟨.inr rfl,(.cons (sv rfl) .nil)⟩

theorem jO (a0 : (List aG)) (a1 : (List aG)) (r : Bool) (h : eB a0 a1 = some r) : cF Tryz.prog 167 [.slice false (a0.map aK.d),.slice false (a1.map aK.d)] (.bool r):=by
 refine bA (rs:=[.bool r]) Tryz.func167 rfl Tryz.ntmps167 (nle rfl) rfl fun O hO=>?_
 show IWP _ _ _ _ ⟨[(0,.slice false (a0.map aK.d)),(1,.slice false (a1.map aK.d))],[]⟩ _
 unfold eB at h
 refine aE (aA rfl (aH rfl rfl (lb rfl) (sv (d:=.bool false) rfl)) <|aD ?_)
 refine bC ?_
 obtain ⟨x1,hx1,h⟩:=aQ h
 refine aE (aA rfl (mvL rfl rfl rfl rfl) <|aA rfl (dL aK (l:=a0) rfl rfl (lb rfl) Tryz.underlying35 (svL rfl)) <|aA rfl (mvL rfl rfl rfl rfl) <|aA rfl (dL aK (l:=a1) rfl rfl (lb rfl) Tryz.underlying35 (svL rfl)) <|aA rfl (aP rfl rfl (lb rfl) (svI rfl) (svI rfl) rfl hx1) <|aD ?_)
 refine aV (b:=_) rfl (fun hc2=>?_) (fun hc2=>?_)
 ·
  replace h:=cD h hc2
  refine aE (aA rfl (aH rfl rfl (lb rfl) (sv (d:=.bool false) rfl)) <|aD ?_)
  refine aT ?_
  refine bI ?_
  obtain rfl:=Option.some.inj h
  refine ⟨.inr rfl,(.cons (sv rfl) .nil)⟩
 ·
  replace h:=cE h hc2
  refine aY ?_
  refine aS ?_
  refine bC ?_
  refine aE (aA rfl (mvL rfl rfl rfl rfl) <|aA rfl (dL aK (l:=a0) rfl rfl (lb rfl) Tryz.underlying35 (svL rfl)) <|aA rfl (aM rfl rfl (lb rfl) (sv (d:=.int _ 0) rfl)) <|aD ?_)
  refine bZ ?_
  refine dW (α:=Nat × Int) (fun z=>⟨[(0,.slice false (a0.map aK.d)),(1,.slice false (a1.map aK.d)),(12,.int .i64 (a0.length : Int)),(13,.int .i64 z.2)],[]⟩) (fun z=>cJ a0 a1 z.1 z.2 = some r) (fun z=>z.1) (fuel,0) (fun i=>i) ⟨(.sames rfl rfl),.nil,cK [] rfl (by decide),fun _ _=>rfl⟩ ?_ ?_
  ·exact h
  ·
   rintro ⟨n0,v10⟩ h
   cases n0 with
   | zero=>exact absurd h (by unfold cJ; exact nofun)
   | succ n0 =>
    unfold cJ at h
    obtain ⟨x18,hx18,h⟩:=aQ h
    refine aE (aA rfl (aP rfl rfl (lb rfl) (svI rfl) (svI rfl) rfl hx18) <|aD ?_)
    refine bC ?_
    refine aV (b:=_) rfl (fun hc19=>?_) (fun hc19=>?_)
    ·
     replace h:=cD h hc19
     refine aY ?_
     refine aS ?_
     refine bC ?_
     refine bZ ?_
     refine aE (aA rfl (mvI rfl rfl rfl rfl) <|aA rfl (asI rfl rfl rfl rfl) <|aD ?_)
     obtain ⟨x20,hx20,h⟩:=bF h
     obtain ⟨x21,hx21,h⟩:=bF h
     obtain ⟨x22,hx22,h⟩:=aQ h
     refine dD rfl [⟨[0],[],[(16,.slice false (a0.map aK.d))],[]⟩,
      ⟨[5],[],[(17,.int .i64 v10)],[]⟩,
      ⟨[16,17],[],[(18,.fptr [.int .i64 x20.From,.int .i64 x20.To])],[]⟩,
      ⟨[18],[],[(19,.agg [.int .i64 x20.From,.int .i64 x20.To])],[]⟩,
      ⟨[1],[],[(20,.slice false (a1.map aK.d))],[]⟩,
      ⟨[5],[],[(21,.int .i64 v10)],[]⟩,
      ⟨[20,21],[],[(22,.fptr [.int .i64 x21.From,.int .i64 x21.To])],[]⟩,
      ⟨[22],[],[(23,.agg [.int .i64 x21.From,.int .i64 x21.To])],[]⟩,
      ⟨[19,23],[],[(24,.bool (!x22))],[]⟩] rfl ?_ (by kernel_rfl) ?_
     ·refine .cons (lop rfl rfl fun S hA=>(aM rfl rfl (lb rfl) (svaL hA rfl rfl))) ?_
      refine .cons (lop rfl rfl fun S hA=>(aM rfl rfl (lb rfl) (svaI hA rfl rfl))) ?_
      refine .cons (lop rfl rfl fun S hA=>(dY aK (cs:=q27) rfl rfl (lb rfl) Tryz.underlying35 fF (svaL hA rfl rfl) (svaI hA rfl rfl) hx20 rfl rfl)) ?_
      refine .cons (lop rfl rfl fun S hA=>(dE (cs:=q27) rfl rfl (lb rfl) Tryz.underlying219 tY fF (by decide) (sv (d:=.fptr q27) (agr hA rfl rfl)) (nle rfl) rfl)) ?_
      refine .cons (lop rfl rfl fun S hA=>(aM rfl rfl (lb rfl) (svaL hA rfl rfl))) ?_
      refine .cons (lop rfl rfl fun S hA=>(aM rfl rfl (lb rfl) (svaI hA rfl rfl))) ?_
      refine .cons (lop rfl rfl fun S hA=>(dY aK (cs:=q27) rfl rfl (lb rfl) Tryz.underlying35 fF (svaL hA rfl rfl) (svaI hA rfl rfl) hx21 rfl rfl)) ?_
      refine .cons (lop rfl rfl fun S hA=>(dE (cs:=q27) rfl rfl (lb rfl) Tryz.underlying219 tY fF (by decide) (sv (d:=.fptr q27) (agr hA rfl rfl)) (nle rfl) rfl)) ?_
      refine .cons (lop rfl rfl fun S hA=>(xZ rfl rfl (lb rfl) Tryz.underlying219 st219.1 st219.2 (svaA q27 hA rfl rfl) (svaA q27 hA rfl rfl) (congrArg some hx22))) ?_
      exact .nil
     refine aV (b:=_) rfl (fun hc23=>?_) (fun hc23=>?_)
     ·
      replace h:=cD h hc23
      refine aE (aA rfl (aH rfl rfl (lb rfl) (sv (d:=.bool false) rfl)) <|aD ?_)
      refine aT ?_
      refine cS ?_
      refine bI ?_
      refine bI ?_
      refine cS ?_
      refine bI ?_
      obtain rfl:=Option.some.inj h
      refine ⟨.inr rfl,(.cons (sv rfl) .nil)⟩
     ·
      replace h:=cE h hc23
      refine aY ?_
      refine cO ?_
      refine aS ?_
      obtain ⟨x24,hx24,h⟩:=aQ h
      refine bO (aA rfl (bM rfl rfl (lb rfl) (svI rfl) (sv (d:=.int _ 1) rfl) rfl hx24) <|aA rfl (mvI rfl rfl rfl rfl) <|cL ?_)
      refine aS ⟨(n0,x24),(fun i=>i),⟨(.sames rfl rfl),.nil,cK [] rfl (by decide),fun _ _=>rfl⟩,?_,?_⟩
      exact h
      exact Nat.lt_succ_self _
    ·
     replace h:=cE h hc19
     refine eE ?_
     refine cU ?_
     refine cU ?_
     refine eG ?_
     refine aS ?_
     refine aE (aA rfl (aH rfl rfl (lb rfl) (sv (d:=.bool true) rfl)) <|aD ?_)
     refine aT ?_
     obtain rfl:=Option.some.inj h
     refine ⟨.inr rfl,(.cons (sv rfl) .nil)⟩

theorem rI (a0 : (List aG)) (a1 : (List aG)) (r : Bool) (h : lJ a0 a1 = some r) : cF Tryz.prog 127 [.slice false (a0.map aK.d),.slice false (a1.map aK.d)] (.bool r):=by
 refine bA (rs:=[.bool r]) Tryz.func127 rfl Tryz.ntmps127 (nle rfl) rfl fun O hO=>?_
 show IWP _ _ _ _ ⟨[(0,.slice false (a0.map aK.d)),(1,.slice false (a1.map aK.d))],[]⟩ _
 unfold lJ at h
 refine aE (aA rfl (aH rfl rfl (lb rfl) (sv (d:=.bool false) rfl)) <|aD ?_)
 obtain ⟨x1,hx1,h⟩:=bF h
 refine aE (aA rfl (mvL rfl rfl rfl rfl) <|aA rfl (mvL rfl rfl rfl rfl) <|aA rfl (aU (r:=.bool _) rfl rfl (lb rfl) cl167 (.cons (svL rfl) (.cons (svL rfl) .nil)) rfl (jO _ _ _ hx1)) <|aA rfl (asB rfl rfl rfl rfl) <|aD ?_)
 refine aT ?_
 obtain rfl:=Option.some.inj h
 refine ⟨.inr rfl,(.cons (sv rfl) .nil)⟩

theorem qW (a0 : aW) (a1 : aJ) (a2 : Int) (r : Bool) (h : iR a0 a1 a2 = some r) : cF Tryz.prog 161 [.agg (v2 a0),.agg (v7 a1),.int .i64 a2] (.bool r):=by
 refine bA (rs:=[.bool r]) Tryz.func161 rfl Tryz.ntmps161 (nle rfl) rfl fun O hO=>?_
 show IWP _ _ _ _ ⟨[(0,.agg (v2 a0)),(1,.agg (v7 a1)),(2,.int .i64 a2)],[]⟩ _
 unfold iR at h
 refine aE (aA rfl (bR (cs:=q15) 0 rfl rfl (lb rfl) rfl (svA q15 rfl) rfl rfl) <|aA rfl (bR (cs:=q20) 1 rfl rfl (lb rfl) rfl (svA q20 rfl) rfl rfl) <|aA rfl (aH rfl rfl (lb rfl) (sv (d:=.bool false) rfl)) <|aD ?_)
 refine bC ?_
 obtain ⟨x1,hx1,h⟩:=aQ h
 obtain ⟨x2,hx2,h⟩:=aQ h
 obtain ⟨x3,hx3,h⟩:=aQ h
 obtain ⟨x4,hx4,h⟩:=aQ h
 obtain ⟨x5,hx5,h⟩:=aQ h
 obtain ⟨x6,hx6,h⟩:=bF h
 obtain ⟨x7,hx7,h⟩:=aQ h
 refine aE (aA rfl (faR 0 rfl rfl rfl Tryz.underlying105 rfl ti3 (lb rfl) rfl rfl) <|aA rfl (aF (d:=.int _ _) rfl rfl (lb rfl) Tryz.underlying3 ag3 ti3 (by decide) (svR rfl) rfl (nle rfl) rfl) <|aA rfl (mvI rfl rfl rfl rfl) <|aA rfl (aP rfl rfl (lb rfl) (svI rfl) (svI rfl) rfl hx1) <|aA rfl (mvB rfl rfl rfl rfl) <|aC rfl rfl (.one rfl) rfl (by decide) (fun hb=>(faR 1 rfl rfl rfl Tryz.underlying105 rfl ti3 (lb rfl) rfl rfl)) <|aC rfl rfl (.one rfl) rfl (by decide) (fun hb=>(aF (d:=.int _ _) rfl rfl (lb rfl) Tryz.underlying3 ag3 ti3 (by decide) (svcR rfl hb) rfl (nle rfl) rfl)) <|aC rfl rfl (.one rfl) rfl (by decide) (fun hb=>(faR 0 rfl rfl rfl Tryz.underlying105 rfl ti3 (lb rfl) rfl rfl)) <|aC rfl rfl (.one rfl) rfl (by decide) (fun hb=>(aF (d:=.int _ _) rfl rfl (lb rfl) Tryz.underlying3 ag3 ti3 (by decide) (svcR rfl hb) rfl (nle rfl) rfl)) <|aC rfl rfl (.one rfl) rfl (by decide) (fun hb=>(aP rfl rfl (lb rfl) (svcI rfl hb) (svcI rfl hb) rfl hx2)) <|aA rfl (cQ rfl rfl (lb rfl) (svB rfl) rfl rfl hx3) <|aA rfl (mvB rfl rfl rfl rfl) <|aC rfl rfl (.one rfl) rfl (by decide) (fun hb=>(faR 1 rfl rfl rfl Tryz.underlying105 rfl ti3 (lb rfl) rfl rfl)) <|aC rfl rfl (.one rfl) rfl (by decide) (fun hb=>(aF (d:=.int _ _) rfl rfl (lb rfl) Tryz.underlying3 ag3 ti3 (by decide) (svcR rfl hb) rfl (nle rfl) rfl)) <|aC rfl rfl (.one rfl) rfl (by decide) (fun hb=>(faR 2 rfl rfl rfl Tryz.underlying37 rfl ti3 (lb rfl) rfl rfl)) <|aC rfl rfl (.one rfl) rfl (by decide) (fun hb=>(aF (d:=.int _ _) rfl rfl (lb rfl) Tryz.underlying3 ag3 ti3 (by decide) (svcR rfl hb) rfl (nle rfl) rfl)) <|aC rfl rfl (.one rfl) rfl (by decide) (fun hb=>(aP rfl rfl (lb rfl) (svcI rfl hb) (svcI rfl hb) rfl hx4)) <|aA rfl (cQ rfl rfl (lb rfl) (svB rfl) rfl rfl hx5) <|aA rfl (mvB rfl rfl rfl rfl) <|aC rfl rfl (.one rfl) rfl (by decide) (fun hb=>(faR 2 rfl rfl rfl Tryz.underlying105 rfl ti3 (lb rfl) rfl rfl)) <|aC rfl rfl (.one rfl) rfl (by decide) (fun hb=>(aF (d:=.int _ _) rfl rfl (lb rfl) Tryz.underlying3 ag3 ti3 (by decide) (svcR rfl hb) rfl (nle rfl) rfl)) <|aC rfl rfl (.one rfl) rfl (by decide) (fun hb=>(aU (r:=.bool _) rfl rfl (lb rfl) cl133 (.cons (svcI rfl hb) .nil) rfl (sT _ _ (gd_t hx6 hb)))) <|aC rfl rfl (.one rfl) rfl (by decide) (fun hb=>(dB rfl rfl (lb rfl) (svcB rfl hb))) <|aA rfl (cQ rfl rfl (lb rfl) (svB rfl) rfl rfl hx7) <|aD ?_)
 refine aV (b:=_) rfl (fun hc8=>?_) (fun hc8=>?_)
 ·
  replace h:=cD h hc8
  refine aE (aA rfl (aH rfl rfl (lb rfl) (sv (d:=.bool false) rfl)) <|aD ?_)
  refine aT ?_
  refine bI ?_
  obtain rfl:=Option.some.inj h
  refine ⟨.inr rfl,(.cons (sv rfl) .nil)⟩
 ·
  replace h:=cE h hc8
  refine aY ?_
  refine aS ?_
  refine bC ?_
  obtain ⟨x9,hx9,h⟩:=aQ h
  refine aE (aA rfl (faR 0 rfl rfl rfl Tryz.underlying105 rfl ti3 (lb rfl) rfl rfl) <|aA rfl (aF (d:=.int _ _) rfl rfl (lb rfl) Tryz.underlying3 ag3 ti3 (by decide) (svR rfl) rfl (nle rfl) rfl) <|aA rfl (faR 1 rfl rfl rfl Tryz.underlying105 rfl ti3 (lb rfl) rfl rfl) <|aA rfl (aF (d:=.int _ _) rfl rfl (lb rfl) Tryz.underlying3 ag3 ti3 (by decide) (svR rfl) rfl (nle rfl) rfl) <|aA rfl (aP rfl rfl (lb rfl) (svI rfl) (svI rfl) rfl hx9) <|aD ?_)
  refine aV (b:=_) rfl (fun hc10=>?_) (fun hc10=>?_)
  ·
   replace h:=cD h hc10
   refine aE (aA rfl (faR 3 rfl rfl rfl Tryz.underlying105 rfl ti4 (lb rfl) rfl rfl) <|aA rfl (aF (d:=.bool _) rfl rfl (lb rfl) Tryz.underlying4 ag4 ti4 (by decide) (svR rfl) rfl (nle rfl) rfl) <|aA rfl (asB rfl rfl rfl rfl) <|aD ?_)
   refine aT ?_
   refine bI ?_
   obtain rfl:=Option.some.inj h
   refine ⟨.inr rfl,(.cons (sv rfl) .nil)⟩
  ·
   replace h:=cE h hc10
   refine aY ?_
   refine aS ?_
   obtain ⟨x11,hx11,h⟩:=bF h
   obtain ⟨x12,hx12,h⟩:=bF h
   obtain ⟨x13,hx13,h⟩:=bF h
   obtain ⟨x14,hx14,h⟩:=bF h
   refine dD rfl [⟨[3],[],[(38,.ref 0 4)],[]⟩,
    ⟨[38],[0],[(39,.slice false (a0.Lost.map aK.d))],[]⟩,
    ⟨[4],[1],[(40,.agg (v7 a1))],[]⟩,
    ⟨[40],[],[(41,.agg [.int .i64 x11.From,.int .i64 x11.To])],[]⟩,
    ⟨[39,41],[],[(42,.slice false (x12.map aK.d))],[]⟩,
    ⟨[4],[1],[(43,.agg (v7 a1))],[]⟩,
    ⟨[43],[],[(44,.agg [.int .i64 x13.From,.int .i64 x13.To])],[]⟩,
    ⟨[44],[2],[(45,.gsl 2 aK.sz ((([(⟨x13.From,x13.To⟩ : aG)] : (List aG))).map aK.d))],[(2,.tail 219 aK.sz (([(⟨x13.From,x13.To⟩ : aG)] : (List aG))).length)]⟩,
    ⟨[42,45],[],[(46,.bool x14)],[]⟩,
    ⟨[46],[],[(6,.bool x14)],[]⟩] rfl ?_ (by kernel_rfl) ?_
   ·refine .cons (lop rfl rfl fun S hA=>(aI rfl rfl (lb rfl) Tryz.underlying37 rfl ti35 (by decide) (svaR hA rfl rfl) (off':=4) rfl)) ?_
    refine .cons (lop rfl rfl fun S hA=>(aF (d:=.slice _ _) rfl rfl (lb rfl) Tryz.underlying35 ag35 ti35 (by decide) (svaR hA rfl rfl) (agi hA rfl rfl) (nle rfl) rfl)) ?_
    refine .cons (lop rfl rfl fun S hA=>(bK (cs:=q20) rfl rfl (lb rfl) Tryz.underlying105 nN dH (by decide) (svaR hA rfl rfl) (agi hA rfl rfl) (nle rfl) rfl)) ?_
    refine .cons (lop rfl rfl fun S hA=>(aU (r:=.agg q27) rfl rfl (lb rfl) aBw (.cons (svaA q20 hA rfl rfl) .nil) rfl (iZ _ _ hx11))) ?_
    refine .cons (lop rfl rfl fun S hA=>(aU (r:=.slice _ _) rfl rfl (lb rfl) cl183 (.cons (svaL hA rfl rfl) (.cons (svaA q27 hA rfl rfl) .nil)) rfl (wJ _ _ _ hx12))) ?_
    refine .cons (lop rfl rfl fun S hA=>(bK (cs:=q20) rfl rfl (lb rfl) Tryz.underlying105 nN dH (by decide) (svaR hA rfl rfl) (agi hA rfl rfl) (nle rfl) rfl)) ?_
    refine .cons (lop rfl rfl fun S hA=>(aU (r:=.agg q27) rfl rfl (lb rfl) aBw (.cons (svaA q20 hA rfl rfl) .nil) rfl (iZ _ _ hx13))) ?_
    refine .cons (lop rfl rfl fun S hA=>(tE aK ([(⟨x13.From,x13.To⟩ : aG)] : (List aG)) 2 rfl rfl (lb rfl) Tryz.underlying35 fF (agi hA rfl rfl) (.cons (svaA q27 hA rfl rfl) .nil) rfl rfl (by decide))) ?_
    refine .cons (lop rfl rfl fun S hA=>(aU (r:=.bool _) rfl rfl (lb rfl) cl127 (.cons (svaL hA rfl rfl) (.cons (svg (agr hA rfl rfl)) .nil)) rfl (rI _ _ _ hx14))) ?_
    refine .cons (lop rfl rfl fun S hA=>(aH rfl rfl (lb rfl) (svaB hA rfl rfl))) ?_
    exact .nil
   refine aT ?_
   obtain rfl:=Option.some.inj h
   refine ⟨.inr rfl,(.cons (sv rfl) .nil)⟩

theorem eZ (a0 : aW) (r : Int) (h : eI a0 = some r) : cF Tryz.prog 131 [.agg (v2 a0)] (.int .i64 r):=by
 refine bA (rs:=[.int .i64 r]) Tryz.func131 rfl Tryz.ntmps131 (nle rfl) rfl fun O hO=>?_
 show IWP _ _ _ _ ⟨[(0,.agg (v2 a0))],[]⟩ _
 unfold eI at h
 refine aE (aA rfl (bR (cs:=q15) 0 rfl rfl (lb rfl) rfl (svA q15 rfl) rfl rfl) <|aA rfl (aH rfl rfl (lb rfl) (sv (d:=.int _ 0) rfl)) <|aD ?_)
 obtain ⟨x1,hx1,h⟩:=aQ h
 refine aE (aA rfl (faR 0 rfl rfl rfl Tryz.underlying37 rfl ti3 (lb rfl) rfl rfl) <|aA rfl (aF (d:=.int _ _) rfl rfl (lb rfl) Tryz.underlying3 ag3 ti3 (by decide) (svR rfl) rfl (nle rfl) rfl) <|aA rfl (faR 1 rfl rfl rfl Tryz.underlying37 rfl ti9 (lb rfl) rfl rfl) <|aA rfl (aF (d:=.str _) rfl rfl (lb rfl) Tryz.underlying9 ag9 ti9 (by decide) (svR rfl) rfl (nle rfl) rfl) <|aA rfl (cT rfl rfl (lb rfl) Tryz.underlying9 (sv (d:=.str _) rfl) rfl) <|aA rfl (bM rfl rfl (lb rfl) (svI rfl) (svI rfl) rfl hx1) <|aA rfl (asI rfl rfl rfl rfl) <|aD ?_)
 refine aT ?_
 obtain rfl:=Option.some.inj h
 refine ⟨.inr rfl,(.cons (sv rfl) .nil)⟩

theorem qX (a0 : aW) (r : Bool) (h : jZ a0 = some r) : cF Tryz.prog 162 [.agg (v2 a0)] (.bool r):=by
 refine bA (rs:=[.bool r]) Tryz.func162 rfl Tryz.ntmps162 (nle rfl) rfl fun O hO=>?_
 show IWP _ _ _ _ ⟨[(0,.agg (v2 a0))],[]⟩ _
 unfold jZ at h
 refine aE (aA rfl (bR (cs:=q15) 0 rfl rfl (lb rfl) rfl (svA q15 rfl) rfl rfl) <|aA rfl (aH rfl rfl (lb rfl) (sv (d:=.bool false) rfl)) <|aD ?_)
 refine aE (aA rfl (aH rfl rfl (lb rfl) (sv (d:=.int _ 0) rfl)) <|aD ?_)
 refine bC ?_
 refine aE (aA rfl (faR 3 rfl rfl rfl Tryz.underlying37 rfl ti33 (lb rfl) rfl rfl) <|aA rfl (lrL la33 rfl rfl rfl rfl rfl (nle rfl) rfl) <|aA rfl (dL aB (l:=a0.Pieces) rfl rfl (lb rfl) Tryz.underlying33 (svL rfl)) <|aA rfl (aM rfl rfl (lb rfl) (sv (d:=.int _ 0) rfl)) <|aD ?_)
 refine bZ ?_
 refine dW (α:=Nat × Int × Int) (fun z=>⟨[(1,.ref 0 0),(3,.int .i64 z.2.1),(8,.slice false (a0.Pieces.map aB.d)),(9,.int .i64 (a0.Pieces.length : Int)),(10,.int .i64 z.2.2)],[(0,.blk 37 (v2 a0))]⟩) (fun z=>eC a0 z.1 z.2.1 z.2.2 = some r) (fun z=>z.1) (fuel,0,0) (fun i=>i) ⟨(.sames rfl rfl),(.cons (.blk rfl rfl rfl) .nil),cK [0] rfl (by decide),fun _ _=>rfl⟩ ?_ ?_
 ·exact h
 ·
  rintro ⟨n0,v11,v12⟩ h
  cases n0 with
  | zero=>exact absurd h (by unfold eC; exact nofun)
  | succ n0 =>
   unfold eC at h
   obtain ⟨x23,hx23,h⟩:=aQ h
   refine aE (aA rfl (aP rfl rfl (lb rfl) (svI rfl) (svI rfl) rfl hx23) <|aD ?_)
   refine bC ?_
   refine aV (b:=_) rfl (fun hc24=>?_) (fun hc24=>?_)
   ·
    replace h:=cD h hc24
    refine aY ?_
    refine aS ?_
    refine bC ?_
    refine bZ ?_
    obtain ⟨x25,hx25,h⟩:=bF h
    refine aE (aA rfl (dY aB (cs:=q20) rfl rfl (lb rfl) Tryz.underlying33 dH (svL rfl) (svI rfl) hx25 rfl rfl) <|aA rfl (dE (cs:=q20) rfl rfl (lb rfl) Tryz.underlying105 nN dH (by decide) (sv (d:=.fptr q20) rfl) (nle rfl) rfl) <|aA rfl (bD (cs:=q20) (cs':=(w46 0 0 0 false)) 1 rfl rfl (lb rfl) rfl dH rfl rfl (.all _)) <|aA rfl (stA q20 q20 dH rfl rfl rfl rfl rfl rfl rfl rfl (nle rfl) rfl) <|aD ?_)
    refine aE (aA rfl (faR 3 rfl rfl rfl Tryz.underlying105 rfl ti4 (lb rfl) rfl rfl) <|aA rfl (aF (d:=.bool _) rfl rfl (lb rfl) Tryz.underlying4 ag4 ti4 (by decide) (svR rfl) rfl (nle rfl) rfl) <|aD ?_)
    refine aV (b:=_) rfl (fun hc26=>?_) (fun hc26=>?_)
    ·
     replace h:=cD h hc26
     obtain ⟨x27,hx27,h⟩:=aQ h
     refine aE (aA rfl (mvI rfl rfl rfl rfl) <|aA rfl (bM rfl rfl (lb rfl) (svI rfl) (sv (d:=.int _ 1) rfl) rfl hx27) <|aA rfl (asI rfl rfl rfl rfl) <|aD ?_)
     obtain ⟨x28,hx28,h⟩:=bF h
     obtain ⟨x29,hx29,h⟩:=aQ h
     refine dD rfl [⟨[5],[],[(18,.ref 1 1)],[]⟩,
      ⟨[18],[1],[(19,.int .i64 x25.To)],[]⟩,
      ⟨[1],[0],[(20,.agg (v2 a0))],[]⟩,
      ⟨[20],[],[(21,.int .i64 x28)],[]⟩,
      ⟨[19,21],[],[(22,.bool x29)],[]⟩] rfl ?_ (by kernel_rfl) ?_
     ·refine .cons (lop rfl rfl fun S hA=>(aI rfl rfl (lb rfl) Tryz.underlying105 rfl ti3 (by decide) (svaR hA rfl rfl) (off':=1) rfl)) ?_
      refine .cons (lop rfl rfl fun S hA=>(aF (d:=.int _ _) rfl rfl (lb rfl) Tryz.underlying3 ag3 ti3 (by decide) (svaR hA rfl rfl) (agi hA rfl rfl) (nle rfl) rfl)) ?_
      refine .cons (lop rfl rfl fun S hA=>(bK (cs:=q15) rfl rfl (lb rfl) Tryz.underlying37 ag37 ti37 (by decide) (svaR hA rfl rfl) (agi hA rfl rfl) (nle rfl) rfl)) ?_
      refine .cons (lop rfl rfl fun S hA=>(aU (r:=.int _ _) rfl rfl (lb rfl) xA (.cons (svaA q15 hA rfl rfl) .nil) rfl (eZ _ _ hx28))) ?_
      refine .cons (lop rfl rfl fun S hA=>(aP rfl rfl (lb rfl) (svaI hA rfl rfl) (svaI hA rfl rfl) rfl hx29)) ?_
      exact .nil
     refine aV (b:=_) rfl (fun hc30=>?_) (fun hc30=>?_)
     ·
      replace h:=cD h hc30
      refine aE (aA rfl (aH rfl rfl (lb rfl) (sv (d:=.bool false) rfl)) <|aD ?_)
      refine aT ?_
      refine cS ?_
      refine bI ?_
      refine bI ?_
      refine cS ?_
      refine bI ?_
      obtain rfl:=Option.some.inj h
      refine ⟨.inr rfl,(.cons (sv rfl) .nil)⟩
     ·
      replace h:=cE h hc30
      refine aY ?_
      refine cO ?_
      refine aS ?_
      obtain ⟨x31,hx31,h⟩:=aQ h
      refine bO (aA rfl (bM rfl rfl (lb rfl) (svI rfl) (sv (d:=.int _ 1) rfl) rfl hx31) <|aA rfl (mvI rfl rfl rfl rfl) <|cL ?_)
      refine aS ⟨(n0,x27,x31),(fun i=>i),⟨(.sames rfl rfl),(.cons (.blk rfl rfl rfl) .nil),cK [0] rfl (by decide),fun _ _=>rfl⟩,?_,?_⟩
      exact h
      exact Nat.lt_succ_self _
    ·
     replace h:=cE h hc26
     refine aY ?_
     refine cO ?_
     refine aS ?_
     obtain ⟨x32,hx32,h⟩:=aQ h
     refine bO (aA rfl (bM rfl rfl (lb rfl) (svI rfl) (sv (d:=.int _ 1) rfl) rfl hx32) <|aA rfl (mvI rfl rfl rfl rfl) <|cL ?_)
     refine aS ⟨(n0,v11,x32),(fun i=>i),⟨(.sames rfl rfl),(.cons (.blk rfl rfl rfl) .nil),cK [0] rfl (by decide),fun _ _=>rfl⟩,?_,?_⟩
     exact h
     exact Nat.lt_succ_self _
   ·
    replace h:=cE h hc24
    refine eE ?_
    refine cU ?_
    refine cU ?_
    refine eG ?_
    refine aS ?_
    refine bC ?_
    refine aE (aA rfl (faR 6 rfl rfl rfl Tryz.underlying37 rfl ti4 (lb rfl) rfl rfl) <|aA rfl (aF (d:=.bool _) rfl rfl (lb rfl) Tryz.underlying4 ag4 ti4 (by decide) (svR rfl) rfl (nle rfl) rfl) <|aA rfl (dB rfl rfl (lb rfl) (svB rfl)) <|aD ?_)
    refine aV (b:=_) rfl (fun hc33=>?_) (fun hc33=>?_)
    ·
     replace h:=cD h hc33
     obtain ⟨x34,hx34,h⟩:=aQ h
     obtain ⟨x35,hx35,h⟩:=aQ h
     obtain ⟨x36,hx36,h⟩:=aQ h
     refine aE (aA rfl (mvI rfl rfl rfl rfl) <|aA rfl (aP rfl rfl (lb rfl) (svI rfl) (sv (d:=.int _ 0) rfl) rfl hx34) <|aA rfl (mvB rfl rfl rfl rfl) <|aC rfl rfl (.one rfl) rfl (by decide) (fun hb=>(faR 7 rfl rfl rfl Tryz.underlying37 rfl ti4 (lb rfl) rfl rfl)) <|aC rfl rfl (.one rfl) rfl (by decide) (fun hb=>(aF (d:=.bool _) rfl rfl (lb rfl) Tryz.underlying4 ag4 ti4 (by decide) (svcR rfl hb) rfl (nle rfl) rfl)) <|aC rfl rfl (.one rfl) rfl (by decide) (fun hb=>(dB rfl rfl (lb rfl) (svcB rfl hb))) <|aA rfl (bT rfl rfl (lb rfl) (svB rfl) rfl rfl hx35) <|aA rfl (mvB rfl rfl rfl rfl) <|aC rfl rfl (.one rfl) rfl (by decide) (fun hb=>(faR 8 rfl rfl rfl Tryz.underlying37 rfl ti4 (lb rfl) rfl rfl)) <|aC rfl rfl (.one rfl) rfl (by decide) (fun hb=>(aF (d:=.bool _) rfl rfl (lb rfl) Tryz.underlying4 ag4 ti4 (by decide) (svcR rfl hb) rfl (nle rfl) rfl)) <|aC rfl rfl (.one rfl) rfl (by decide) (fun hb=>(dB rfl rfl (lb rfl) (svcB rfl hb))) <|aA rfl (bT rfl rfl (lb rfl) (svB rfl) rfl rfl hx36) <|aA rfl (asB rfl rfl rfl rfl) <|aD ?_)
     refine aT ?_
     refine bI ?_
     obtain rfl:=Option.some.inj h
     refine ⟨.inr rfl,(.cons (sv rfl) .nil)⟩
    ·
     replace h:=cE h hc33
     refine aY ?_
     refine aS ?_
     refine bC ?_
     obtain ⟨x37,hx37,h⟩:=bF h
     obtain ⟨x38,hx38,h⟩:=aQ h
     obtain ⟨x39,hx39,h⟩:=aQ h
     obtain ⟨x40,hx40,h⟩:=aQ h
     obtain ⟨x41,hx41,h⟩:=aQ h
     refine dD rfl [⟨[1],[],[(39,.ref 0 5)],[]⟩,
      ⟨[39],[0],[(40,.bool a0.Closed)],[]⟩,
      ⟨[40],[],[(41,.bool (!a0.Closed))],[]⟩,
      ⟨[41],[],[(42,.bool (!a0.Closed))],[]⟩,
      ⟨[1,42],[],[(43,.cnd ((!a0.Closed) == false) (.ref 0 2))],[]⟩,
      ⟨[42,43],[0],[(44,.cnd ((!a0.Closed) == false) (.int .i64 a0.Next))],[]⟩,
      ⟨[1,42],[0],[(45,.cnd ((!a0.Closed) == false) (.agg (v2 a0)))],[]⟩,
      ⟨[42,45],[],[(46,.cnd ((!a0.Closed) == false) (.int .i64 x37))],[]⟩,
      ⟨[42,44,46],[],[(47,.cnd ((!a0.Closed) == false) (.bool x38))],[]⟩,
      ⟨[42,47],[],[(48,.bool x39)],[]⟩,
      ⟨[48],[],[(49,.bool x39)],[]⟩,
      ⟨[1,49],[],[(50,.cnd (x39 == false) (.ref 0 7))],[]⟩,
      ⟨[49,50],[0],[(51,.cnd (x39 == false) (.bool a0.Again))],[]⟩,
      ⟨[49,51],[],[(52,.cnd (x39 == false) (.bool a0.Again))],[]⟩,
      ⟨[1,52],[],[(53,.cnd (((x39 == false) && (a0.Again == true))) (.ref 0 8))],[]⟩,
      ⟨[52,53],[0],[(54,.cnd (((x39 == false) && (a0.Again == true))) (.bool a0.Done))],[]⟩,
      ⟨[49,52,54],[],[(55,.cnd (x39 == false) (.bool x40))],[]⟩,
      ⟨[49,55],[],[(56,.bool x41)],[]⟩] rfl ?_ (by kernel_rfl) ?_
     ·refine .cons (lop rfl rfl fun S hA=>(aI rfl rfl (lb rfl) Tryz.underlying37 rfl ti4 (by decide) (svaR hA rfl rfl) (off':=5) rfl)) ?_
      refine .cons (lop rfl rfl fun S hA=>(aF (d:=.bool _) rfl rfl (lb rfl) Tryz.underlying4 ag4 ti4 (by decide) (svaR hA rfl rfl) (agi hA rfl rfl) (nle rfl) rfl)) ?_
      refine .cons (lop rfl rfl fun S hA=>(dB rfl rfl (lb rfl) (svaB hA rfl rfl))) ?_
      refine .cons (lop rfl rfl fun S hA=>(aM rfl rfl (lb rfl) (svaB hA rfl rfl))) ?_
      refine .cons (lopg rfl rfl rfl rfl (by decide) (fun S hA=>grd1 hA rfl rfl) (fun S hA hb=>(aI rfl rfl (lb rfl) Tryz.underlying37 rfl ti3 (by decide) (svaR hA rfl rfl) (off':=2) rfl))) ?_
      refine .cons (lopg rfl rfl rfl rfl (by decide) (fun S hA=>grd1 hA rfl rfl) (fun S hA hb=>(aF (d:=.int _ _) rfl rfl (lb rfl) Tryz.underlying3 ag3 ti3 (by decide) (svc (d:=.ref _ _) (agr hA rfl rfl) hb) (agi hA rfl rfl) (nle rfl) rfl))) ?_
      refine .cons (lopg rfl rfl rfl rfl (by decide) (fun S hA=>grd1 hA rfl rfl) (fun S hA hb=>(bK (cs:=q15) rfl rfl (lb rfl) Tryz.underlying37 ag37 ti37 (by decide) (svaR hA rfl rfl) (agi hA rfl rfl) (nle rfl) rfl))) ?_
      refine .cons (lopg rfl rfl rfl rfl (by decide) (fun S hA=>grd1 hA rfl rfl) (fun S hA hb=>(aU (r:=.int _ _) rfl rfl (lb rfl) xA (.cons (svc (d:=.agg (v2 a0)) (agr hA rfl rfl) hb) .nil) rfl (eZ _ _ (gd_t hx37 hb))))) ?_
      refine .cons (lopg rfl rfl rfl rfl (by decide) (fun S hA=>grd1 hA rfl rfl) (fun S hA hb=>(aP rfl rfl (lb rfl) (svc (d:=.int _ _) (agr hA rfl rfl) hb) (svc (d:=.int _ _) (agr hA rfl rfl) hb) rfl hx38))) ?_
      refine .cons (lop rfl rfl fun S hA=>(cQ rfl rfl (lb rfl) (svaB hA rfl rfl) rfl (agr hA rfl rfl) hx39)) ?_
      refine .cons (lop rfl rfl fun S hA=>(aM rfl rfl (lb rfl) (svaB hA rfl rfl))) ?_
      refine .cons (lopg rfl rfl rfl rfl (by decide) (fun S hA=>grd1 hA rfl rfl) (fun S hA hb=>(aI rfl rfl (lb rfl) Tryz.underlying37 rfl ti4 (by decide) (svaR hA rfl rfl) (off':=7) rfl))) ?_
      refine .cons (lopg rfl rfl rfl rfl (by decide) (fun S hA=>grd1 hA rfl rfl) (fun S hA hb=>(aF (d:=.bool _) rfl rfl (lb rfl) Tryz.underlying4 ag4 ti4 (by decide) (svc (d:=.ref _ _) (agr hA rfl rfl) hb) (agi hA rfl rfl) (nle rfl) rfl))) ?_
      refine .cons (lopg rfl rfl rfl rfl (by decide) (fun S hA=>grd1 hA rfl rfl) (fun S hA hb=>(aM rfl rfl (lb rfl) (svc (d:=.bool _) (agr hA rfl rfl) hb)))) ?_
      refine .cons (lopg rfl rfl rfl rfl (by decide) (fun S hA=>grd2 hA rfl rfl) (fun S hA hb=>(aI rfl rfl (lb rfl) Tryz.underlying37 rfl ti4 (by decide) (svaR hA rfl rfl) (off':=8) rfl))) ?_
      refine .cons (lopg rfl rfl rfl rfl (by decide) (fun S hA=>grd2 hA rfl rfl) (fun S hA hb=>(aF (d:=.bool _) rfl rfl (lb rfl) Tryz.underlying4 ag4 ti4 (by decide) (svc (d:=.ref _ _) (agr hA rfl rfl) hb) (agi hA rfl rfl) (nle rfl) rfl))) ?_
      refine .cons (lopg rfl rfl rfl rfl (by decide) (fun S hA=>grd1 hA rfl rfl) (fun S hA hb=>(jH rfl rfl (lb rfl) hb (svc (d:=.bool _) (agr hA rfl rfl) hb) (agr hA rfl rfl) rfl hx40))) ?_
      refine .cons (lop rfl rfl fun S hA=>(cQ rfl rfl (lb rfl) (svaB hA rfl rfl) rfl (agr hA rfl rfl) hx41)) ?_
      exact .nil
     refine aV (b:=_) rfl (fun hc42=>?_) (fun hc42=>?_)
     ·
      replace h:=cD h hc42
      refine aE (aA rfl (aH rfl rfl (lb rfl) (sv (d:=.bool false) rfl)) <|aD ?_)
      refine aT ?_
      refine bI ?_
      obtain rfl:=Option.some.inj h
      refine ⟨.inr rfl,(.cons (sv rfl) .nil)⟩
     ·
      replace h:=cE h hc42
      refine aY ?_
      refine aS ?_
      obtain ⟨x43,hx43,h⟩:=aQ h
      refine aE (aA rfl (faR 7 rfl rfl rfl Tryz.underlying37 rfl ti4 (lb rfl) rfl rfl) <|aA rfl (aF (d:=.bool _) rfl rfl (lb rfl) Tryz.underlying4 ag4 ti4 (by decide) (svR rfl) rfl (nle rfl) rfl) <|aA rfl (dB rfl rfl (lb rfl) (svB rfl)) <|aA rfl (mvB rfl rfl rfl rfl) <|aC rfl rfl (.one rfl) rfl (by decide) (fun hb=>(faR 8 rfl rfl rfl Tryz.underlying37 rfl ti4 (lb rfl) rfl rfl)) <|aC rfl rfl (.one rfl) rfl (by decide) (fun hb=>(aF (d:=.bool _) rfl rfl (lb rfl) Tryz.underlying4 ag4 ti4 (by decide) (svcR rfl hb) rfl (nle rfl) rfl)) <|aC rfl rfl (.one rfl) rfl (by decide) (fun hb=>(dB rfl rfl (lb rfl) (svcB rfl hb))) <|aA rfl (bT rfl rfl (lb rfl) (svB rfl) rfl rfl hx43) <|aA rfl (asB rfl rfl rfl rfl) <|aD ?_)
      obtain ⟨x44,hx44,h⟩:=aQ h
      obtain ⟨x45,hx45,h⟩:=aQ h
      obtain ⟨x46,hx46,h⟩:=aQ h
      obtain ⟨x47,hx47,h⟩:=aQ h
      obtain ⟨x48,hx48,h⟩:=aQ h
      refine aE (aA rfl (mvB rfl rfl rfl rfl) <|aA rfl (mvB rfl rfl rfl rfl) <|aC rfl rfl (.one rfl) rfl (by decide) (fun hb=>(mvI rfl rfl rfl rfl)) <|aC rfl rfl (.one rfl) rfl (by decide) (fun hb=>(aP rfl rfl (lb rfl) (svcI rfl hb) (sv (d:=.int _ 1) rfl) rfl hx44)) <|aA rfl (bT rfl rfl (lb rfl) (svB rfl) rfl rfl hx45) <|aA rfl (mvB rfl rfl rfl rfl) <|aC rfl rfl (.one rfl) rfl (by decide) (fun hb=>(mvB rfl rfl rfl rfl)) <|aC rfl rfl (.one rfl) rfl (by decide) (fun hb=>(dB rfl rfl (lb rfl) (svcB rfl hb))) <|aC rfl rfl (.one rfl) rfl (by decide) (fun hb=>(aM rfl rfl (lb rfl) (svcB rfl hb))) <|aC rfl rfl (.two rfl) rfl (by decide) (fun hb=>(mvI rfl rfl rfl rfl)) <|aC rfl rfl (.two rfl) rfl (by decide) (fun hb=>(aP rfl rfl (lb rfl) (svcI rfl hb) (sv (d:=.int _ 0) rfl) rfl hx46)) <|aC rfl rfl (.one rfl) rfl (by decide) (fun hb=>(jH rfl rfl (lb rfl) hb (svcB rfl hb) rfl rfl hx47)) <|aA rfl (cQ rfl rfl (lb rfl) (svB rfl) rfl rfl hx48) <|aA rfl (asB rfl rfl rfl rfl) <|aD ?_)
      refine aT ?_
      obtain rfl:=Option.some.inj h
      refine ⟨.inr rfl,(.cons (sv rfl) .nil)⟩

theorem iU (a0 : aW) (r : Int) (h : hG a0 = some r) : cF Tryz.prog 117 [.agg (v2 a0)] (.int .i64 r) := by
 refine bA (rs:=[.int .i64 r]) Tryz.func117 rfl Tryz.ntmps117 (nle rfl) rfl fun O hO=>?_
 show IWP _ _ _ _ ⟨[(0,.agg (v2 a0))],[]⟩ _
 unfold hG at h
 refine aE (aA rfl (bR (cs:=q15) 0 rfl rfl (lb rfl) rfl (svA q15 rfl) rfl rfl) <|aA rfl (aH rfl rfl (lb rfl) (sv (d:=.int _ 0) rfl)) <|aD ?_)
 refine bC ?_
 refine bZ ?_
 refine kN (α:=Bool) (fun z=>⟨[(1,.ref 0 0),(6,.bool z)],[(0,.blk 37 (v2 a0))]⟩) (fun z=>iD a0 z = some r) ?_ ?_
 ·
  obtain ⟨x37,hx37,h⟩:=aQ h
  refine aE (aA rfl (faR 0 rfl rfl rfl Tryz.underlying37 rfl ti3 (lb rfl) rfl rfl) <|aA rfl (aF (d:=.int _ _) rfl rfl (lb rfl) Tryz.underlying3 ag3 ti3 (by decide) (svR rfl) rfl (nle rfl) rfl) <|aA rfl (aP rfl rfl (lb rfl) (svI rfl) (sv (d:=.int _ 0) rfl) rfl hx37) <|aA rfl (asB rfl rfl rfl rfl) <|aD ?_)
  refine aV (b:=_) rfl (fun hc38=>?_) (fun hc38=>?_)
  ·
   replace h:=cD h hc38
   refine aY ?_
   refine aS ⟨x37,(fun i=>i),⟨(.sames rfl rfl),(.cons (.blk rfl rfl rfl) .nil),cK [0] rfl (by decide),fun _ _=>rfl⟩,?_⟩
   exact h
  ·
   replace h:=cE h hc38
   obtain ⟨x39,hx39,h⟩:=aQ h
   refine aE (aA rfl (faR 0 rfl rfl rfl Tryz.underlying37 rfl ti3 (lb rfl) rfl rfl) <|aA rfl (aF (d:=.int _ _) rfl rfl (lb rfl) Tryz.underlying3 ag3 ti3 (by decide) (svR rfl) rfl (nle rfl) rfl) <|aA rfl (aP rfl rfl (lb rfl) (svI rfl) (sv (d:=.int _ 1099511623680) rfl) rfl hx39) <|aA rfl (asB rfl rfl rfl rfl) <|aD ?_)
   refine aV (b:=_) rfl (fun hc40=>?_) (fun hc40=>?_)
   ·
    replace h:=cD h hc40
    refine aY ?_
    refine aS ⟨x39,(fun i=>i),⟨(.sames rfl rfl),(.cons (.blk rfl rfl rfl) .nil),cK [0] rfl (by decide),fun _ _=>rfl⟩,?_⟩
    exact h
   ·
    replace h:=cE h hc40
    obtain ⟨x41,hx41,h⟩:=aQ h
    refine aE (aA rfl (faR 2 rfl rfl rfl Tryz.underlying37 rfl ti3 (lb rfl) rfl rfl) <|aA rfl (aF (d:=.int _ _) rfl rfl (lb rfl) Tryz.underlying3 ag3 ti3 (by decide) (svR rfl) rfl (nle rfl) rfl) <|aA rfl (faR 0 rfl rfl rfl Tryz.underlying37 rfl ti3 (lb rfl) rfl rfl) <|aA rfl (aF (d:=.int _ _) rfl rfl (lb rfl) Tryz.underlying3 ag3 ti3 (by decide) (svR rfl) rfl (nle rfl) rfl) <|aA rfl (aP rfl rfl (lb rfl) (svI rfl) (svI rfl) rfl hx41) <|aA rfl (asB rfl rfl rfl rfl) <|aD ?_)
    refine aV (b:=_) rfl (fun hc42=>?_) (fun hc42=>?_)
    ·
     replace h:=cD h hc42
     refine aY ?_
     refine aS ⟨x41,(fun i=>i),⟨(.sames rfl rfl),(.cons (.blk rfl rfl rfl) .nil),cK [0] rfl (by decide),fun _ _=>rfl⟩,?_⟩
     exact h
    ·
     replace h:=cE h hc42
     obtain ⟨x43,hx43,h⟩:=aQ h
     obtain ⟨x44,hx44,h⟩:=aQ h
     refine bO (aA rfl (faR 2 rfl rfl rfl Tryz.underlying37 rfl ti3 (lb rfl) rfl rfl) <|aA rfl (aF (d:=.int _ _) rfl rfl (lb rfl) Tryz.underlying3 ag3 ti3 (by decide) (svR rfl) rfl (nle rfl) rfl) <|aA rfl (faR 0 rfl rfl rfl Tryz.underlying37 rfl ti3 (lb rfl) rfl rfl) <|aA rfl (aF (d:=.int _ _) rfl rfl (lb rfl) Tryz.underlying3 ag3 ti3 (by decide) (svR rfl) rfl (nle rfl) rfl) <|aA rfl (bM rfl rfl (lb rfl) (svI rfl) (svI rfl) rfl hx43) <|aA rfl (faR 1 rfl rfl rfl Tryz.underlying37 rfl ti9 (lb rfl) rfl rfl) <|aA rfl (aF (d:=.str _) rfl rfl (lb rfl) Tryz.underlying9 ag9 ti9 (by decide) (svR rfl) rfl (nle rfl) rfl) <|aA rfl (cT rfl rfl (lb rfl) Tryz.underlying9 (sv (d:=.str _) rfl) rfl) <|aA rfl (aP rfl rfl (lb rfl) (svI rfl) (svI rfl) rfl hx44) <|aA rfl (asB rfl rfl rfl rfl) <|cL ?_)
     refine aS ⟨x44,(fun i=>i),⟨(.sames rfl rfl),(.cons (.blk rfl rfl rfl) .nil),cK [0] rfl (by decide),fun _ _=>rfl⟩,?_⟩
     exact h
 ·
  rintro v9 h
  unfold iD at h
  refine aV (b:=_) rfl (fun hc10=>?_) (fun hc10=>?_)
  ·
   replace h:=cD h hc10
   refine aE (aA rfl (aH rfl rfl (lb rfl) (sv (d:=.int _ 8) rfl)) <|aD ?_)
   refine aT ?_
   refine cS ?_
   refine bI ?_
   obtain rfl:=Option.some.inj h
   refine ⟨.inr rfl,(.cons (sv rfl) .nil)⟩
  ·
   replace h:=cE h hc10
   obtain ⟨x11,hx11,h⟩:=aQ h
   refine aE (aA rfl (faR 1 rfl rfl rfl Tryz.underlying37 rfl ti9 (lb rfl) rfl rfl) <|aA rfl (aF (d:=.str _) rfl rfl (lb rfl) Tryz.underlying9 ag9 ti9 (by decide) (svR rfl) rfl (nle rfl) rfl) <|aA rfl (cT rfl rfl (lb rfl) Tryz.underlying9 (sv (d:=.str _) rfl) rfl) <|aA rfl (aP rfl rfl (lb rfl) (svI rfl) (sv (d:=.int _ 4096) rfl) rfl hx11) <|aA rfl (asB rfl rfl rfl rfl) <|aD ?_)
   refine aV (b:=_) rfl (fun hc12=>?_) (fun hc12=>?_)
   ·
    replace h:=cD h hc12
    refine aE (aA rfl (aH rfl rfl (lb rfl) (sv (d:=.int _ 5) rfl)) <|aD ?_)
    refine aT ?_
    refine cS ?_
    refine bI ?_
    obtain rfl:=Option.some.inj h
    refine ⟨.inr rfl,(.cons (sv rfl) .nil)⟩
   ·
    replace h:=cE h hc12
    obtain ⟨x13,hx13,h⟩:=bF h
    refine aE (aA rfl (lra q15 la37 rfl rfl rfl rfl rfl (nle rfl) rfl) <|aA rfl (aU (r:=.bool _) rfl rfl (lb rfl) cl160 (.cons (svA q15 rfl) .nil) rfl (qV _ _ hx13)) <|aA rfl (dB rfl rfl (lb rfl) (svB rfl)) <|aA rfl (asB rfl rfl rfl rfl) <|aD ?_)
    refine aV (b:=_) rfl (fun hc14=>?_) (fun hc14=>?_)
    ·
     replace h:=cD h hc14
     refine aE (aA rfl (aH rfl rfl (lb rfl) (sv (d:=.int _ 4) rfl)) <|aD ?_)
     refine aT ?_
     refine cS ?_
     refine bI ?_
     obtain rfl:=Option.some.inj h
     refine ⟨.inr rfl,(.cons (sv rfl) .nil)⟩
    ·
     replace h:=cE h hc14
     refine aY ?_
     refine cO ?_
     refine aS ?_
     refine aE (aA rfl (faR 0 rfl rfl rfl Tryz.underlying37 rfl ti3 (lb rfl) rfl rfl) <|aA rfl (aF (d:=.int _ _) rfl rfl (lb rfl) Tryz.underlying3 ag3 ti3 (by decide) (svR rfl) rfl (nle rfl) rfl) <|aA rfl (asI rfl rfl rfl rfl) <|aD ?_)
     refine bC ?_
     refine aE (aA rfl (faR 3 rfl rfl rfl Tryz.underlying37 rfl ti33 (lb rfl) rfl rfl) <|aA rfl (lrL la33 rfl rfl rfl rfl rfl (nle rfl) rfl) <|aA rfl (dL aB (l:=a0.Pieces) rfl rfl (lb rfl) Tryz.underlying33 (svL rfl)) <|aA rfl (aM rfl rfl (lb rfl) (sv (d:=.int _ 0) rfl)) <|aD ?_)
     refine bZ ?_
     refine dW (α:=Nat × Int × Int) (fun z=>⟨[(1,.ref 0 0),(3,.int .i64 z.2.1),(39,.slice false (a0.Pieces.map aB.d)),(40,.int .i64 (a0.Pieces.length : Int)),(41,.int .i64 z.2.2)],[(0,.blk 37 (v2 a0))]⟩) (fun z=>gG a0 z.1 z.2.1 z.2.2 = some r) (fun z=>z.1) (fuel,a0.Base,0) (fun i=>i) ⟨(.sames rfl rfl),(.cons (.blk rfl rfl rfl) .nil),cK [0] rfl (by decide),fun _ _=>rfl⟩ ?_ ?_
     ·exact h
     ·
      rintro ⟨n1,v21,v22⟩ h
      cases n1 with
      | zero=>exact absurd h (by unfold gG; exact nofun)
      | succ n1 =>
       unfold gG at h
       obtain ⟨x29,hx29,h⟩:=aQ h
       refine aE (aA rfl (aP rfl rfl (lb rfl) (svI rfl) (svI rfl) rfl hx29) <|aD ?_)
       refine bC ?_
       refine aV (b:=_) rfl (fun hc30=>?_) (fun hc30=>?_)
       ·
        replace h:=cD h hc30
        refine aY ?_
        refine aS ?_
        refine bC ?_
        refine bZ ?_
        obtain ⟨x31,hx31,h⟩:=bF h
        refine aE (aA rfl (dY aB (cs:=q20) rfl rfl (lb rfl) Tryz.underlying33 dH (svL rfl) (svI rfl) hx31 rfl rfl) <|aA rfl (dE (cs:=q20) rfl rfl (lb rfl) Tryz.underlying105 nN dH (by decide) (sv (d:=.fptr q20) rfl) (nle rfl) rfl) <|aA rfl (bD (cs:=q20) (cs':=(w46 0 0 0 false)) 1 rfl rfl (lb rfl) rfl dH rfl rfl (.all _)) <|aA rfl (stA q20 q20 dH rfl rfl rfl rfl rfl rfl rfl rfl (nle rfl) rfl) <|aD ?_)
        refine bC ?_
        obtain ⟨x32,hx32,h⟩:=bF h
        refine aE (aA rfl (lra q15 la37 rfl rfl rfl rfl rfl (nle rfl) rfl) <|aA rfl (lra q20 qD rfl rfl rfl rfl rfl (nle rfl) rfl) <|aA rfl (mvI rfl rfl rfl rfl) <|aA rfl (aU (r:=.bool _) rfl rfl (lb rfl) cl161 (.cons (svA q15 rfl) (.cons (svA q20 rfl) (.cons (svI rfl) .nil))) rfl (qW _ _ _ _ hx32)) <|aA rfl (dB rfl rfl (lb rfl) (svB rfl)) <|aD ?_)
        refine aV (b:=_) rfl (fun hc33=>?_) (fun hc33=>?_)
        ·
         replace h:=cD h hc33
         refine aE (aA rfl (aH rfl rfl (lb rfl) (sv (d:=.int _ 10) rfl)) <|aD ?_)
         refine aT ?_
         refine bI ?_
         refine cS ?_
         refine bI ?_
         refine bI ?_
         refine cS ?_
         refine bI ?_
         obtain rfl:=Option.some.inj h
         refine ⟨.inr rfl,(.cons (sv rfl) .nil)⟩
        ·
         replace h:=cE h hc33
         refine aY ?_
         refine aS ?_
         refine bO (aA rfl (faR 1 rfl rfl rfl Tryz.underlying105 rfl ti3 (lb rfl) rfl rfl) <|aA rfl (aF (d:=.int _ _) rfl rfl (lb rfl) Tryz.underlying3 ag3 ti3 (by decide) (svR rfl) rfl (nle rfl) rfl) <|aA rfl (asI rfl rfl rfl rfl) <|cL ?_)
         refine cO ?_
         refine aS ?_
         obtain ⟨x34,hx34,h⟩:=aQ h
         refine bO (aA rfl (bM rfl rfl (lb rfl) (svI rfl) (sv (d:=.int _ 1) rfl) rfl hx34) <|aA rfl (mvI rfl rfl rfl rfl) <|cL ?_)
         refine aS ⟨(n1,x31.To,x34),(fun i=>i),⟨(.sames rfl rfl),(.cons (.blk rfl rfl rfl) .nil),cK [0] rfl (by decide),fun _ _=>rfl⟩,?_,?_⟩
         exact h
         exact Nat.lt_succ_self _
       ·
        replace h:=cE h hc30
        refine eE ?_
        refine cU ?_
        refine cU ?_
        refine eG ?_
        refine aS ?_
        refine bC ?_
        obtain ⟨x35,hx35,h⟩:=bF h
        refine aE (aA rfl (lra q15 la37 rfl rfl rfl rfl rfl (nle rfl) rfl) <|aA rfl (aU (r:=.bool _) rfl rfl (lb rfl) cl162 (.cons (svA q15 rfl) .nil) rfl (qX _ _ hx35)) <|aA rfl (dB rfl rfl (lb rfl) (svB rfl)) <|aD ?_)
        refine aV (b:=_) rfl (fun hc36=>?_) (fun hc36=>?_)
        ·
         replace h:=cD h hc36
         refine aE (aA rfl (aH rfl rfl (lb rfl) (sv (d:=.int _ 9) rfl)) <|aD ?_)
         refine aT ?_
         refine bI ?_
         obtain rfl:=Option.some.inj h
         refine ⟨.inr rfl,(.cons (sv rfl) .nil)⟩
        ·
         replace h:=cE h hc36
         refine aY ?_
         refine aS ?_
         refine aE (aA rfl (aH rfl rfl (lb rfl) (sv (d:=.int _ 0) rfl)) <|aD ?_)
         refine aT ?_
         obtain rfl:=Option.some.inj h
         refine ⟨.inr rfl,(.cons (sv rfl) .nil)⟩

theorem pZ (a0 : bJ) (r : Int) (h : kI a0 = some r) : cF Tryz.prog 147 [.agg (v5 a0)] (.int .i64 r):=by
 refine bA (rs:=[.int .i64 r]) Tryz.func147 rfl Tryz.ntmps147 (nle rfl) rfl fun O hO=>?_
 show IWP _ _ _ _ ⟨[(0,.agg (v5 a0))],[]⟩ _
 unfold kI at h
 refine aE (aA rfl (bR (cs:=q23) 0 rfl rfl (lb rfl) rfl (svA q23 rfl) rfl rfl) <|aA rfl (aH rfl rfl (lb rfl) (sv (d:=.int _ 0) rfl)) <|aD ?_)
 obtain ⟨x1,hx1,h⟩:=aQ h
 obtain ⟨x2,hx2,h⟩:=aQ h
 obtain ⟨x3,hx3,h⟩:=aQ h
 refine aE (aA rfl (faR 0 rfl rfl rfl Tryz.underlying40 rfl ti3 (lb rfl) rfl rfl) <|aA rfl (aF (d:=.int _ _) rfl rfl (lb rfl) Tryz.underlying3 ag3 ti3 (by decide) (svR rfl) rfl (nle rfl) rfl) <|aA rfl (faR 1 rfl rfl rfl Tryz.underlying40 rfl ti9 (lb rfl) rfl rfl) <|aA rfl (aF (d:=.str _) rfl rfl (lb rfl) Tryz.underlying9 ag9 ti9 (by decide) (svR rfl) rfl (nle rfl) rfl) <|aA rfl (cT rfl rfl (lb rfl) Tryz.underlying9 (sv (d:=.str _) rfl) rfl) <|aA rfl (bM rfl rfl (lb rfl) (svI rfl) (svI rfl) rfl hx1) <|aA rfl (bM rfl rfl (lb rfl) (svI rfl) (sv (d:=.int _ 4096) rfl) rfl hx2) <|aA rfl (jD rfl rfl (lb rfl) (svI rfl) (sv (d:=.int _ 1099511627776) rfl) hx3) <|aA rfl (asI rfl rfl rfl rfl) <|aD ?_)
 refine aT ?_
 obtain rfl:=Option.some.inj h
 refine ⟨.inr rfl,(.cons (sv rfl) .nil)⟩

theorem gE (a0 : aN) (r : Int) (h : eN a0 = some r) : cF Tryz.prog 150 [.agg [.int .i64 a0.At,.str a0.Data]] (.int .i64 r):=by
 refine bA (rs:=[.int .i64 r]) Tryz.func150 rfl Tryz.ntmps150 (nle rfl) rfl fun O hO=>?_
 show IWP _ _ _ _ ⟨[(0,.agg [.int .i64 a0.At,.str a0.Data])],[]⟩ _
 unfold eN at h
 refine aE (aA rfl (bR (cs:=q29) 0 rfl rfl (lb rfl) rfl (svA q29 rfl) rfl rfl) <|aA rfl (aH rfl rfl (lb rfl) (sv (d:=.int _ 0) rfl)) <|aD ?_)
 obtain ⟨x1,hx1,h⟩:=aQ h
 refine aE (aA rfl (faR 0 rfl rfl rfl Tryz.underlying228 rfl ti3 (lb rfl) rfl rfl) <|aA rfl (aF (d:=.int _ _) rfl rfl (lb rfl) Tryz.underlying3 ag3 ti3 (by decide) (svR rfl) rfl (nle rfl) rfl) <|aA rfl (faR 1 rfl rfl rfl Tryz.underlying228 rfl ti9 (lb rfl) rfl rfl) <|aA rfl (aF (d:=.str _) rfl rfl (lb rfl) Tryz.underlying9 ag9 ti9 (by decide) (svR rfl) rfl (nle rfl) rfl) <|aA rfl (cT rfl rfl (lb rfl) Tryz.underlying9 (sv (d:=.str _) rfl) rfl) <|aA rfl (bM rfl rfl (lb rfl) (svI rfl) (svI rfl) rfl hx1) <|aA rfl (asI rfl rfl rfl rfl) <|aD ?_)
 refine aT ?_
 obtain rfl:=Option.some.inj h
 refine ⟨.inr rfl,(.cons (sv rfl) .nil)⟩

theorem nJ (a0 : bJ) (r : Int) (h : jN a0 = some r) : cF Tryz.prog 143 [.agg (v5 a0)] (.int .i64 r):=by
 refine bA (rs:=[.int .i64 r]) Tryz.func143 rfl Tryz.ntmps143 (nle rfl) rfl fun O hO=>?_
 show IWP _ _ _ _ ⟨[(0,.agg (v5 a0))],[]⟩ _
 unfold jN at h
 refine aE (aA rfl (bR (cs:=q23) 0 rfl rfl (lb rfl) rfl (svA q23 rfl) rfl rfl) <|aA rfl (aH rfl rfl (lb rfl) (sv (d:=.int _ 0) rfl)) <|aD ?_)
 refine bC ?_
 obtain ⟨x1,hx1,h⟩:=aQ h
 obtain ⟨x2,hx2,h⟩:=aQ h
 obtain ⟨x3,hx3,h⟩:=aQ h
 obtain ⟨x4,hx4,h⟩:=aQ h
 obtain ⟨x5,hx5,h⟩:=aQ h
 obtain ⟨x6,hx6,h⟩:=aQ h
 refine aE (aA rfl (faR 0 rfl rfl rfl Tryz.underlying40 rfl ti3 (lb rfl) rfl rfl) <|aA rfl (aF (d:=.int _ _) rfl rfl (lb rfl) Tryz.underlying3 ag3 ti3 (by decide) (svR rfl) rfl (nle rfl) rfl) <|aA rfl (aP rfl rfl (lb rfl) (svI rfl) (sv (d:=.int _ 0) rfl) rfl hx1) <|aA rfl (mvB rfl rfl rfl rfl) <|aC rfl rfl (.one rfl) rfl (by decide) (fun hb=>(faR 0 rfl rfl rfl Tryz.underlying40 rfl ti3 (lb rfl) rfl rfl)) <|aC rfl rfl (.one rfl) rfl (by decide) (fun hb=>(aF (d:=.int _ _) rfl rfl (lb rfl) Tryz.underlying3 ag3 ti3 (by decide) (svcR rfl hb) rfl (nle rfl) rfl)) <|aC rfl rfl (.one rfl) rfl (by decide) (fun hb=>(aP rfl rfl (lb rfl) (svcI rfl hb) (sv (d:=.int _ 1099511627776) rfl) rfl hx2)) <|aA rfl (cQ rfl rfl (lb rfl) (svB rfl) rfl rfl hx3) <|aA rfl (mvB rfl rfl rfl rfl) <|aC rfl rfl (.one rfl) rfl (by decide) (fun hb=>(faR 1 rfl rfl rfl Tryz.underlying40 rfl ti9 (lb rfl) rfl rfl)) <|aC rfl rfl (.one rfl) rfl (by decide) (fun hb=>(aF (d:=.str _) rfl rfl (lb rfl) Tryz.underlying9 ag9 ti9 (by decide) (svcR rfl hb) rfl (nle rfl) rfl)) <|aC rfl rfl (.one rfl) rfl (by decide) (fun hb=>(cT rfl rfl (lb rfl) Tryz.underlying9 (svc (d:=.str _) rfl hb) rfl)) <|aC rfl rfl (.one rfl) rfl (by decide) (fun hb=>(faR 0 rfl rfl rfl Tryz.underlying40 rfl ti3 (lb rfl) rfl rfl)) <|aC rfl rfl (.one rfl) rfl (by decide) (fun hb=>(aF (d:=.int _ _) rfl rfl (lb rfl) Tryz.underlying3 ag3 ti3 (by decide) (svcR rfl hb) rfl (nle rfl) rfl)) <|aC rfl rfl (.one rfl) rfl (by decide) (fun hb=>(jD rfl rfl (lb rfl) (svcI rfl hb) (sv (d:=.int _ 4096) rfl) hx4)) <|aC rfl rfl (.one rfl) rfl (by decide) (fun hb=>(aP rfl rfl (lb rfl) (svcI rfl hb) (svcI rfl hb) rfl hx5)) <|aA rfl (cQ rfl rfl (lb rfl) (svB rfl) rfl rfl hx6) <|aD ?_)
 refine aV (b:=_) rfl (fun hc7=>?_) (fun hc7=>?_)
 ·
  replace h:=cD h hc7
  refine aE (aA rfl (aH rfl rfl (lb rfl) (sv (d:=.int _ 8) rfl)) <|aD ?_)
  refine aT ?_
  refine bI ?_
  obtain rfl:=Option.some.inj h
  refine ⟨.inr rfl,(.cons (sv rfl) .nil)⟩
 ·
  replace h:=cE h hc7
  refine aY ?_
  refine aS ?_
  obtain ⟨x8,hx8,h⟩:=bF h
  refine dD rfl [⟨[1],[],[(24,.ref 0 0)],[]⟩,
   ⟨[24],[0],[(25,.int .i64 a0.Base)],[]⟩,
   ⟨[1],[0],[(26,.agg (v5 a0))],[]⟩,
   ⟨[26],[],[(27,.int .i64 x8)],[]⟩,
   ⟨[25],[],[(3,.int .i64 a0.Base)],[]⟩,
   ⟨[27],[],[(4,.int .i64 x8)],[]⟩] rfl ?_ (by kernel_rfl) ?_
  ·refine .cons (lop rfl rfl fun S hA=>(aI rfl rfl (lb rfl) Tryz.underlying40 rfl ti3 (by decide) (svaR hA rfl rfl) (off':=0) rfl)) ?_
   refine .cons (lop rfl rfl fun S hA=>(aF (d:=.int _ _) rfl rfl (lb rfl) Tryz.underlying3 ag3 ti3 (by decide) (svaR hA rfl rfl) (agi hA rfl rfl) (nle rfl) rfl)) ?_
   refine .cons (lop rfl rfl fun S hA=>(bK (cs:=q23) rfl rfl (lb rfl) Tryz.underlying40 ag40 ti40 (by decide) (svaR hA rfl rfl) (agi hA rfl rfl) (nle rfl) rfl)) ?_
   refine .cons (lop rfl rfl fun S hA=>(aU (r:=.int _ _) rfl rfl (lb rfl) cl147 (.cons (svaA q23 hA rfl rfl) .nil) rfl (pZ _ _ hx8))) ?_
   refine .cons (lop rfl rfl fun S hA=>(aH rfl rfl (lb rfl) (svaI hA rfl rfl))) ?_
   refine .cons (lop rfl rfl fun S hA=>(aH rfl rfl (lb rfl) (svaI hA rfl rfl))) ?_
   exact .nil
  refine bC ?_
  refine aE (aA rfl (faR 2 rfl rfl rfl Tryz.underlying40 rfl ti38 (lb rfl) rfl rfl) <|aA rfl (lrL la38 rfl rfl rfl rfl rfl (nle rfl) rfl) <|aA rfl (dL aL (l:=a0.Parts) rfl rfl (lb rfl) Tryz.underlying38 (svL rfl)) <|aA rfl (aM rfl rfl (lb rfl) (sv (d:=.int _ 0) rfl)) <|aD ?_)
  refine bZ ?_
  refine dW (α:=Nat × Int × Int) (fun z=>⟨[(3,.int .i64 z.2.1),(4,.int .i64 x8),(29,.slice false (a0.Parts.map aL.d)),(30,.int .i64 (a0.Parts.length : Int)),(31,.int .i64 z.2.2)],[]⟩) (fun z=>fR a0 x8 z.1 z.2.1 z.2.2 = some r) (fun z=>z.1) (fuel,a0.Base,0) (fun i=>i) ⟨(.sames rfl rfl),.nil,cK [] rfl (by decide),fun _ _=>rfl⟩ ?_ ?_
  ·exact h
  ·
   rintro ⟨n0,v23,v24⟩ h
   cases n0 with
   | zero=>exact absurd h (by unfold fR; exact nofun)
   | succ n0 =>
    unfold fR at h
    obtain ⟨x39,hx39,h⟩:=aQ h
    refine aE (aA rfl (aP rfl rfl (lb rfl) (svI rfl) (svI rfl) rfl hx39) <|aD ?_)
    refine bC ?_
    refine aV (b:=_) rfl (fun hc40=>?_) (fun hc40=>?_)
    ·
     replace h:=cD h hc40
     refine aY ?_
     refine aS ?_
     refine bC ?_
     refine bZ ?_
     obtain ⟨x41,hx41,h⟩:=bF h
     refine aE (aA rfl (dY aL (cs:=q29) rfl rfl (lb rfl) Tryz.underlying38 fN (svL rfl) (svI rfl) hx41 rfl rfl) <|aA rfl (dE (cs:=q29) rfl rfl (lb rfl) Tryz.underlying228 qN fN (by decide) (sv (d:=.fptr q29) rfl) (nle rfl) rfl) <|aA rfl (bD (cs:=q29) (cs':=[.int .i64 0,.str []]) 0 rfl rfl (lb rfl) rfl fN rfl rfl (.all _)) <|aA rfl (stA q29 q29 fN rfl rfl rfl rfl rfl rfl rfl rfl (nle rfl) rfl) <|aD ?_)
     refine bC ?_
     obtain ⟨x42,hx42,h⟩:=aQ h
     obtain ⟨x43,hx43,h⟩:=aQ h
     obtain ⟨x44,hx44,h⟩:=aQ h
     obtain ⟨x45,hx45,h⟩:=aQ h
     obtain ⟨x46,hx46,h⟩:=aQ h
     obtain ⟨x47,hx47,h⟩:=aQ h
     obtain ⟨x48,hx48,h⟩:=aQ h
     obtain ⟨x49,hx49,h⟩:=aQ h
     refine aE (aA rfl (faR 0 rfl rfl rfl Tryz.underlying228 rfl ti3 (lb rfl) rfl rfl) <|aA rfl (aF (d:=.int _ _) rfl rfl (lb rfl) Tryz.underlying3 ag3 ti3 (by decide) (svR rfl) rfl (nle rfl) rfl) <|aA rfl (mvI rfl rfl rfl rfl) <|aA rfl (aP rfl rfl (lb rfl) (svI rfl) (svI rfl) rfl hx42) <|aA rfl (mvB rfl rfl rfl rfl) <|aC rfl rfl (.one rfl) rfl (by decide) (fun hb=>(faR 1 rfl rfl rfl Tryz.underlying228 rfl ti9 (lb rfl) rfl rfl)) <|aC rfl rfl (.one rfl) rfl (by decide) (fun hb=>(aF (d:=.str _) rfl rfl (lb rfl) Tryz.underlying9 ag9 ti9 (by decide) (svcR rfl hb) rfl (nle rfl) rfl)) <|aC rfl rfl (.one rfl) rfl (by decide) (fun hb=>(jC rfl rfl (lb rfl) (svc (d:=.str _) rfl hb) (sv (d:=.str []) rfl) rfl hx43)) <|aA rfl (cQ rfl rfl (lb rfl) (svB rfl) rfl rfl hx44) <|aA rfl (mvB rfl rfl rfl rfl) <|aC rfl rfl (.one rfl) rfl (by decide) (fun hb=>(faR 0 rfl rfl rfl Tryz.underlying228 rfl ti3 (lb rfl) rfl rfl)) <|aC rfl rfl (.one rfl) rfl (by decide) (fun hb=>(aF (d:=.int _ _) rfl rfl (lb rfl) Tryz.underlying3 ag3 ti3 (by decide) (svcR rfl hb) rfl (nle rfl) rfl)) <|aC rfl rfl (.one rfl) rfl (by decide) (fun hb=>(mvI rfl rfl rfl rfl)) <|aC rfl rfl (.one rfl) rfl (by decide) (fun hb=>(aP rfl rfl (lb rfl) (svcI rfl hb) (svcI rfl hb) rfl hx45)) <|aA rfl (cQ rfl rfl (lb rfl) (svB rfl) rfl rfl hx46) <|aA rfl (mvB rfl rfl rfl rfl) <|aC rfl rfl (.one rfl) rfl (by decide) (fun hb=>(faR 1 rfl rfl rfl Tryz.underlying228 rfl ti9 (lb rfl) rfl rfl)) <|aC rfl rfl (.one rfl) rfl (by decide) (fun hb=>(aF (d:=.str _) rfl rfl (lb rfl) Tryz.underlying9 ag9 ti9 (by decide) (svcR rfl hb) rfl (nle rfl) rfl)) <|aC rfl rfl (.one rfl) rfl (by decide) (fun hb=>(cT rfl rfl (lb rfl) Tryz.underlying9 (svc (d:=.str _) rfl hb) rfl)) <|aC rfl rfl (.one rfl) rfl (by decide) (fun hb=>(mvI rfl rfl rfl rfl)) <|aC rfl rfl (.one rfl) rfl (by decide) (fun hb=>(faR 0 rfl rfl rfl Tryz.underlying228 rfl ti3 (lb rfl) rfl rfl)) <|aC rfl rfl (.one rfl) rfl (by decide) (fun hb=>(aF (d:=.int _ _) rfl rfl (lb rfl) Tryz.underlying3 ag3 ti3 (by decide) (svcR rfl hb) rfl (nle rfl) rfl)) <|aC rfl rfl (.one rfl) rfl (by decide) (fun hb=>(bM rfl rfl (lb rfl) (svcI rfl hb) (svcI rfl hb) rfl hx47)) <|aC rfl rfl (.one rfl) rfl (by decide) (fun hb=>(aP rfl rfl (lb rfl) (svcI rfl hb) (svcI rfl hb) rfl hx48)) <|aA rfl (cQ rfl rfl (lb rfl) (svB rfl) rfl rfl hx49) <|aD ?_)
     refine aV (b:=_) rfl (fun hc50=>?_) (fun hc50=>?_)
     ·
      replace h:=cD h hc50
      refine aE (aA rfl (aH rfl rfl (lb rfl) (sv (d:=.int _ 10) rfl)) <|aD ?_)
      refine aT ?_
      refine bI ?_
      refine cS ?_
      refine bI ?_
      refine bI ?_
      refine cS ?_
      refine bI ?_
      obtain rfl:=Option.some.inj h
      refine ⟨.inr rfl,(.cons (sv rfl) .nil)⟩
     ·
      replace h:=cE h hc50
      refine aY ?_
      refine aS ?_
      obtain ⟨x51,hx51,h⟩:=bF h
      refine bO (aA rfl (lra q29 la228 rfl rfl rfl rfl rfl (nle rfl) rfl) <|aA rfl (aU (r:=.int _ _) rfl rfl (lb rfl) zY (.cons (svA q29 rfl) .nil) rfl (gE _ _ hx51)) <|aA rfl (asI rfl rfl rfl rfl) <|cL ?_)
      refine cO ?_
      refine aS ?_
      obtain ⟨x52,hx52,h⟩:=aQ h
      refine bO (aA rfl (bM rfl rfl (lb rfl) (svI rfl) (sv (d:=.int _ 1) rfl) rfl hx52) <|aA rfl (mvI rfl rfl rfl rfl) <|cL ?_)
      refine aS ⟨(n0,x51,x52),(fun i=>i),⟨(.sames rfl rfl),.nil,cK [] rfl (by decide),fun _ _=>rfl⟩,?_,?_⟩
      exact h
      exact Nat.lt_succ_self _
    ·
     replace h:=cE h hc40
     refine eE ?_
     refine cU ?_
     refine cU ?_
     refine eG ?_
     refine aS ?_
     refine aE (aA rfl (aH rfl rfl (lb rfl) (sv (d:=.int _ 0) rfl)) <|aD ?_)
     refine aT ?_
     obtain rfl:=Option.some.inj h
     refine ⟨.inr rfl,(.cons (sv rfl) .nil)⟩

theorem pG (a0 : bV) (r : fI) (h : kS a0 = some r) : cF Tryz.prog 97 [.agg (v4 a0)] (.agg (v3 r)):=by
 refine bA (rs:=[.agg (v3 r)]) Tryz.func97 rfl Tryz.ntmps97 (nle rfl) rfl fun O hO=>?_
 show IWP _ _ _ _ ⟨[(0,.agg (v4 a0))],[]⟩ _
 unfold kS at h
 refine aE (aA rfl (bR (cs:=q19) 0 rfl rfl (lb rfl) rfl (svA q19 rfl) rfl rfl) <|aA rfl (bD (cs:=q22) (cs':=(w44 0 [] ([] : List aN) 0)) 1 rfl rfl (lb rfl) rfl zD rfl rfl (.k (.k (.cons (.nils _) (.all _))))) <|aD ?_)
 refine aE (aA rfl (faR 0 rfl rfl rfl Tryz.underlying42 rfl ti40 (lb rfl) rfl rfl) <|aA rfl (lra q23 la40 rfl rfl rfl rfl rfl (nle rfl) rfl) <|aA rfl (faR 3 rfl rfl rfl Tryz.underlying42 rfl ti3 (lb rfl) rfl rfl) <|aA rfl (aF (d:=.int _ _) rfl rfl (lb rfl) Tryz.underlying3 ag3 ti3 (by decide) (svR rfl) rfl (nle rfl) rfl) <|aA rfl (bS (cs:=q19) rfl rfl (lb rfl) Tryz.underlying173 zD pl173 rfl (.cons (svA q23 rfl) (.cons (svI rfl) .nil)) rfl) <|aA rfl (stA q19 q19 zD rfl rfl rfl rfl rfl rfl rfl rfl (nle rfl) rfl) <|aD ?_)
 refine aT ?_
 obtain rfl:=Option.some.inj h
 refine ⟨.inr rfl,(.cons (rva aBZ rfl rfl (nle rfl) rfl) .nil)⟩

theorem mB (a0 : fI) (r : Int) (h : gD a0 = some r) : cF Tryz.prog 145 [.agg (v3 a0)] (.int .i64 r):=by
 refine bA (rs:=[.int .i64 r]) Tryz.func145 rfl Tryz.ntmps145 (nle rfl) rfl fun O hO=>?_
 show IWP _ _ _ _ ⟨[(0,.agg (v3 a0))],[]⟩ _
 unfold gD at h
 refine aE (aA rfl (bR (cs:=q19) 0 rfl rfl (lb rfl) rfl (svA q19 rfl) rfl rfl) <|aA rfl (aH rfl rfl (lb rfl) (sv (d:=.int _ 0) rfl)) <|aD ?_)
 refine bC ?_
 refine aE (aA rfl (faR 0 rfl rfl rfl Tryz.underlying173 rfl ti40 (lb rfl) rfl rfl) <|aA rfl (faR 2 rfl rfl rfl Tryz.underlying40 rfl ti38 (lb rfl) rfl rfl) <|aA rfl (lrL la38 rfl rfl rfl rfl rfl (nle rfl) rfl) <|aA rfl (dL aL (l:=a0.State.Parts) rfl rfl (lb rfl) Tryz.underlying38 (svL rfl)) <|aA rfl (asI rfl rfl rfl rfl) <|aD ?_)
 obtain ⟨x1,hx1,h⟩:=aQ h
 refine aE (aA rfl (mvI rfl rfl rfl rfl) <|aA rfl (aP rfl rfl (lb rfl) (svI rfl) (sv (d:=.int _ 0) rfl) rfl hx1) <|aD ?_)
 refine aV (b:=_) rfl (fun hc2=>?_) (fun hc2=>?_)
 ·
  replace h:=cD h hc2
  obtain ⟨x3,hx3,h⟩:=aQ h
  obtain ⟨x4,hx4,h⟩:=bF h
  obtain ⟨x5,hx5,h⟩:=aQ h
  obtain ⟨x6,hx6,h⟩:=bF h
  obtain ⟨x7,hx7,h⟩:=aQ h
  refine dD rfl [⟨[1],[],[(10,.ref 0 0)],[]⟩,
   ⟨[10],[],[(11,.ref 0 2)],[]⟩,
   ⟨[11],[0],[(12,.slice false (a0.State.Parts.map aL.d))],[]⟩,
   ⟨[3],[],[(13,.int .i64 (a0.State.Parts.length : Int))],[]⟩,
   ⟨[13],[],[(14,.int .i64 x3)],[]⟩,
   ⟨[12,14],[],[(15,.fptr [.int .i64 x4.At,.str x4.Data])],[]⟩,
   ⟨[15],[],[(16,.fptr [.int .i64 x4.At])],[]⟩,
   ⟨[16],[],[(17,.int .i64 x4.At)],[]⟩,
   ⟨[1],[],[(18,.ref 0 0)],[]⟩,
   ⟨[18],[],[(19,.ref 0 2)],[]⟩,
   ⟨[19],[0],[(20,.slice false (a0.State.Parts.map aL.d))],[]⟩,
   ⟨[3],[],[(21,.int .i64 (a0.State.Parts.length : Int))],[]⟩,
   ⟨[21],[],[(22,.int .i64 x5)],[]⟩,
   ⟨[20,22],[],[(23,.fptr [.int .i64 x6.At,.str x6.Data])],[]⟩,
   ⟨[23],[],[(24,.fptr [.str x6.Data])],[]⟩,
   ⟨[24],[],[(25,.str x6.Data)],[]⟩,
   ⟨[25],[],[(26,.int .i64 (x6.Data.length : Int))],[]⟩,
   ⟨[17,26],[],[(27,.int .i64 x7)],[]⟩,
   ⟨[27],[],[(2,.int .i64 x7)],[]⟩] rfl ?_ (by kernel_rfl) ?_
  ·refine .cons (lop rfl rfl fun S hA=>(aI rfl rfl (lb rfl) Tryz.underlying173 rfl ti40 (by decide) (svaR hA rfl rfl) (off':=0) rfl)) ?_
   refine .cons (lop rfl rfl fun S hA=>(aI rfl rfl (lb rfl) Tryz.underlying40 rfl ti38 (by decide) (svaR hA rfl rfl) (off':=2) rfl)) ?_
   refine .cons (lop rfl rfl fun S hA=>(aF (d:=.slice _ _) rfl rfl (lb rfl) Tryz.underlying38 ag38 ti38 (by decide) (svaR hA rfl rfl) (agi hA rfl rfl) (nle rfl) rfl)) ?_
   refine .cons (lop rfl rfl fun S hA=>(aM rfl rfl (lb rfl) (svaI hA rfl rfl))) ?_
   refine .cons (lop rfl rfl fun S hA=>(bM rfl rfl (lb rfl) (svaI hA rfl rfl) (sv (d:=.int _ 1) rfl) rfl hx3)) ?_
   refine .cons (lop rfl rfl fun S hA=>(dY aL (cs:=q29) rfl rfl (lb rfl) Tryz.underlying38 fN (svaL hA rfl rfl) (svaI hA rfl rfl) hx4 rfl rfl)) ?_
   refine .cons (lop rfl rfl fun S hA=>(bG (cs':=[.int _ _]) rfl rfl (lb rfl) Tryz.underlying228 rfl ti3 (by decide) (sv (d:=.fptr q29) (agr hA rfl rfl)) rfl)) ?_
   refine .cons (lop rfl rfl fun S hA=>(dA rfl rfl (lb rfl) Tryz.underlying3 ag3 ti3 (by decide) (sv (d:=.fptr [.int _ _]) (agr hA rfl rfl)) (nle rfl))) ?_
   refine .cons (lop rfl rfl fun S hA=>(aI rfl rfl (lb rfl) Tryz.underlying173 rfl ti40 (by decide) (svaR hA rfl rfl) (off':=0) rfl)) ?_
   refine .cons (lop rfl rfl fun S hA=>(aI rfl rfl (lb rfl) Tryz.underlying40 rfl ti38 (by decide) (svaR hA rfl rfl) (off':=2) rfl)) ?_
   refine .cons (lop rfl rfl fun S hA=>(aF (d:=.slice _ _) rfl rfl (lb rfl) Tryz.underlying38 ag38 ti38 (by decide) (svaR hA rfl rfl) (agi hA rfl rfl) (nle rfl) rfl)) ?_
   refine .cons (lop rfl rfl fun S hA=>(aM rfl rfl (lb rfl) (svaI hA rfl rfl))) ?_
   refine .cons (lop rfl rfl fun S hA=>(bM rfl rfl (lb rfl) (svaI hA rfl rfl) (sv (d:=.int _ 1) rfl) rfl hx5)) ?_
   refine .cons (lop rfl rfl fun S hA=>(dY aL (cs:=q29) rfl rfl (lb rfl) Tryz.underlying38 fN (svaL hA rfl rfl) (svaI hA rfl rfl) hx6 rfl rfl)) ?_
   refine .cons (lop rfl rfl fun S hA=>(bG (cs':=[.str _]) rfl rfl (lb rfl) Tryz.underlying228 rfl ti9 (by decide) (sv (d:=.fptr q29) (agr hA rfl rfl)) rfl)) ?_
   refine .cons (lop rfl rfl fun S hA=>(dA rfl rfl (lb rfl) Tryz.underlying9 ag9 ti9 (by decide) (sv (d:=.fptr [.str _]) (agr hA rfl rfl)) (nle rfl))) ?_
   refine .cons (lop rfl rfl fun S hA=>(cT rfl rfl (lb rfl) Tryz.underlying9 (sv (d:=.str _) (agr hA rfl rfl)) rfl)) ?_
   refine .cons (lop rfl rfl fun S hA=>(bM rfl rfl (lb rfl) (svaI hA rfl rfl) (svaI hA rfl rfl) rfl hx7)) ?_
   refine .cons (lop rfl rfl fun S hA=>(aH rfl rfl (lb rfl) (svaI hA rfl rfl))) ?_
   exact .nil
  refine aT ?_
  refine bI ?_
  obtain rfl:=Option.some.inj h
  refine ⟨.inr rfl,(.cons (sv rfl) .nil)⟩
 ·
  replace h:=cE h hc2
  refine aY ?_
  refine aS ?_
  refine aE (aA rfl (faR 0 rfl rfl rfl Tryz.underlying173 rfl ti40 (lb rfl) rfl rfl) <|aA rfl (faR 0 rfl rfl rfl Tryz.underlying40 rfl ti3 (lb rfl) rfl rfl) <|aA rfl (aF (d:=.int _ _) rfl rfl (lb rfl) Tryz.underlying3 ag3 ti3 (by decide) (svR rfl) rfl (nle rfl) rfl) <|aA rfl (asI rfl rfl rfl rfl) <|aD ?_)
  refine aT ?_
  obtain rfl:=Option.some.inj h
  refine ⟨.inr rfl,(.cons (sv rfl) .nil)⟩

theorem sU (a0 : bV) (r : Int) (h : mT a0 = some r) : cF Tryz.prog 118 [.agg (v4 a0)] (.int .i64 r):=by
 refine bA (rs:=[.int .i64 r]) Tryz.func118 rfl Tryz.ntmps118 (nle rfl) rfl fun O hO=>?_
 show IWP _ _ _ _ ⟨[(0,.agg (v4 a0))],[]⟩ _
 unfold mT at h
 refine aE (aA rfl (bR (cs:=q19) 0 rfl rfl (lb rfl) rfl (svA q19 rfl) rfl rfl) <|aA rfl (aH rfl rfl (lb rfl) (sv (d:=.int _ 0) rfl)) <|aD ?_)
 obtain ⟨x1,hx1,h⟩:=bF h
 obtain ⟨x2,hx2,h⟩:=bF h
 refine aE (aA rfl (lra q19 la42 rfl rfl rfl rfl rfl (nle rfl) rfl) <|aA rfl (aU (r:=.agg q19) rfl rfl (lb rfl) cl97 (.cons (svA q19 rfl) .nil) rfl (pG _ _ hx1)) <|aA rfl (aU (r:=.int _ _) rfl rfl (lb rfl) cl145 (.cons (svA q19 rfl) .nil) rfl (mB _ _ hx2)) <|aA rfl (asI rfl rfl rfl rfl) <|aD ?_)
 refine aT ?_
 obtain rfl:=Option.some.inj h
 refine ⟨.inr rfl,(.cons (sv rfl) .nil)⟩

theorem oG (a0 : bV) (r : Int) (h : jT a0 = some r) : cF Tryz.prog 96 [.agg (v4 a0)] (.int .i64 r):=by
 refine bA (rs:=[.int .i64 r]) Tryz.func96 rfl Tryz.ntmps96 (nle rfl) rfl fun O hO=>?_
 show IWP _ _ _ _ ⟨[(0,.agg (v4 a0))],[]⟩ _
 unfold jT at h
 refine aE (aA rfl (bR (cs:=q19) 0 rfl rfl (lb rfl) rfl (svA q19 rfl) rfl rfl) <|aA rfl (aH rfl rfl (lb rfl) (sv (d:=.int _ 0) rfl)) <|aD ?_)
 refine bC ?_
 obtain ⟨x1,hx1,h⟩:=bF h
 refine aE (aA rfl (faR 0 rfl rfl rfl Tryz.underlying42 rfl ti40 (lb rfl) rfl rfl) <|aA rfl (lra q23 la40 rfl rfl rfl rfl rfl (nle rfl) rfl) <|aA rfl (aU (r:=.int _ _) rfl rfl (lb rfl) cl143 (.cons (svA q23 rfl) .nil) rfl (nJ _ _ hx1)) <|aA rfl (asI rfl rfl rfl rfl) <|aD ?_)
 obtain ⟨x2,hx2,h⟩:=aQ h
 refine aE (aA rfl (mvI rfl rfl rfl rfl) <|aA rfl (aP rfl rfl (lb rfl) (svI rfl) (sv (d:=.int _ 0) rfl) rfl hx2) <|aD ?_)
 refine aV (b:=_) rfl (fun hc3=>?_) (fun hc3=>?_)
 ·
  replace h:=cD h hc3
  refine aE (aA rfl (mvI rfl rfl rfl rfl) <|aA rfl (asI rfl rfl rfl rfl) <|aD ?_)
  refine aT ?_
  refine bI ?_
  obtain rfl:=Option.some.inj h
  refine ⟨.inr rfl,(.cons (sv rfl) .nil)⟩
 ·
  replace h:=cE h hc3
  refine aY ?_
  refine aS ?_
  refine bC ?_
  obtain ⟨x4,hx4,h⟩:=aQ h
  obtain ⟨x5,hx5,h⟩:=bF h
  obtain ⟨x6,hx6,h⟩:=aQ h
  obtain ⟨x7,hx7,h⟩:=aQ h
  obtain ⟨x8,hx8,h⟩:=aQ h
  obtain ⟨x9,hx9,h⟩:=aQ h
  refine dD rfl [⟨[1],[],[(10,.ref 0 3)],[]⟩,
   ⟨[10],[0],[(11,.int .i64 a0.End)],[]⟩,
   ⟨[11],[],[(12,.bool x4)],[]⟩,
   ⟨[12],[],[(13,.bool x4)],[]⟩,
   ⟨[1,13],[],[(14,.cnd (x4 == true) (.ref 0 3))],[]⟩,
   ⟨[13,14],[0],[(15,.cnd (x4 == true) (.int .i64 a0.End))],[]⟩,
   ⟨[1,13],[0],[(16,.cnd (x4 == true) (.agg (v4 a0)))],[]⟩,
   ⟨[13,16],[],[(17,.cnd (x4 == true) (.int .i64 x5))],[]⟩,
   ⟨[13,15,17],[],[(18,.cnd (x4 == true) (.bool x6))],[]⟩,
   ⟨[13,18],[],[(19,.cnd (x4 == true) (.bool x6))],[]⟩,
   ⟨[1,19],[],[(20,.cnd (((x4 == true) && (x6 == false))) (.ref 0 3))],[]⟩,
   ⟨[19,20],[0],[(21,.cnd (((x4 == true) && (x6 == false))) (.int .i64 a0.End))],[]⟩,
   ⟨[19,21],[],[(22,.cnd (((x4 == true) && (x6 == false))) (.bool x7))],[]⟩,
   ⟨[13,19,22],[],[(23,.cnd (x4 == true) (.bool x8))],[]⟩,
   ⟨[13,23],[],[(24,.bool x9)],[]⟩] rfl ?_ (by kernel_rfl) ?_
  ·refine .cons (lop rfl rfl fun S hA=>(aI rfl rfl (lb rfl) Tryz.underlying42 rfl ti3 (by decide) (svaR hA rfl rfl) (off':=3) rfl)) ?_
   refine .cons (lop rfl rfl fun S hA=>(aF (d:=.int _ _) rfl rfl (lb rfl) Tryz.underlying3 ag3 ti3 (by decide) (svaR hA rfl rfl) (agi hA rfl rfl) (nle rfl) rfl)) ?_
   refine .cons (lop rfl rfl fun S hA=>(aP rfl rfl (lb rfl) (svaI hA rfl rfl) (sv (d:=.int _ (-1)) rfl) rfl hx4)) ?_
   refine .cons (lop rfl rfl fun S hA=>(aM rfl rfl (lb rfl) (svaB hA rfl rfl))) ?_
   refine .cons (lopg rfl rfl rfl rfl (by decide) (fun S hA=>grd1 hA rfl rfl) (fun S hA hb=>(aI rfl rfl (lb rfl) Tryz.underlying42 rfl ti3 (by decide) (svaR hA rfl rfl) (off':=3) rfl))) ?_
   refine .cons (lopg rfl rfl rfl rfl (by decide) (fun S hA=>grd1 hA rfl rfl) (fun S hA hb=>(aF (d:=.int _ _) rfl rfl (lb rfl) Tryz.underlying3 ag3 ti3 (by decide) (svc (d:=.ref _ _) (agr hA rfl rfl) hb) (agi hA rfl rfl) (nle rfl) rfl))) ?_
   refine .cons (lopg rfl rfl rfl rfl (by decide) (fun S hA=>grd1 hA rfl rfl) (fun S hA hb=>(bK (cs:=q19) rfl rfl (lb rfl) Tryz.underlying42 ag42 ti42 (by decide) (svaR hA rfl rfl) (agi hA rfl rfl) (nle rfl) rfl))) ?_
   refine .cons (lopg rfl rfl rfl rfl (by decide) (fun S hA=>grd1 hA rfl rfl) (fun S hA hb=>(aU (r:=.int _ _) rfl rfl (lb rfl) cl118 (.cons (svc (d:=.agg (v4 a0)) (agr hA rfl rfl) hb) .nil) rfl (sU _ _ (gd_t hx5 hb))))) ?_
   refine .cons (lopg rfl rfl rfl rfl (by decide) (fun S hA=>grd1 hA rfl rfl) (fun S hA hb=>(aP rfl rfl (lb rfl) (svc (d:=.int _ _) (agr hA rfl rfl) hb) (svc (d:=.int _ _) (agr hA rfl rfl) hb) rfl hx6))) ?_
   refine .cons (lopg rfl rfl rfl rfl (by decide) (fun S hA=>grd1 hA rfl rfl) (fun S hA hb=>(aM rfl rfl (lb rfl) (svc (d:=.bool _) (agr hA rfl rfl) hb)))) ?_
   refine .cons (lopg rfl rfl rfl rfl (by decide) (fun S hA=>grd2 hA rfl rfl) (fun S hA hb=>(aI rfl rfl (lb rfl) Tryz.underlying42 rfl ti3 (by decide) (svaR hA rfl rfl) (off':=3) rfl))) ?_
   refine .cons (lopg rfl rfl rfl rfl (by decide) (fun S hA=>grd2 hA rfl rfl) (fun S hA hb=>(aF (d:=.int _ _) rfl rfl (lb rfl) Tryz.underlying3 ag3 ti3 (by decide) (svc (d:=.ref _ _) (agr hA rfl rfl) hb) (agi hA rfl rfl) (nle rfl) rfl))) ?_
   refine .cons (lopg rfl rfl rfl rfl (by decide) (fun S hA=>grd2 hA rfl rfl) (fun S hA hb=>(aP rfl rfl (lb rfl) (svc (d:=.int _ _) (agr hA rfl rfl) hb) (sv (d:=.int _ 1099511627776) rfl) rfl hx7))) ?_
   refine .cons (lopg rfl rfl rfl rfl (by decide) (fun S hA=>grd1 hA rfl rfl) (fun S hA hb=>(vC rfl rfl (lb rfl) hb (svc (d:=.bool _) (agr hA rfl rfl) hb) rfl (agr hA rfl rfl) hx8))) ?_
   refine .cons (lop rfl rfl fun S hA=>(bT rfl rfl (lb rfl) (svaB hA rfl rfl) (agr hA rfl rfl) rfl hx9)) ?_
   exact .nil
  refine aV (b:=_) rfl (fun hc10=>?_) (fun hc10=>?_)
  ·
   replace h:=cD h hc10
   refine aE (aA rfl (aH rfl rfl (lb rfl) (sv (d:=.int _ 8) rfl)) <|aD ?_)
   refine aT ?_
   refine bI ?_
   obtain rfl:=Option.some.inj h
   refine ⟨.inr rfl,(.cons (sv rfl) .nil)⟩
  ·
   replace h:=cE h hc10
   refine aY ?_
   refine aS ?_
   refine aE (aA rfl (aH rfl rfl (lb rfl) (sv (d:=.int _ 0) rfl)) <|aD ?_)
   refine aT ?_
   obtain rfl:=Option.some.inj h
   refine ⟨.inr rfl,(.cons (sv rfl) .nil)⟩

theorem pV (a0 : aR) (r : Int) (h : jI a0 = some r) : cF Tryz.prog 63 [.agg (v1 a0)] (.int .i64 r):=by
 refine bA (rs:=[.int .i64 r]) Tryz.func63 rfl Tryz.ntmps63 (nle rfl) rfl fun O hO=>?_
 show IWP _ _ _ _ ⟨[(0,.agg (v1 a0))],[]⟩ _
 unfold jI at h
 refine aE (aA rfl (bR (cs:=q13) 0 rfl rfl (lb rfl) rfl (svA q13 rfl) rfl rfl) <|aA rfl (aH rfl rfl (lb rfl) (sv (d:=.int _ 0) rfl)) <|aD ?_)
 refine bC ?_
 obtain ⟨x1,hx1,h⟩:=bF h
 refine aE (aA rfl (faR 14 rfl rfl rfl Tryz.underlying46 rfl ti44 (lb rfl) rfl rfl) <|aA rfl (lra q18 la44 rfl rfl rfl rfl rfl (nle rfl) rfl) <|aA rfl (aU (r:=.int _ _) rfl rfl (lb rfl) cl95 (.cons (svA q18 rfl) .nil) rfl (gV _ _ hx1)) <|aA rfl (asI rfl rfl rfl rfl) <|aD ?_)
 obtain ⟨x2,hx2,h⟩:=aQ h
 refine aE (aA rfl (mvI rfl rfl rfl rfl) <|aA rfl (aP rfl rfl (lb rfl) (svI rfl) (sv (d:=.int _ 0) rfl) rfl hx2) <|aD ?_)
 refine aV (b:=_) rfl (fun hc3=>?_) (fun hc3=>?_)
 ·
  replace h:=cD h hc3
  refine aE (aA rfl (mvI rfl rfl rfl rfl) <|aA rfl (asI rfl rfl rfl rfl) <|aD ?_)
  refine aT ?_
  refine bI ?_
  obtain rfl:=Option.some.inj h
  refine ⟨.inr rfl,(.cons (sv rfl) .nil)⟩
 ·
  replace h:=cE h hc3
  refine aY ?_
  refine aS ?_
  refine bC ?_
  obtain ⟨x4,hx4,h⟩:=bF h
  refine aE (aA rfl (faR 18 rfl rfl rfl Tryz.underlying46 rfl ti44 (lb rfl) rfl rfl) <|aA rfl (lra q18 la44 rfl rfl rfl rfl rfl (nle rfl) rfl) <|aA rfl (aU (r:=.int _ _) rfl rfl (lb rfl) cl95 (.cons (svA q18 rfl) .nil) rfl (gV _ _ hx4)) <|aA rfl (asI rfl rfl rfl rfl) <|aD ?_)
  obtain ⟨x5,hx5,h⟩:=aQ h
  refine aE (aA rfl (mvI rfl rfl rfl rfl) <|aA rfl (aP rfl rfl (lb rfl) (svI rfl) (sv (d:=.int _ 0) rfl) rfl hx5) <|aD ?_)
  refine aV (b:=_) rfl (fun hc6=>?_) (fun hc6=>?_)
  ·
   replace h:=cD h hc6
   refine aE (aA rfl (mvI rfl rfl rfl rfl) <|aA rfl (asI rfl rfl rfl rfl) <|aD ?_)
   refine aT ?_
   refine bI ?_
   obtain rfl:=Option.some.inj h
   refine ⟨.inr rfl,(.cons (sv rfl) .nil)⟩
  ·
   replace h:=cE h hc6
   refine aY ?_
   refine aS ?_
   refine bC ?_
   obtain ⟨x7,hx7,h⟩:=bF h
   refine aE (aA rfl (faR 1 rfl rfl rfl Tryz.underlying46 rfl ti37 (lb rfl) rfl rfl) <|aA rfl (lra q15 la37 rfl rfl rfl rfl rfl (nle rfl) rfl) <|aA rfl (aU (r:=.int _ _) rfl rfl (lb rfl) yG (.cons (svA q15 rfl) .nil) rfl (iU _ _ hx7)) <|aA rfl (asI rfl rfl rfl rfl) <|aD ?_)
   obtain ⟨x8,hx8,h⟩:=aQ h
   refine aE (aA rfl (mvI rfl rfl rfl rfl) <|aA rfl (aP rfl rfl (lb rfl) (svI rfl) (sv (d:=.int _ 0) rfl) rfl hx8) <|aD ?_)
   refine aV (b:=_) rfl (fun hc9=>?_) (fun hc9=>?_)
   ·
    replace h:=cD h hc9
    refine aE (aA rfl (mvI rfl rfl rfl rfl) <|aA rfl (asI rfl rfl rfl rfl) <|aD ?_)
    refine aT ?_
    refine bI ?_
    obtain rfl:=Option.some.inj h
    refine ⟨.inr rfl,(.cons (sv rfl) .nil)⟩
   ·
    replace h:=cE h hc9
    refine aY ?_
    refine aS ?_
    obtain ⟨x10,hx10,h⟩:=bF h
    refine aE (aA rfl (faR 10 rfl rfl rfl Tryz.underlying46 rfl ti42 (lb rfl) rfl rfl) <|aA rfl (lra q19 la42 rfl rfl rfl rfl rfl (nle rfl) rfl) <|aA rfl (aU (r:=.int _ _) rfl rfl (lb rfl) cl96 (.cons (svA q19 rfl) .nil) rfl (oG _ _ hx10)) <|aA rfl (asI rfl rfl rfl rfl) <|aD ?_)
    refine aT ?_
    obtain rfl:=Option.some.inj h
    refine ⟨.inr rfl,(.cons (sv rfl) .nil)⟩

theorem pW (a0 : aR) (r : Bool) (h : jJ a0 = some r) : cF Tryz.prog 64 [.agg (v1 a0)] (.bool r):=by
 refine bA (rs:=[.bool r]) Tryz.func64 rfl Tryz.ntmps64 (nle rfl) rfl fun O hO=>?_
 show IWP _ _ _ _ ⟨[(0,.agg (v1 a0))],[]⟩ _
 unfold jJ at h
 refine aE (aA rfl (bR (cs:=q13) 0 rfl rfl (lb rfl) rfl (svA q13 rfl) rfl rfl) <|aA rfl (aH rfl rfl (lb rfl) (sv (d:=.bool false) rfl)) <|aD ?_)
 obtain ⟨x1,hx1,h⟩:=bF h
 obtain ⟨x2,hx2,h⟩:=aQ h
 refine dD rfl [⟨[1],[],[(5,.ref 0 10)],[]⟩,
  ⟨[5],[],[(6,.ref 0 13)],[]⟩,
  ⟨[6],[0],[(7,.int .i64 a0.Recv.End)],[]⟩,
  ⟨[1],[],[(8,.ref 0 10)],[]⟩,
  ⟨[8],[0],[(9,.agg (v4 a0.Recv))],[]⟩,
  ⟨[9],[],[(10,.int .i64 x1)],[]⟩,
  ⟨[7,10],[],[(11,.int .i64 x2)],[]⟩,
  ⟨[11],[],[(3,.int .i64 x2)],[]⟩] rfl ?_ (by kernel_rfl) ?_
 ·refine .cons (lop rfl rfl fun S hA=>(aI rfl rfl (lb rfl) Tryz.underlying46 rfl ti42 (by decide) (svaR hA rfl rfl) (off':=10) rfl)) ?_
  refine .cons (lop rfl rfl fun S hA=>(aI rfl rfl (lb rfl) Tryz.underlying42 rfl ti3 (by decide) (svaR hA rfl rfl) (off':=13) rfl)) ?_
  refine .cons (lop rfl rfl fun S hA=>(aF (d:=.int _ _) rfl rfl (lb rfl) Tryz.underlying3 ag3 ti3 (by decide) (svaR hA rfl rfl) (agi hA rfl rfl) (nle rfl) rfl)) ?_
  refine .cons (lop rfl rfl fun S hA=>(aI rfl rfl (lb rfl) Tryz.underlying46 rfl ti42 (by decide) (svaR hA rfl rfl) (off':=10) rfl)) ?_
  refine .cons (lop rfl rfl fun S hA=>(bK (cs:=q19) rfl rfl (lb rfl) Tryz.underlying42 ag42 ti42 (by decide) (svaR hA rfl rfl) (agi hA rfl rfl) (nle rfl) rfl)) ?_
  refine .cons (lop rfl rfl fun S hA=>(aU (r:=.int _ _) rfl rfl (lb rfl) cl118 (.cons (svaA q19 hA rfl rfl) .nil) rfl (sU _ _ hx1))) ?_
  refine .cons (lop rfl rfl fun S hA=>(kO rfl rfl (lb rfl) (svaI hA rfl rfl) (svaI hA rfl rfl) hx2)) ?_
  refine .cons (lop rfl rfl fun S hA=>(aH rfl rfl (lb rfl) (svaI hA rfl rfl))) ?_
  exact .nil
 obtain ⟨x3,hx3,h⟩:=aQ h
 refine aE (aA rfl (faR 10 rfl rfl rfl Tryz.underlying46 rfl ti42 (lb rfl) rfl rfl) <|aA rfl (faR 10 rfl rfl rfl Tryz.underlying42 rfl ti40 (lb rfl) rfl rfl) <|aA rfl (faR 10 rfl rfl rfl Tryz.underlying40 rfl ti3 (lb rfl) rfl rfl) <|aA rfl (aF (d:=.int _ _) rfl rfl (lb rfl) Tryz.underlying3 ag3 ti3 (by decide) (svR rfl) rfl (nle rfl) rfl) <|aA rfl (faR 10 rfl rfl rfl Tryz.underlying46 rfl ti42 (lb rfl) rfl rfl) <|aA rfl (faR 10 rfl rfl rfl Tryz.underlying42 rfl ti40 (lb rfl) rfl rfl) <|aA rfl (faR 11 rfl rfl rfl Tryz.underlying40 rfl ti9 (lb rfl) rfl rfl) <|aA rfl (aF (d:=.str _) rfl rfl (lb rfl) Tryz.underlying9 ag9 ti9 (by decide) (svR rfl) rfl (nle rfl) rfl) <|aA rfl (cT rfl rfl (lb rfl) Tryz.underlying9 (sv (d:=.str _) rfl) rfl) <|aA rfl (bM rfl rfl (lb rfl) (svI rfl) (svI rfl) rfl hx3) <|aA rfl (asI rfl rfl rfl rfl) <|aD ?_)
 obtain ⟨x4,hx4,h⟩:=aQ h
 obtain ⟨x5,hx5,h⟩:=aQ h
 obtain ⟨x6,hx6,h⟩:=aQ h
 obtain ⟨x7,hx7,h⟩:=aQ h
 obtain ⟨x8,hx8,h⟩:=aQ h
 obtain ⟨x9,hx9,h⟩:=aQ h
 obtain ⟨x10,hx10,h⟩:=aQ h
 obtain ⟨x11,hx11,h⟩:=aQ h
 refine aE (aA rfl (faR 14 rfl rfl rfl Tryz.underlying46 rfl ti44 (lb rfl) rfl rfl) <|aA rfl (faR 16 rfl rfl rfl Tryz.underlying44 rfl ti3 (lb rfl) rfl rfl) <|aA rfl (aF (d:=.int _ _) rfl rfl (lb rfl) Tryz.underlying3 ag3 ti3 (by decide) (svR rfl) rfl (nle rfl) rfl) <|aA rfl (faR 1 rfl rfl rfl Tryz.underlying46 rfl ti37 (lb rfl) rfl rfl) <|aA rfl (faR 3 rfl rfl rfl Tryz.underlying37 rfl ti3 (lb rfl) rfl rfl) <|aA rfl (aF (d:=.int _ _) rfl rfl (lb rfl) Tryz.underlying3 ag3 ti3 (by decide) (svR rfl) rfl (nle rfl) rfl) <|aA rfl (aP rfl rfl (lb rfl) (svI rfl) (svI rfl) rfl hx4) <|aA rfl (mvB rfl rfl rfl rfl) <|aC rfl rfl (.one rfl) rfl (by decide) (fun hb=>(faR 18 rfl rfl rfl Tryz.underlying46 rfl ti44 (lb rfl) rfl rfl)) <|aC rfl rfl (.one rfl) rfl (by decide) (fun hb=>(aI rfl rfl (lb rfl) Tryz.underlying44 rfl ti3 (by decide) (svcR rfl hb) (off':=20) rfl)) <|aC rfl rfl (.one rfl) rfl (by decide) (fun hb=>(aF (d:=.int _ _) rfl rfl (lb rfl) Tryz.underlying3 ag3 ti3 (by decide) (svcR rfl hb) rfl (nle rfl) rfl)) <|aC rfl rfl (.one rfl) rfl (by decide) (fun hb=>(mvI rfl rfl rfl rfl)) <|aC rfl rfl (.one rfl) rfl (by decide) (fun hb=>(aP rfl rfl (lb rfl) (svcI rfl hb) (svcI rfl hb) rfl hx5)) <|aA rfl (bT rfl rfl (lb rfl) (svB rfl) rfl rfl hx6) <|aA rfl (mvB rfl rfl rfl rfl) <|aC rfl rfl (.one rfl) rfl (by decide) (fun hb=>(faR 18 rfl rfl rfl Tryz.underlying46 rfl ti44 (lb rfl) rfl rfl)) <|aC rfl rfl (.one rfl) rfl (by decide) (fun hb=>(aI rfl rfl (lb rfl) Tryz.underlying44 rfl ti3 (by decide) (svcR rfl hb) (off':=21) rfl)) <|aC rfl rfl (.one rfl) rfl (by decide) (fun hb=>(aF (d:=.int _ _) rfl rfl (lb rfl) Tryz.underlying3 ag3 ti3 (by decide) (svcR rfl hb) rfl (nle rfl) rfl)) <|aC rfl rfl (.one rfl) rfl (by decide) (fun hb=>(mvI rfl rfl rfl rfl)) <|aC rfl rfl (.one rfl) rfl (by decide) (fun hb=>(aP rfl rfl (lb rfl) (svcI rfl hb) (svcI rfl hb) rfl hx7)) <|aA rfl (bT rfl rfl (lb rfl) (svB rfl) rfl rfl hx8) <|aA rfl (mvB rfl rfl rfl rfl) <|aC rfl rfl (.one rfl) rfl (by decide) (fun hb=>(faR 18 rfl rfl rfl Tryz.underlying46 rfl ti44 (lb rfl) rfl rfl)) <|aC rfl rfl (.one rfl) rfl (by decide) (fun hb=>(aI rfl rfl (lb rfl) Tryz.underlying44 rfl ti3 (by decide) (svcR rfl hb) (off':=19) rfl)) <|aC rfl rfl (.one rfl) rfl (by decide) (fun hb=>(aF (d:=.int _ _) rfl rfl (lb rfl) Tryz.underlying3 ag3 ti3 (by decide) (svcR rfl hb) rfl (nle rfl) rfl)) <|aC rfl rfl (.one rfl) rfl (by decide) (fun hb=>(mvI rfl rfl rfl rfl)) <|aC rfl rfl (.one rfl) rfl (by decide) (fun hb=>(faR 18 rfl rfl rfl Tryz.underlying46 rfl ti44 (lb rfl) rfl rfl)) <|aC rfl rfl (.one rfl) rfl (by decide) (fun hb=>(aI rfl rfl (lb rfl) Tryz.underlying44 rfl ti3 (by decide) (svcR rfl hb) (off':=18) rfl)) <|aC rfl rfl (.one rfl) rfl (by decide) (fun hb=>(aF (d:=.int _ _) rfl rfl (lb rfl) Tryz.underlying3 ag3 ti3 (by decide) (svcR rfl hb) rfl (nle rfl) rfl)) <|aC rfl rfl (.one rfl) rfl (by decide) (fun hb=>(bM rfl rfl (lb rfl) (svcI rfl hb) (svcI rfl hb) rfl hx9)) <|aC rfl rfl (.one rfl) rfl (by decide) (fun hb=>(aP rfl rfl (lb rfl) (svcI rfl hb) (svcI rfl hb) rfl hx10)) <|aA rfl (bT rfl rfl (lb rfl) (svB rfl) rfl rfl hx11) <|aA rfl (asB rfl rfl rfl rfl) <|aD ?_)
 refine aT ?_
 obtain rfl:=Option.some.inj h
 refine ⟨.inr rfl,(.cons (sv rfl) .nil)⟩

theorem jU (a0 : aR) (r : Int) (h : iI a0 = some r) : cF Tryz.prog 20 [.agg (v1 a0)] (.int .i64 r):=by
 refine bA (rs:=[.int .i64 r]) Tryz.func20 rfl Tryz.ntmps20 (nle rfl) rfl fun O hO=>?_
 show IWP _ _ _ _ ⟨[(0,.agg (v1 a0))],[]⟩ _
 unfold iI at h
 refine aE (aA rfl (bR (cs:=q13) 0 rfl rfl (lb rfl) rfl (svA q13 rfl) rfl rfl) <|aA rfl (aH rfl rfl (lb rfl) (sv (d:=.int _ 0) rfl)) <|aD ?_)
 refine bC ?_
 obtain ⟨x1,hx1,h⟩:=bF h
 obtain ⟨x2,hx2,h⟩:=bF h
 obtain ⟨x3,hx3,h⟩:=aQ h
 obtain ⟨x4,hx4,h⟩:=bF h
 obtain ⟨x5,hx5,h⟩:=aQ h
 obtain ⟨x6,hx6,h⟩:=aQ h
 obtain ⟨x7,hx7,h⟩:=aQ h
 refine aE (aA rfl (faR 0 rfl rfl rfl Tryz.underlying46 rfl ti3 (lb rfl) rfl rfl) <|aA rfl (aF (d:=.int _ _) rfl rfl (lb rfl) Tryz.underlying3 ag3 ti3 (by decide) (svR rfl) rfl (nle rfl) rfl) <|aA rfl (aU (r:=.bool _) rfl rfl (lb rfl) cl40 (.cons (svI rfl) (.cons (sv (d:=.int _ 0) rfl) (.cons (sv (d:=.int _ 1048576) rfl) .nil))) rfl (oD _ _ _ _ hx1)) <|aA rfl (dB rfl rfl (lb rfl) (svB rfl)) <|aA rfl (mvB rfl rfl rfl rfl) <|aC rfl rfl (.one rfl) rfl (by decide) (fun hb=>(faR 22 rfl rfl rfl Tryz.underlying46 rfl ti3 (lb rfl) rfl rfl)) <|aC rfl rfl (.one rfl) rfl (by decide) (fun hb=>(aF (d:=.int _ _) rfl rfl (lb rfl) Tryz.underlying3 ag3 ti3 (by decide) (svcR rfl hb) rfl (nle rfl) rfl)) <|aC rfl rfl (.one rfl) rfl (by decide) (fun hb=>(aU (r:=.bool _) rfl rfl (lb rfl) cl40 (.cons (svcI rfl hb) (.cons (sv (d:=.int _ (-1)) rfl) (.cons (sv (d:=.int _ 255) rfl) .nil))) rfl (oD _ _ _ _ (gd_t hx2 hb)))) <|aC rfl rfl (.one rfl) rfl (by decide) (fun hb=>(dB rfl rfl (lb rfl) (svcB rfl hb))) <|aA rfl (cQ rfl rfl (lb rfl) (svB rfl) rfl rfl hx3) <|aA rfl (mvB rfl rfl rfl rfl) <|aC rfl rfl (.one rfl) rfl (by decide) (fun hb=>(faR 23 rfl rfl rfl Tryz.underlying46 rfl ti3 (lb rfl) rfl rfl)) <|aC rfl rfl (.one rfl) rfl (by decide) (fun hb=>(aF (d:=.int _ _) rfl rfl (lb rfl) Tryz.underlying3 ag3 ti3 (by decide) (svcR rfl hb) rfl (nle rfl) rfl)) <|aC rfl rfl (.one rfl) rfl (by decide) (fun hb=>(aU (r:=.bool _) rfl rfl (lb rfl) cl40 (.cons (svcI rfl hb) (.cons (sv (d:=.int _ (-1)) rfl) (.cons (sv (d:=.int _ 255) rfl) .nil))) rfl (oD _ _ _ _ (gd_t hx4 hb)))) <|aC rfl rfl (.one rfl) rfl (by decide) (fun hb=>(dB rfl rfl (lb rfl) (svcB rfl hb))) <|aA rfl (cQ rfl rfl (lb rfl) (svB rfl) rfl rfl hx5) <|aA rfl (mvB rfl rfl rfl rfl) <|aC rfl rfl (.one rfl) rfl (by decide) (fun hb=>(faR 18 rfl rfl rfl Tryz.underlying46 rfl ti44 (lb rfl) rfl rfl)) <|aC rfl rfl (.one rfl) rfl (by decide) (fun hb=>(aI rfl rfl (lb rfl) Tryz.underlying44 rfl ti3 (by decide) (svcR rfl hb) (off':=18) rfl)) <|aC rfl rfl (.one rfl) rfl (by decide) (fun hb=>(aF (d:=.int _ _) rfl rfl (lb rfl) Tryz.underlying3 ag3 ti3 (by decide) (svcR rfl hb) rfl (nle rfl) rfl)) <|aC rfl rfl (.one rfl) rfl (by decide) (fun hb=>(aP rfl rfl (lb rfl) (svcI rfl hb) (sv (d:=.int _ 4096) rfl) rfl hx6)) <|aA rfl (cQ rfl rfl (lb rfl) (svB rfl) rfl rfl hx7) <|aD ?_)
 refine aV (b:=_) rfl (fun hc8=>?_) (fun hc8=>?_)
 ·
  replace h:=cD h hc8
  refine aE (aA rfl (aH rfl rfl (lb rfl) (sv (d:=.int _ 8) rfl)) <|aD ?_)
  refine aT ?_
  refine bI ?_
  obtain rfl:=Option.some.inj h
  refine ⟨.inr rfl,(.cons (sv rfl) .nil)⟩
 ·
  replace h:=cE h hc8
  refine aY ?_
  refine aS ?_
  refine bC ?_
  obtain ⟨x9,hx9,h⟩:=bF h
  refine aE (aA rfl (lra q13 la46 rfl rfl rfl rfl rfl (nle rfl) rfl) <|aA rfl (aU (r:=.int _ _) rfl rfl (lb rfl) cl63 (.cons (svA q13 rfl) .nil) rfl (pV _ _ hx9)) <|aA rfl (asI rfl rfl rfl rfl) <|aD ?_)
  obtain ⟨x10,hx10,h⟩:=aQ h
  refine aE (aA rfl (mvI rfl rfl rfl rfl) <|aA rfl (aP rfl rfl (lb rfl) (svI rfl) (sv (d:=.int _ 0) rfl) rfl hx10) <|aD ?_)
  refine aV (b:=_) rfl (fun hc11=>?_) (fun hc11=>?_)
  ·
   replace h:=cD h hc11
   refine aE (aA rfl (mvI rfl rfl rfl rfl) <|aA rfl (asI rfl rfl rfl rfl) <|aD ?_)
   refine aT ?_
   refine bI ?_
   obtain rfl:=Option.some.inj h
   refine ⟨.inr rfl,(.cons (sv rfl) .nil)⟩
  ·
   replace h:=cE h hc11
   refine aY ?_
   refine aS ?_
   refine bC ?_
   obtain ⟨x12,hx12,h⟩:=bF h
   refine aE (aA rfl (lra q13 la46 rfl rfl rfl rfl rfl (nle rfl) rfl) <|aA rfl (aU (r:=.bool _) rfl rfl (lb rfl) cl64 (.cons (svA q13 rfl) .nil) rfl (pW _ _ hx12)) <|aA rfl (dB rfl rfl (lb rfl) (svB rfl)) <|aD ?_)
   refine aV (b:=_) rfl (fun hc13=>?_) (fun hc13=>?_)
   ·
    replace h:=cD h hc13
    refine aE (aA rfl (aH rfl rfl (lb rfl) (sv (d:=.int _ 4) rfl)) <|aD ?_)
    refine aT ?_
    refine bI ?_
    obtain rfl:=Option.some.inj h
    refine ⟨.inr rfl,(.cons (sv rfl) .nil)⟩
   ·
    replace h:=cE h hc13
    refine aY ?_
    refine aS ?_
    refine aE (aA rfl (aH rfl rfl (lb rfl) (sv (d:=.int _ 0) rfl)) <|aD ?_)
    refine aT ?_
    obtain rfl:=Option.some.inj h
    refine ⟨.inr rfl,(.cons (sv rfl) .nil)⟩

theorem nO (a0 : aR) (r : Bool) (h : jE a0 = some r) : cF Tryz.prog 69 [.agg (v1 a0)] (.bool r):=by
 refine bA (rs:=[.bool r]) Tryz.func69 rfl Tryz.ntmps69 (nle rfl) rfl fun O hO=>?_
 show IWP _ _ _ _ ⟨[(0,.agg (v1 a0))],[]⟩ _
 unfold jE at h
 refine aE (aA rfl (bR (cs:=q13) 0 rfl rfl (lb rfl) rfl (svA q13 rfl) rfl rfl) <|aA rfl (aH rfl rfl (lb rfl) (sv (d:=.bool false) rfl)) <|aD ?_)
 obtain ⟨x1,hx1,h⟩:=aQ h
 obtain ⟨x2,hx2,h⟩:=aQ h
 obtain ⟨x3,hx3,h⟩:=aQ h
 refine aE (aA rfl (faR 22 rfl rfl rfl Tryz.underlying46 rfl ti3 (lb rfl) rfl rfl) <|aA rfl (aF (d:=.int _ _) rfl rfl (lb rfl) Tryz.underlying3 ag3 ti3 (by decide) (svR rfl) rfl (nle rfl) rfl) <|aA rfl (aP rfl rfl (lb rfl) (svI rfl) (sv (d:=.int _ (-1)) rfl) rfl hx1) <|aA rfl (mvB rfl rfl rfl rfl) <|aC rfl rfl (.one rfl) rfl (by decide) (fun hb=>(faR 23 rfl rfl rfl Tryz.underlying46 rfl ti3 (lb rfl) rfl rfl)) <|aC rfl rfl (.one rfl) rfl (by decide) (fun hb=>(aF (d:=.int _ _) rfl rfl (lb rfl) Tryz.underlying3 ag3 ti3 (by decide) (svcR rfl hb) rfl (nle rfl) rfl)) <|aC rfl rfl (.one rfl) rfl (by decide) (fun hb=>(aP rfl rfl (lb rfl) (svcI rfl hb) (sv (d:=.int _ (-1)) rfl) rfl hx2)) <|aA rfl (cQ rfl rfl (lb rfl) (svB rfl) rfl rfl hx3) <|aA rfl (asB rfl rfl rfl rfl) <|aD ?_)
 refine aT ?_
 obtain rfl:=Option.some.inj h
 refine ⟨.inr rfl,(.cons (sv rfl) .nil)⟩

theorem eY (a0 : aR) (r : Int) (h : eA a0 = some r) : cF Tryz.prog 39 [.agg (v1 a0)] (.int .i64 r):=by
 refine bA (rs:=[.int .i64 r]) Tryz.func39 rfl Tryz.ntmps39 (nle rfl) rfl fun O hO=>?_
 show IWP _ _ _ _ ⟨[(0,.agg (v1 a0))],[]⟩ _
 unfold eA at h
 refine aE (aA rfl (bR (cs:=q13) 0 rfl rfl (lb rfl) rfl (svA q13 rfl) rfl rfl) <|aA rfl (aH rfl rfl (lb rfl) (sv (d:=.int _ 0) rfl)) <|aD ?_)
 refine bC ?_
 obtain ⟨x1,hx1,h⟩:=bF h
 refine aE (aA rfl (lra q13 la46 rfl rfl rfl rfl rfl (nle rfl) rfl) <|aA rfl (aU (r:=.int _ _) rfl rfl (lb rfl) cl20 (.cons (svA q13 rfl) .nil) rfl (jU _ _ hx1)) <|aA rfl (asI rfl rfl rfl rfl) <|aD ?_)
 obtain ⟨x2,hx2,h⟩:=aQ h
 refine aE (aA rfl (mvI rfl rfl rfl rfl) <|aA rfl (aP rfl rfl (lb rfl) (svI rfl) (sv (d:=.int _ 0) rfl) rfl hx2) <|aD ?_)
 refine aV (b:=_) rfl (fun hc3=>?_) (fun hc3=>?_)
 ·
  replace h:=cD h hc3
  refine aE (aA rfl (mvI rfl rfl rfl rfl) <|aA rfl (asI rfl rfl rfl rfl) <|aD ?_)
  refine aT ?_
  refine bI ?_
  obtain rfl:=Option.some.inj h
  refine ⟨.inr rfl,(.cons (sv rfl) .nil)⟩
 ·
  replace h:=cE h hc3
  refine aY ?_
  refine aS ?_
  refine bC ?_
  obtain ⟨x4,hx4,h⟩:=bF h
  refine aE (aA rfl (lra q13 la46 rfl rfl rfl rfl rfl (nle rfl) rfl) <|aA rfl (aU (r:=.bool _) rfl rfl (lb rfl) cl69 (.cons (svA q13 rfl) .nil) rfl (nO _ _ hx4)) <|aD ?_)
  refine aV (b:=_) rfl (fun hc5=>?_) (fun hc5=>?_)
  ·
   replace h:=cD h hc5
   refine aE (aA rfl (aH rfl rfl (lb rfl) (sv (d:=.int _ 15) rfl)) <|aD ?_)
   refine aT ?_
   refine bI ?_
   obtain rfl:=Option.some.inj h
   refine ⟨.inr rfl,(.cons (sv rfl) .nil)⟩
  ·
   replace h:=cE h hc5
   refine aY ?_
   refine aS ?_
   refine aE (aA rfl (aH rfl rfl (lb rfl) (sv (d:=.int _ 0) rfl)) <|aD ?_)
   refine aT ?_
   obtain rfl:=Option.some.inj h
   refine ⟨.inr rfl,(.cons (sv rfl) .nil)⟩

theorem mU (a0 : aR) (r : Int) (h : gX a0 = some r) : cF Tryz.prog 82 [.agg (v1 a0)] (.int .i64 r):=by
 refine bA (rs:=[.int .i64 r]) Tryz.func82 rfl Tryz.ntmps82 (nle rfl) rfl fun O hO=>?_
 show IWP _ _ _ _ ⟨[(0,.agg (v1 a0))],[]⟩ _
 unfold gX at h
 refine aE (aA rfl (bR (cs:=q13) 0 rfl rfl (lb rfl) rfl (svA q13 rfl) rfl rfl) <|aA rfl (aH rfl rfl (lb rfl) (sv (d:=.int _ 0) rfl)) <|aD ?_)
 refine bC ?_
 obtain ⟨x1,hx1,h⟩:=bF h
 refine aE (aA rfl (lra q13 la46 rfl rfl rfl rfl rfl (nle rfl) rfl) <|aA rfl (aU (r:=.int _ _) rfl rfl (lb rfl) cl39 (.cons (svA q13 rfl) .nil) rfl (eY _ _ hx1)) <|aA rfl (asI rfl rfl rfl rfl) <|aD ?_)
 obtain ⟨x2,hx2,h⟩:=aQ h
 refine aE (aA rfl (mvI rfl rfl rfl rfl) <|aA rfl (aP rfl rfl (lb rfl) (svI rfl) (sv (d:=.int _ 0) rfl) rfl hx2) <|aD ?_)
 refine aV (b:=_) rfl (fun hc3=>?_) (fun hc3=>?_)
 ·
  replace h:=cD h hc3
  refine aE (aA rfl (mvI rfl rfl rfl rfl) <|aA rfl (asI rfl rfl rfl rfl) <|aD ?_)
  refine aT ?_
  refine bI ?_
  obtain rfl:=Option.some.inj h
  refine ⟨.inr rfl,(.cons (sv rfl) .nil)⟩
 ·
  replace h:=cE h hc3
  refine aY ?_
  refine aS ?_
  refine bC ?_
  refine aE (aA rfl (faR 1 rfl rfl rfl Tryz.underlying46 rfl ti37 (lb rfl) rfl rfl) <|aA rfl (faR 6 rfl rfl rfl Tryz.underlying37 rfl ti4 (lb rfl) rfl rfl) <|aA rfl (aF (d:=.bool _) rfl rfl (lb rfl) Tryz.underlying4 ag4 ti4 (by decide) (svR rfl) rfl (nle rfl) rfl) <|aD ?_)
  refine aV (b:=_) rfl (fun hc4=>?_) (fun hc4=>?_)
  ·
   replace h:=cD h hc4
   refine aE (aA rfl (aH rfl rfl (lb rfl) (sv (d:=.int _ 9) rfl)) <|aD ?_)
   refine aT ?_
   refine bI ?_
   obtain rfl:=Option.some.inj h
   refine ⟨.inr rfl,(.cons (sv rfl) .nil)⟩
  ·
   replace h:=cE h hc4
   refine aY ?_
   refine aS ?_
   refine aE (aA rfl (aH rfl rfl (lb rfl) (sv (d:=.int _ 0) rfl)) <|aD ?_)
   refine aT ?_
   obtain rfl:=Option.some.inj h
   refine ⟨.inr rfl,(.cons (sv rfl) .nil)⟩

theorem jP (a0 : (List aG)) (r : (List aG)) (h : dP a0 = some r) : cF Tryz.prog 169 [.slice false (a0.map aK.d)] (.slice false (r.map aK.d)):=by
 refine bA (rs:=[.slice false (r.map aK.d)]) Tryz.func169 rfl Tryz.ntmps169 (nle rfl) rfl fun O hO=>?_
 show IWP _ _ _ _ ⟨[(0,.slice false (a0.map aK.d))],[]⟩ _
 unfold dP at h
 refine aE (aA rfl (aH rfl rfl (lb rfl) (sv (d:=.nils) rfl)) <|aD ?_)
 refine bC ?_
 refine aE (aA rfl (mvL rfl rfl rfl rfl) <|tH rfl rfl rfl (by decide) Tryz.underlying35 (svL rfl) rfl <| fun bn1 hbn1 =>
  aD ?_)
 refine aV (b:=_) rfl (fun hc2=>?_) (fun hc2=>?_)
 ·
  replace h:=yI h (mapE (hbn1 hc2))
  refine aE (aA rfl (aH rfl rfl (lb rfl) (sv (d:=.nils) rfl)) <|aD ?_)
  refine aT ?_
  refine bI ?_
  obtain rfl:=Option.some.inj h
  refine ⟨.inr rfl,(.cons (aAC rfl rfl) .nil)⟩
 ·
  replace h:=yJ h
  refine aY ?_
  refine aS ?_
  obtain ⟨x3,hx3,h⟩:=bF h
  refine aE (aA rfl (tE aK ([] : (List aG)) 0 rfl rfl (lb rfl) Tryz.underlying35 fF rfl .nil rfl rfl (by decide)) <|aA rfl (mvL rfl rfl rfl rfl) <|aA rfl (yS aK 1 rfl rfl (lb rfl) Tryz.underlying35 fF rfl rfl rfl rfl (svL rfl) hx3) <|aA rfl (aH rfl rfl (lb rfl) (sv (d:=.gsl _ _ _) rfl)) <|aD ?_)
  refine aT ?_
  obtain rfl:=Option.some.inj h
  refine ⟨.inr rfl,(.cons (aB2 rfl rfl) .nil)⟩

theorem gM (a0 : aW) (r : (Int × (List UInt8) × Int × (List aJ) × (List aG) × Bool × Bool × Bool × Bool)) (h : eO a0 = some r) : FnH Tryz.prog 129 [.agg (v2 a0)] [] (.agg (w43 r.1 r.2.1 r.2.2.1 (.osl 0 aB.sz r.2.2.2.1.length) r.2.2.2.2.1 r.2.2.2.2.2.1 r.2.2.2.2.2.2.1 r.2.2.2.2.2.2.2.1 r.2.2.2.2.2.2.2.2)) [(0,.blk 105 (D.flat (r.2.2.2.1.map aB.d)))]:=by
 refine fE (rs:=[.agg (w43 r.1 r.2.1 r.2.2.1 (.osl 0 aB.sz r.2.2.2.1.length) r.2.2.2.2.1 r.2.2.2.2.2.1 r.2.2.2.2.2.2.1 r.2.2.2.2.2.2.2.1 r.2.2.2.2.2.2.2.2)]) Tryz.func129 rfl Tryz.ntmps129 (nle rfl) fun O hO=>?_
 show IWP _ _ _ _ ⟨[(0,.agg (v2 a0))],[]⟩ _
 unfold eO at h
 refine aE (aA rfl (bR (cs:=q15) 0 rfl rfl (lb rfl) rfl (svA q15 rfl) rfl rfl) <|aA rfl (bD (cs:=q17) (cs':=(w42 0 [] 0 ([] : List aJ) ([] : List aG) false false false false)) 1 rfl rfl (lb rfl) rfl ti37 rfl rfl (.k (.k (.k (.cons (.nils _) (.cons (.nils _) (.all _))))))) <|aD ?_)
 obtain ⟨x1,hx1,h⟩:=bF h
 refine aE (aA rfl (faR 3 rfl rfl rfl Tryz.underlying37 rfl ti33 (lb rfl) rfl rfl) <|aA rfl (lrL la33 rfl rfl rfl rfl rfl (nle rfl) rfl) <|aA rfl (dL aB (l:=a0.Pieces) rfl rfl (lb rfl) Tryz.underlying33 (svL rfl)) <|aA rfl (aAe aB.toEnc0 ((⟨0,0,0,false⟩ : aJ) : aJ) 2 rfl rfl (lb rfl) Tryz.underlying33 dH rfl rfl (svI rfl) hx1 (.all _)) <|aA rfl (aH rfl rfl (lb rfl) (sv (d:=.osl _ _ _) rfl)) <|aD ?_)
 obtain ⟨x2,hx2,h⟩:=aQ h
 refine aE (aA rfl (aM rfl rfl (lb rfl) (sv (d:=.osl _ _ _) rfl)) <|aA rfl (faR 3 rfl rfl rfl Tryz.underlying37 rfl ti33 (lb rfl) rfl rfl) <|aA rfl (lrL la33 rfl rfl rfl rfl rfl (nle rfl) rfl) <|aA rfl (aAh aB.toEnc0 rfl rfl (lb rfl) Tryz.underlying33 dH rfl rfl rfl (xC aB (ys:=a0.Pieces) (svL rfl)) hx2) <|aD ?_)
 refine aE (aA rfl (aM rfl rfl (lb rfl) (sv (d:=.osl _ _ _) rfl)) <|aA rfl (faR 3 rfl rfl rfl Tryz.underlying37 rfl ti33 (lb rfl) rfl rfl) <|aA rfl (bN (ds':=q16) rfl rfl ti33 (svR rfl) rfl (sv (d:=.osl _ _ _) rfl) rfl rfl rfl (nle rfl) rfl) <|aD ?_)
 obtain ⟨x3,hx3,h⟩:=bF h
 refine aE (aA rfl (faR 4 rfl rfl rfl Tryz.underlying37 rfl ti35 (lb rfl) rfl rfl) <|aA rfl (lrL la35 rfl rfl rfl rfl rfl (nle rfl) rfl) <|aA rfl (aU (r:=.slice _ _) rfl rfl (lb rfl) cl169 (.cons (svL rfl) .nil) rfl (jP _ _ hx3)) <|aA rfl (faR 4 rfl rfl rfl Tryz.underlying37 rfl ti35 (lb rfl) rfl rfl) <|aA rfl (bN (ds':=q16) rfl rfl ti35 (svR rfl) rfl (svL rfl) rfl rfl rfl (nle rfl) rfl) <|aD ?_)
 refine aE (aA rfl (lra q16 la37 rfl rfl rfl rfl rfl (nle rfl) rfl) <|aA rfl (stA q16 q16 ti37 rfl rfl rfl rfl rfl rfl rfl rfl (nle rfl) rfl) <|aD ?_)
 refine aT ?_
 obtain rfl:=Option.some.inj h
 refine ⟨.inr rfl,(fun i=>if i = 0 then 2 else i),⟨.nil,(.cons (EntW.lst rfl) .nil),cK [2] rfl (by decide),(fun i hi=>by first | rfl | (show (if _ then _ else _) = _; (repeat' split) <;> omega))⟩,(.cons (rva la37 rfl rfl (nle rfl) (by rw [← (aBt hx2 rfl)]; rfl)) .nil),rfl⟩

theorem xL (a0 : aW) (r : Int) (h : nY a0 = some r) : cF Tryz.prog 130 [.agg (v2 a0)] (.int .i64 r):=by
 refine bA (rs:=[.int .i64 r]) Tryz.func130 rfl Tryz.ntmps130 (nle rfl) rfl fun O hO=>?_
 show IWP _ _ _ _ ⟨[(0,.agg (v2 a0))],[]⟩ _
 unfold nY at h
 refine aE (aA rfl (bR (cs:=q15) 0 rfl rfl (lb rfl) rfl (svA q15 rfl) rfl rfl) <|aA rfl (aH rfl rfl (lb rfl) (sv (d:=.int _ 0) rfl)) <|aD ?_)
 refine bC ?_
 refine aE (aA rfl (faR 5 rfl rfl rfl Tryz.underlying37 rfl ti4 (lb rfl) rfl rfl) <|aA rfl (aF (d:=.bool _) rfl rfl (lb rfl) Tryz.underlying4 ag4 ti4 (by decide) (svR rfl) rfl (nle rfl) rfl) <|aD ?_)
 refine aV (b:=_) rfl (fun hc1=>?_) (fun hc1=>?_)
 ·
  replace h:=cD h hc1
  refine aE (aA rfl (aH rfl rfl (lb rfl) (sv (d:=.int _ 0) rfl)) <|aD ?_)
  refine aT ?_
  refine bI ?_
  obtain rfl:=Option.some.inj h
  refine ⟨.inr rfl,(.cons (sv rfl) .nil)⟩
 ·
  replace h:=cE h hc1
  refine aY ?_
  refine aS ?_
  obtain ⟨x2,hx2,h⟩:=aQ h
  refine aE (aA rfl (faR 1 rfl rfl rfl Tryz.underlying37 rfl ti9 (lb rfl) rfl rfl) <|aA rfl (aF (d:=.str _) rfl rfl (lb rfl) Tryz.underlying9 ag9 ti9 (by decide) (svR rfl) rfl (nle rfl) rfl) <|aA rfl (cT rfl rfl (lb rfl) Tryz.underlying9 (sv (d:=.str _) rfl) rfl) <|aA rfl (bM rfl rfl (lb rfl) (sv (d:=.int _ 4096) rfl) (svI rfl) rfl hx2) <|aA rfl (asI rfl rfl rfl rfl) <|aD ?_)
  refine aT ?_
  obtain rfl:=Option.some.inj h
  refine ⟨.inr rfl,(.cons (sv rfl) .nil)⟩

theorem wE (a0 : aW) (a1 : (List UInt8)) (r : (aW × Int)) (h : mO a0 a1 = some r) : cF Tryz.prog 83 [.agg (v2 a0),.str a1] (retD [.agg (v2 r.1),.int .i64 r.2]):=by
 refine iC (rs:=[.agg (v2 r.1),.int .i64 r.2]) Tryz.func83 rfl Tryz.ntmps83 (nle rfl) rfl fun O hO=>?_
 show IWP _ _ _ _ ⟨[(0,.agg (v2 a0)),(1,.str a1)],[]⟩ _
 unfold mO at h
 refine aE (aA rfl (bR (cs:=q15) 0 rfl rfl (lb rfl) rfl (svA q15 rfl) rfl rfl) <|aA rfl (bD (cs:=q17) (cs':=(w42 0 [] 0 ([] : List aJ) ([] : List aG) false false false false)) 1 rfl rfl (lb rfl) rfl ti37 rfl rfl (.k (.k (.k (.cons (.nils _) (.cons (.nils _) (.all _))))))) <|aA rfl (aH rfl rfl (lb rfl) (sv (d:=.int _ 0) rfl)) <|aD ?_)
 obtain ⟨x1,hx1,h⟩:=bF h
 refine aE (aA rfl (lra q15 la37 rfl rfl rfl rfl rfl (nle rfl) rfl) <|aA rfl (dO (r':=.agg (w43 x1.1 x1.2.1 x1.2.2.1 (.osl 2 aB.sz x1.2.2.2.1.length) x1.2.2.2.2.1 x1.2.2.2.2.2.1 x1.2.2.2.2.2.2.1 x1.2.2.2.2.2.2.2.1 x1.2.2.2.2.2.2.2.2)) (H1':=[(2,.blk 105 (D.flat (x1.2.2.2.1.map aB.d)))]) 2 [] rfl rfl (lb rfl) aA7 (.cons (svA q15 rfl) .nil) rfl rfl ⟨rfl,rfl,by decide,rfl,List.forall_mem_nil _⟩ (gM _ _ hx1) rfl rfl (List.forall_mem_cons.2 ⟨⟨rfl,(fB aB)⟩,List.forall_mem_nil _⟩) (by simp only [List.map_cons,List.map_nil,Ent.ren,eD,eQ]; rfl)) <|aA rfl (bD (cs:=q17) (cs':=(w42 0 [] 0 ([] : List aJ) ([] : List aG) false false false false)) 3 rfl rfl (lb rfl) rfl ti37 rfl rfl (.k (.k (.k (.cons (.nils _) (.cons (.nils _) (.all _))))))) <|aA rfl (stA q16 q16 ti37 rfl rfl rfl rfl rfl rfl rfl rfl (nle rfl) rfl) <|aD ?_)
 refine bC ?_
 obtain ⟨x2,hx2,h⟩:=bF h
 obtain ⟨x3,hx3,h⟩:=aQ h
 refine aE (aA rfl (lra q15 la37 rfl rfl rfl rfl rfl (nle rfl) rfl) <|aA rfl (aU (r:=.int _ _) rfl rfl (lb rfl) yG (.cons (svA q15 rfl) .nil) rfl (iU _ _ hx2)) <|aA rfl (aP rfl rfl (lb rfl) (svI rfl) (sv (d:=.int _ 0) rfl) rfl hx3) <|aD ?_)
 refine aV (b:=_) rfl (fun hc4=>?_) (fun hc4=>?_)
 ·
  replace h:=cD h hc4
  refine aE (aA rfl (lra q16 la37 rfl rfl rfl rfl rfl (nle rfl) rfl) <|aA rfl (stA q16 q16 ti37 rfl rfl rfl rfl rfl rfl rfl rfl (nle rfl) rfl) <|aA rfl (aH rfl rfl (lb rfl) (sv (d:=.int _ 0) rfl)) <|aD ?_)
  refine aT ?_
  refine bI ?_
  obtain rfl:=Option.some.inj h
  refine ⟨.inr rfl,_,(.cons (rva la37 rfl rfl (nle rfl) rfl) (.cons (sv rfl) .nil)),(.cons (.agg (.k (.k (.k (.cons (FDT aB rfl rfl) (.all _)))))) (.all _))⟩
 ·
  replace h:=cE h hc4
  refine aY ?_
  refine aS ?_
  obtain ⟨x5,hx5,h⟩:=bF h
  obtain ⟨x6,hx6,h⟩:=aQ h
  refine aE (aA rfl (lra q15 la37 rfl rfl rfl rfl rfl (nle rfl) rfl) <|aA rfl (aU (r:=.int _ _) rfl rfl (lb rfl) cl130 (.cons (svA q15 rfl) .nil) rfl (xL _ _ hx5)) <|aA rfl (aM rfl rfl (lb rfl) (sv (d:=.str _) rfl)) <|aA rfl (cT rfl rfl (lb rfl) Tryz.underlying9 (sv (d:=.str _) rfl) rfl) <|aA rfl (jD rfl rfl (lb rfl) (svI rfl) (svI rfl) hx6) <|aA rfl (asI rfl rfl rfl rfl) <|aD ?_)
  refine bC ?_
  obtain ⟨x7,hx7,h⟩:=bF h
  obtain ⟨x8,hx8,h⟩:=aQ h
  obtain ⟨x9,hx9,h⟩:=aQ h
  refine aE (aA rfl (lra q15 la37 rfl rfl rfl rfl rfl (nle rfl) rfl) <|aA rfl (aU (r:=.int _ _) rfl rfl (lb rfl) xA (.cons (svA q15 rfl) .nil) rfl (eZ _ _ hx7)) <|aA rfl (mvI rfl rfl rfl rfl) <|aA rfl (bM rfl rfl (lb rfl) (sv (d:=.int _ 1099511623680) rfl) (svI rfl) rfl hx8) <|aA rfl (aP rfl rfl (lb rfl) (svI rfl) (svI rfl) rfl hx9) <|aD ?_)
  refine aV (b:=_) rfl (fun hc10=>?_) (fun hc10=>?_)
  ·
   replace h:=cD h hc10
   refine aE (aA rfl (lra q16 la37 rfl rfl rfl rfl rfl (nle rfl) rfl) <|aA rfl (stA q16 q16 ti37 rfl rfl rfl rfl rfl rfl rfl rfl (nle rfl) rfl) <|aA rfl (aH rfl rfl (lb rfl) (sv (d:=.int _ 0) rfl)) <|aD ?_)
   refine aT ?_
   refine bI ?_
   obtain rfl:=Option.some.inj h
   refine ⟨.inr rfl,_,(.cons (rva la37 rfl rfl (nle rfl) rfl) (.cons (sv rfl) .nil)),(.cons (.agg (.k (.k (.k (.cons (FDT aB rfl rfl) (.all _)))))) (.all _))⟩
  ·
   replace h:=cE h hc10
   refine aY ?_
   refine aS ?_
   obtain ⟨x11,hx11,h⟩:=bF h
   obtain ⟨x12,hx12,h⟩:=bF h
   refine dD rfl [⟨[6],[],[(25,.ref 3 1)],[]⟩,
    ⟨[25],[3],[(26,.str x1.2.1)],[]⟩,
    ⟨[1],[],[(27,.str a1)],[]⟩,
    ⟨[7],[],[(28,.int .i64 x6)],[]⟩,
    ⟨[27,28],[],[(29,.str x11)],[]⟩,
    ⟨[26,29],[],[(30,.str x12)],[]⟩,
    ⟨[6],[],[(31,.ref 3 1)],[]⟩,
    ⟨[30,31],[3],[],[(3,.blk 37 (w43 x1.1 x12 x1.2.2.1 (.osl 2 aB.sz x1.2.2.2.1.length) x1.2.2.2.2.1 x1.2.2.2.2.2.1 x1.2.2.2.2.2.2.1 x1.2.2.2.2.2.2.2.1 x1.2.2.2.2.2.2.2.2))]⟩] rfl ?_ (by kernel_rfl) ?_
   ·refine .cons (lop rfl rfl fun S hA=>(aI rfl rfl (lb rfl) Tryz.underlying37 rfl ti9 (by decide) (svaR hA rfl rfl) (off':=1) rfl)) ?_
    refine .cons (lop rfl rfl fun S hA=>(aF (d:=.str _) rfl rfl (lb rfl) Tryz.underlying9 ag9 ti9 (by decide) (svaR hA rfl rfl) (agi hA rfl rfl) (nle rfl) rfl)) ?_
    refine .cons (lop rfl rfl fun S hA=>(aM rfl rfl (lb rfl) (sv (d:=.str _) (agr hA rfl rfl)))) ?_
    refine .cons (lop rfl rfl fun S hA=>(aM rfl rfl (lb rfl) (svaI hA rfl rfl))) ?_
    refine .cons (lop rfl rfl fun S hA=>(jL rfl rfl (lb rfl) Tryz.underlying9 (sv (d:=.str _) (agr hA rfl rfl)) rfl ⟨_,(svaI hA rfl rfl)⟩ hx11)) ?_
    refine .cons (lop rfl rfl fun S hA=>(nM rfl rfl (lb rfl) (sv (d:=.str _) (agr hA rfl rfl)) (sv (d:=.str _) (agr hA rfl rfl)) hx12)) ?_
    refine .cons (lop rfl rfl fun S hA=>(aI rfl rfl (lb rfl) Tryz.underlying37 rfl ti9 (by decide) (svaR hA rfl rfl) (off':=1) rfl)) ?_
    refine .cons (lop rfl rfl fun S hA=>(bN (ds':=q16) rfl rfl ti9 (svaR hA rfl rfl) (agi hA rfl rfl) (sv (d:=.str _) (agr hA rfl rfl)) rfl rfl rfl (nle rfl) rfl)) ?_
    exact .nil
   refine aE (aA rfl (lra q16 la37 rfl rfl rfl rfl rfl (nle rfl) rfl) <|aA rfl (mvI rfl rfl rfl rfl) <|aA rfl (stA q16 q16 ti37 rfl rfl rfl rfl rfl rfl rfl rfl (nle rfl) rfl) <|aA rfl (asI rfl rfl rfl rfl) <|aD ?_)
   refine aT ?_
   obtain rfl:=Option.some.inj h
   refine ⟨.inr rfl,_,(.cons (rva la37 rfl rfl (nle rfl) rfl) (.cons (sv rfl) .nil)),(.cons (.agg (.k (.k (.k (.cons (FDT aB rfl rfl) (.all _)))))) (.all _))⟩

theorem rE (a0 : aR) (a1 : (List UInt8)) (r : (aR × Int × Int)) (h : lG a0 a1 = some r) : cF Tryz.prog 31 [.agg (v1 a0),.str a1] (retD [.agg (v1 r.1),.int .i64 r.2.1,.int .i64 r.2.2]):=by
 refine bA (rs:=[.agg (v1 r.1),.int .i64 r.2.1,.int .i64 r.2.2]) Tryz.func31 rfl Tryz.ntmps31 (nle rfl) rfl fun O hO=>?_
 show IWP _ _ _ _ ⟨[(0,.agg (v1 a0)),(1,.str a1)],[]⟩ _
 unfold lG at h
 refine aE (aA rfl (bR (cs:=q13) 0 rfl rfl (lb rfl) rfl (svA q13 rfl) rfl rfl) <|aA rfl (bD (cs:=q14) (cs':=(w41 0 0 [] 0 ([] : List aJ) ([] : List aG) false false false false 0 [] ([] : List aN) 0 0 0 0 0 0 0 0 0 0 0)) 1 rfl rfl (lb rfl) rfl ti46 rfl rfl (.k4 (.cons (.nils _) (.cons (.nils _) (.k4 (.k (.k (.cons (.nils _) (.all _))))))))) <|aA rfl (aH rfl rfl (lb rfl) (sv (d:=.int _ 0) rfl)) <|aA rfl (aH rfl rfl (lb rfl) (sv (d:=.int _ 0) rfl)) <|aD ?_)
 refine bC ?_
 obtain ⟨x1,hx1,h⟩:=bF h
 refine aE (aA rfl (lra q13 la46 rfl rfl rfl rfl rfl (nle rfl) rfl) <|aA rfl (aU (r:=.int _ _) rfl rfl (lb rfl) cl82 (.cons (svA q13 rfl) .nil) rfl (mU _ _ hx1)) <|aA rfl (asI rfl rfl rfl rfl) <|aD ?_)
 obtain ⟨x2,hx2,h⟩:=aQ h
 refine aE (aA rfl (mvI rfl rfl rfl rfl) <|aA rfl (aP rfl rfl (lb rfl) (svI rfl) (sv (d:=.int _ 0) rfl) rfl hx2) <|aD ?_)
 refine aV (b:=_) rfl (fun hc3=>?_) (fun hc3=>?_)
 ·
  replace h:=cD h hc3
  refine aE (aA rfl (lra q13 la46 rfl rfl rfl rfl rfl (nle rfl) rfl) <|aA rfl (mvI rfl rfl rfl rfl) <|aA rfl (stA q13 q13 ti46 rfl rfl rfl rfl rfl rfl rfl rfl (nle rfl) rfl) <|aA rfl (aH rfl rfl (lb rfl) (sv (d:=.int _ 0) rfl)) <|aA rfl (asI rfl rfl rfl rfl) <|aD ?_)
  refine aT ?_
  refine bI ?_
  obtain rfl:=Option.some.inj h
  refine ⟨.inr rfl,(.cons (rva la46 rfl rfl (nle rfl) rfl) (.cons (sv rfl) (.cons (sv rfl) .nil)))⟩
 ·
  replace h:=cE h hc3
  refine aY ?_
  refine aS ?_
  obtain ⟨x4,hx4,h⟩:=bF h
  refine aE (aA rfl (faR 1 rfl rfl rfl Tryz.underlying46 rfl ti37 (lb rfl) rfl rfl) <|aA rfl (lra q15 la37 rfl rfl rfl rfl rfl (nle rfl) rfl) <|aA rfl (aM rfl rfl (lb rfl) (sv (d:=.str _) rfl)) <|aA rfl (aU (r:=.tuple [.agg q15,.int _ _]) rfl rfl (lb rfl) cl83 (.cons (svA q15 rfl) (.cons (sv (d:=.str _) rfl) .nil)) rfl (wE _ _ _ hx4)) <|aA rfl (aM rfl rfl (lb rfl) (sv (d:=.tuple [.agg q15,.int _ _]) rfl)) <|aA rfl (aZ (d:=.agg q15) rfl rfl (lb rfl) (sv (d:=.tuple [.agg q15,.int _ _]) rfl) rfl) <|aA rfl (aZ (d:=.int _ _) rfl rfl (lb rfl) (sv (d:=.tuple [.agg q15,.int _ _]) rfl) rfl) <|aA rfl (bD (cs:=q17) (cs':=(w42 0 [] 0 ([] : List aJ) ([] : List aG) false false false false)) 2 rfl rfl (lb rfl) rfl ti37 rfl rfl (.k (.k (.k (.cons (.nils _) (.cons (.nils _) (.all _))))))) <|aA rfl (stA q15 q15 ti37 rfl rfl rfl rfl rfl rfl rfl rfl (nle rfl) rfl) <|aA rfl (asI rfl rfl rfl rfl) <|aD ?_)
  refine aE (aA rfl (lra q15 la37 rfl rfl rfl rfl rfl (nle rfl) rfl) <|aA rfl (faR 1 rfl rfl rfl Tryz.underlying46 rfl ti37 (lb rfl) rfl rfl) <|aA rfl (stA q15 q13 ti37 rfl rfl rfl rfl rfl rfl rfl rfl (nle rfl) rfl) <|aD ?_)
  refine aE (aA rfl (lra q13 la46 rfl rfl rfl rfl rfl (nle rfl) rfl) <|aA rfl (mvI rfl rfl rfl rfl) <|aA rfl (stA q13 q13 ti46 rfl rfl rfl rfl rfl rfl rfl rfl (nle rfl) rfl) <|aA rfl (asI rfl rfl rfl rfl) <|aA rfl (aH rfl rfl (lb rfl) (sv (d:=.int _ 0) rfl)) <|aD ?_)
  refine aT ?_
  obtain rfl:=Option.some.inj h
  refine ⟨.inr rfl,(.cons (rva la46 rfl rfl (nle rfl) rfl) (.cons (sv rfl) (.cons (sv rfl) .nil)))⟩

theorem mA (a0 : aR) (a1 : Int) (r : Int) (h : iG a0 a1 = some r) : cF Tryz.prog 76 [.agg (v1 a0),.int .i64 a1] (.int .i64 r):=by
 refine bA (rs:=[.int .i64 r]) Tryz.func76 rfl Tryz.ntmps76 (nle rfl) rfl fun O hO=>?_
 show IWP _ _ _ _ ⟨[(0,.agg (v1 a0)),(1,.int .i64 a1)],[]⟩ _
 unfold iG at h
 refine aE (aA rfl (bR (cs:=q13) 0 rfl rfl (lb rfl) rfl (svA q13 rfl) rfl rfl) <|aA rfl (aH rfl rfl (lb rfl) (sv (d:=.int _ 0) rfl)) <|aD ?_)
 obtain ⟨x1,hx1,h⟩:=aQ h
 obtain ⟨x2,hx2,h⟩:=aQ h
 obtain ⟨x3,hx3,h⟩:=aQ h
 refine aE (aA rfl (faR 1 rfl rfl rfl Tryz.underlying46 rfl ti37 (lb rfl) rfl rfl) <|aA rfl (faR 3 rfl rfl rfl Tryz.underlying37 rfl ti3 (lb rfl) rfl rfl) <|aA rfl (aF (d:=.int _ _) rfl rfl (lb rfl) Tryz.underlying3 ag3 ti3 (by decide) (svR rfl) rfl (nle rfl) rfl) <|aA rfl (mvI rfl rfl rfl rfl) <|aA rfl (faR 14 rfl rfl rfl Tryz.underlying46 rfl ti44 (lb rfl) rfl rfl) <|aA rfl (faR 15 rfl rfl rfl Tryz.underlying44 rfl ti3 (lb rfl) rfl rfl) <|aA rfl (aF (d:=.int _ _) rfl rfl (lb rfl) Tryz.underlying3 ag3 ti3 (by decide) (svR rfl) rfl (nle rfl) rfl) <|aA rfl (faR 1 rfl rfl rfl Tryz.underlying46 rfl ti37 (lb rfl) rfl rfl) <|aA rfl (faR 3 rfl rfl rfl Tryz.underlying37 rfl ti3 (lb rfl) rfl rfl) <|aA rfl (aF (d:=.int _ _) rfl rfl (lb rfl) Tryz.underlying3 ag3 ti3 (by decide) (svR rfl) rfl (nle rfl) rfl) <|aA rfl (bM rfl rfl (lb rfl) (svI rfl) (svI rfl) rfl hx1) <|aA rfl (jD rfl rfl (lb rfl) (svI rfl) (svI rfl) hx2) <|aA rfl (bM rfl rfl (lb rfl) (svI rfl) (svI rfl) rfl hx3) <|aA rfl (asI rfl rfl rfl rfl) <|aD ?_)
 refine aT ?_
 obtain rfl:=Option.some.inj h
 refine ⟨.inr rfl,(.cons (sv rfl) .nil)⟩

theorem nP (a0 : aW) (r : Bool) (h : iJ a0 = some r) : cF Tryz.prog 136 [.agg (v2 a0)] (.bool r):=by
 refine bA (rs:=[.bool r]) Tryz.func136 rfl Tryz.ntmps136 (nle rfl) rfl fun O hO=>?_
 show IWP _ _ _ _ ⟨[(0,.agg (v2 a0))],[]⟩ _
 unfold iJ at h
 refine aE (aA rfl (bR (cs:=q15) 0 rfl rfl (lb rfl) rfl (svA q15 rfl) rfl rfl) <|aA rfl (aH rfl rfl (lb rfl) (sv (d:=.bool false) rfl)) <|aD ?_)
 refine bC ?_
 obtain ⟨x1,hx1,h⟩:=aQ h
 refine aE (aA rfl (faR 5 rfl rfl rfl Tryz.underlying37 rfl ti4 (lb rfl) rfl rfl) <|aA rfl (aF (d:=.bool _) rfl rfl (lb rfl) Tryz.underlying4 ag4 ti4 (by decide) (svR rfl) rfl (nle rfl) rfl) <|aA rfl (dB rfl rfl (lb rfl) (svB rfl)) <|aA rfl (mvB rfl rfl rfl rfl) <|aC rfl rfl (.one rfl) rfl (by decide) (fun hb=>(faR 8 rfl rfl rfl Tryz.underlying37 rfl ti4 (lb rfl) rfl rfl)) <|aC rfl rfl (.one rfl) rfl (by decide) (fun hb=>(aF (d:=.bool _) rfl rfl (lb rfl) Tryz.underlying4 ag4 ti4 (by decide) (svcR rfl hb) rfl (nle rfl) rfl)) <|aA rfl (cQ rfl rfl (lb rfl) (svB rfl) rfl rfl hx1) <|aD ?_)
 refine aV (b:=_) rfl (fun hc2=>?_) (fun hc2=>?_)
 ·
  replace h:=cD h hc2
  refine aE (aA rfl (aH rfl rfl (lb rfl) (sv (d:=.bool false) rfl)) <|aD ?_)
  refine aT ?_
  refine bI ?_
  obtain rfl:=Option.some.inj h
  refine ⟨.inr rfl,(.cons (sv rfl) .nil)⟩
 ·
  replace h:=cE h hc2
  refine aY ?_
  refine aS ?_
  obtain ⟨x3,hx3,h⟩:=aQ h
  refine aE (aA rfl (faR 7 rfl rfl rfl Tryz.underlying37 rfl ti4 (lb rfl) rfl rfl) <|aA rfl (aF (d:=.bool _) rfl rfl (lb rfl) Tryz.underlying4 ag4 ti4 (by decide) (svR rfl) rfl (nle rfl) rfl) <|aA rfl (mvB rfl rfl rfl rfl) <|aC rfl rfl (.one rfl) rfl (by decide) (fun hb=>(faR 6 rfl rfl rfl Tryz.underlying37 rfl ti4 (lb rfl) rfl rfl)) <|aC rfl rfl (.one rfl) rfl (by decide) (fun hb=>(aF (d:=.bool _) rfl rfl (lb rfl) Tryz.underlying4 ag4 ti4 (by decide) (svcR rfl hb) rfl (nle rfl) rfl)) <|aC rfl rfl (.one rfl) rfl (by decide) (fun hb=>(dB rfl rfl (lb rfl) (svcB rfl hb))) <|aA rfl (cQ rfl rfl (lb rfl) (svB rfl) rfl rfl hx3) <|aA rfl (asB rfl rfl rfl rfl) <|aD ?_)
  refine aT ?_
  obtain rfl:=Option.some.inj h
  refine ⟨.inr rfl,(.cons (sv rfl) .nil)⟩

theorem mX (a0 : aW) (a1 : Int) (a2 : Int) (r : (aJ × Bool)) (h : gZ a0 a1 a2 = some r) : cF Tryz.prog 125 [.agg (v2 a0),.int .i64 a1,.int .i64 a2] (retD [.agg (v7 r.1),.bool r.2]):=by
 refine bA (rs:=[.agg (v7 r.1),.bool r.2]) Tryz.func125 rfl Tryz.ntmps125 (nle rfl) rfl fun O hO=>?_
 show IWP _ _ _ _ ⟨[(0,.agg (v2 a0)),(1,.int .i64 a1),(2,.int .i64 a2)],[]⟩ _
 unfold gZ at h
 refine aE (aA rfl (bR (cs:=q15) 0 rfl rfl (lb rfl) rfl (svA q15 rfl) rfl rfl) <|aA rfl (bD (cs:=q20) (cs':=(w46 0 0 0 false)) 1 rfl rfl (lb rfl) rfl dH rfl rfl (.all _)) <|aA rfl (aH rfl rfl (lb rfl) (sv (d:=.bool false) rfl)) <|aD ?_)
 refine bC ?_
 obtain ⟨x1,hx1,h⟩:=aQ h
 refine aE (aA rfl (faR 4 rfl rfl rfl Tryz.underlying37 rfl ti35 (lb rfl) rfl rfl) <|aA rfl (lrL la35 rfl rfl rfl rfl rfl (nle rfl) rfl) <|aA rfl (dL aK (l:=a0.Lost) rfl rfl (lb rfl) Tryz.underlying35 (svL rfl)) <|aA rfl (aP rfl rfl (lb rfl) (svI rfl) (sv (d:=.int _ 0) rfl) rfl hx1) <|aD ?_)
 refine aV (b:=_) rfl (fun hc2=>?_) (fun hc2=>?_)
 ·
  replace h:=cD h hc2
  obtain ⟨x3,hx3,h⟩:=bF h
  refine aE (aA rfl (faR 4 rfl rfl rfl Tryz.underlying37 rfl ti35 (lb rfl) rfl rfl) <|aA rfl (lrL la35 rfl rfl rfl rfl rfl (nle rfl) rfl) <|aA rfl (dY aK (cs:=q27) rfl rfl (lb rfl) Tryz.underlying35 fF (svL rfl) (sv (d:=.int _ 0) rfl) hx3 rfl rfl) <|aA rfl (dE (cs:=q27) rfl rfl (lb rfl) Tryz.underlying219 tY fF (by decide) (sv (d:=.fptr q27) rfl) (nle rfl) rfl) <|aA rfl (bD (cs:=q27) (cs':=[.int .i64 0,.int .i64 0]) 2 rfl rfl (lb rfl) rfl fF rfl rfl (.all _)) <|aA rfl (stA q27 q27 fF rfl rfl rfl rfl rfl rfl rfl rfl (nle rfl) rfl) <|aD ?_)
  obtain ⟨x4,hx4,h⟩:=aQ h
  obtain ⟨x5,hx5,h⟩:=aQ h
  obtain ⟨x6,hx6,h⟩:=aQ h
  refine aE (aA rfl (faR 0 rfl rfl rfl Tryz.underlying219 rfl ti3 (lb rfl) rfl rfl) <|aA rfl (aF (d:=.int _ _) rfl rfl (lb rfl) Tryz.underlying3 ag3 ti3 (by decide) (svR rfl) rfl (nle rfl) rfl) <|aA rfl (faR 0 rfl rfl rfl Tryz.underlying219 rfl ti3 (lb rfl) rfl rfl) <|aA rfl (aF (d:=.int _ _) rfl rfl (lb rfl) Tryz.underlying3 ag3 ti3 (by decide) (svR rfl) rfl (nle rfl) rfl) <|aA rfl (mvI rfl rfl rfl rfl) <|aA rfl (faR 1 rfl rfl rfl Tryz.underlying219 rfl ti3 (lb rfl) rfl rfl) <|aA rfl (aF (d:=.int _ _) rfl rfl (lb rfl) Tryz.underlying3 ag3 ti3 (by decide) (svR rfl) rfl (nle rfl) rfl) <|aA rfl (faR 0 rfl rfl rfl Tryz.underlying219 rfl ti3 (lb rfl) rfl rfl) <|aA rfl (aF (d:=.int _ _) rfl rfl (lb rfl) Tryz.underlying3 ag3 ti3 (by decide) (svR rfl) rfl (nle rfl) rfl) <|aA rfl (bM rfl rfl (lb rfl) (svI rfl) (svI rfl) rfl hx4) <|aA rfl (jD rfl rfl (lb rfl) (svI rfl) (svI rfl) hx5) <|aA rfl (bM rfl rfl (lb rfl) (svI rfl) (svI rfl) rfl hx6) <|aA rfl (bS (cs:=q20) rfl rfl (lb rfl) Tryz.underlying105 dH xG rfl (.cons (svI rfl) (.cons (svI rfl) .nil)) rfl) <|aA rfl (stA q20 q20 dH rfl rfl rfl rfl rfl rfl rfl rfl (nle rfl) rfl) <|aA rfl (aH rfl rfl (lb rfl) (sv (d:=.bool true) rfl)) <|aD ?_)
  refine aT ?_
  refine bI ?_
  obtain rfl:=Option.some.inj h
  refine ⟨.inr rfl,(.cons (rva qD rfl rfl (nle rfl) rfl) (.cons (sv rfl) .nil))⟩
 ·
  replace h:=cE h hc2
  refine aY ?_
  refine aS ?_
  obtain ⟨x7,hx7,h⟩:=bF h
  obtain ⟨x8,hx8,h⟩:=aQ h
  refine dD rfl [⟨[3],[0],[(32,.agg (v2 a0))],[]⟩,
   ⟨[32],[],[(33,.int .i64 x7)],[]⟩,
   ⟨[3],[],[(34,.ref 0 2)],[]⟩,
   ⟨[34],[0],[(35,.int .i64 a0.Next)],[]⟩,
   ⟨[33,35],[],[(36,.int .i64 x8)],[]⟩,
   ⟨[36],[],[(9,.int .i64 x8)],[]⟩] rfl ?_ (by kernel_rfl) ?_
  ·refine .cons (lop rfl rfl fun S hA=>(bK (cs:=q15) rfl rfl (lb rfl) Tryz.underlying37 ag37 ti37 (by decide) (svaR hA rfl rfl) (agi hA rfl rfl) (nle rfl) rfl)) ?_
   refine .cons (lop rfl rfl fun S hA=>(aU (r:=.int _ _) rfl rfl (lb rfl) xA (.cons (svaA q15 hA rfl rfl) .nil) rfl (eZ _ _ hx7))) ?_
   refine .cons (lop rfl rfl fun S hA=>(aI rfl rfl (lb rfl) Tryz.underlying37 rfl ti3 (by decide) (svaR hA rfl rfl) (off':=2) rfl)) ?_
   refine .cons (lop rfl rfl fun S hA=>(aF (d:=.int _ _) rfl rfl (lb rfl) Tryz.underlying3 ag3 ti3 (by decide) (svaR hA rfl rfl) (agi hA rfl rfl) (nle rfl) rfl)) ?_
   refine .cons (lop rfl rfl fun S hA=>(bM rfl rfl (lb rfl) (svaI hA rfl rfl) (svaI hA rfl rfl) rfl hx8)) ?_
   refine .cons (lop rfl rfl fun S hA=>(aH rfl rfl (lb rfl) (svaI hA rfl rfl))) ?_
   exact .nil
  refine bC ?_
  obtain ⟨x9,hx9,h⟩:=aQ h
  refine aE (aA rfl (mvI rfl rfl rfl rfl) <|aA rfl (aP rfl rfl (lb rfl) (svI rfl) (sv (d:=.int _ 0) rfl) rfl hx9) <|aD ?_)
  refine aV (b:=_) rfl (fun hc10=>?_) (fun hc10=>?_)
  ·
   replace h:=cD h hc10
   obtain ⟨x11,hx11,h⟩:=aQ h
   obtain ⟨x12,hx12,h⟩:=aQ h
   obtain ⟨x13,hx13,h⟩:=aQ h
   refine aE (aA rfl (mvI rfl rfl rfl rfl) <|aA rfl (mvI rfl rfl rfl rfl) <|aA rfl (mvI rfl rfl rfl rfl) <|aA rfl (faR 2 rfl rfl rfl Tryz.underlying37 rfl ti3 (lb rfl) rfl rfl) <|aA rfl (aF (d:=.int _ _) rfl rfl (lb rfl) Tryz.underlying3 ag3 ti3 (by decide) (svR rfl) rfl (nle rfl) rfl) <|aA rfl (kO rfl rfl (lb rfl) (svI rfl) (svI rfl) hx11) <|aA rfl (faR 2 rfl rfl rfl Tryz.underlying37 rfl ti3 (lb rfl) rfl rfl) <|aA rfl (aF (d:=.int _ _) rfl rfl (lb rfl) Tryz.underlying3 ag3 ti3 (by decide) (svR rfl) rfl (nle rfl) rfl) <|aA rfl (bM rfl rfl (lb rfl) (svI rfl) (svI rfl) rfl hx12) <|aA rfl (aBf rfl rfl (lb rfl) (svI rfl) (svI rfl) (svI rfl) hx13) <|aA rfl (asI rfl rfl rfl rfl) <|aD ?_)
   obtain ⟨x14,hx14,h⟩:=aQ h
   obtain ⟨x15,hx15,h⟩:=aQ h
   refine aE (aA rfl (faR 2 rfl rfl rfl Tryz.underlying37 rfl ti3 (lb rfl) rfl rfl) <|aA rfl (aF (d:=.int _ _) rfl rfl (lb rfl) Tryz.underlying3 ag3 ti3 (by decide) (svR rfl) rfl (nle rfl) rfl) <|aA rfl (faR 2 rfl rfl rfl Tryz.underlying37 rfl ti3 (lb rfl) rfl rfl) <|aA rfl (aF (d:=.int _ _) rfl rfl (lb rfl) Tryz.underlying3 ag3 ti3 (by decide) (svR rfl) rfl (nle rfl) rfl) <|aA rfl (mvI rfl rfl rfl rfl) <|aA rfl (bM rfl rfl (lb rfl) (svI rfl) (svI rfl) rfl hx14) <|aA rfl (bS (cs:=q20) rfl rfl (lb rfl) Tryz.underlying105 dH xG rfl (.cons (svI rfl) (.cons (svI rfl) .nil)) rfl) <|aA rfl (mvI rfl rfl rfl rfl) <|aA rfl (aP rfl rfl (lb rfl) (svI rfl) (sv (d:=.int _ 0) rfl) rfl hx15) <|aA rfl (stA q20 q20 dH rfl rfl rfl rfl rfl rfl rfl rfl (nle rfl) rfl) <|aA rfl (asB rfl rfl rfl rfl) <|aD ?_)
   refine aT ?_
   refine bI ?_
   obtain rfl:=Option.some.inj h
   refine ⟨.inr rfl,(.cons (rva qD rfl rfl (nle rfl) rfl) (.cons (sv rfl) .nil))⟩
  ·
   replace h:=cE h hc10
   refine aY ?_
   refine aS ?_
   obtain ⟨x16,hx16,h⟩:=bF h
   refine dD rfl [⟨[3],[],[(58,.ref 0 2)],[]⟩,
    ⟨[58],[0],[(59,.int .i64 a0.Next)],[]⟩,
    ⟨[3],[],[(60,.ref 0 2)],[]⟩,
    ⟨[60],[0],[(61,.int .i64 a0.Next)],[]⟩,
    ⟨[59,61],[],[(62,.agg (w46 a0.Next a0.Next 0 false))],[]⟩,
    ⟨[3],[0],[(63,.agg (v2 a0))],[]⟩,
    ⟨[63],[],[(64,.bool x16)],[]⟩,
    ⟨[6,62],[1],[],[(1,.blk 105 (w46 a0.Next a0.Next 0 false))]⟩,
    ⟨[64],[],[(7,.bool x16)],[]⟩] rfl ?_ (by kernel_rfl) ?_
   ·refine .cons (lop rfl rfl fun S hA=>(aI rfl rfl (lb rfl) Tryz.underlying37 rfl ti3 (by decide) (svaR hA rfl rfl) (off':=2) rfl)) ?_
    refine .cons (lop rfl rfl fun S hA=>(aF (d:=.int _ _) rfl rfl (lb rfl) Tryz.underlying3 ag3 ti3 (by decide) (svaR hA rfl rfl) (agi hA rfl rfl) (nle rfl) rfl)) ?_
    refine .cons (lop rfl rfl fun S hA=>(aI rfl rfl (lb rfl) Tryz.underlying37 rfl ti3 (by decide) (svaR hA rfl rfl) (off':=2) rfl)) ?_
    refine .cons (lop rfl rfl fun S hA=>(aF (d:=.int _ _) rfl rfl (lb rfl) Tryz.underlying3 ag3 ti3 (by decide) (svaR hA rfl rfl) (agi hA rfl rfl) (nle rfl) rfl)) ?_
    refine .cons (lop rfl rfl fun S hA=>(bS (cs:=q20) rfl rfl (lb rfl) Tryz.underlying105 dH xG rfl (.cons (svaI hA rfl rfl) (.cons (svaI hA rfl rfl) .nil)) rfl)) ?_
    refine .cons (lop rfl rfl fun S hA=>(bK (cs:=q15) rfl rfl (lb rfl) Tryz.underlying37 ag37 ti37 (by decide) (svaR hA rfl rfl) (agi hA rfl rfl) (nle rfl) rfl)) ?_
    refine .cons (lop rfl rfl fun S hA=>(aU (r:=.bool _) rfl rfl (lb rfl) cl136 (.cons (svaA q15 hA rfl rfl) .nil) rfl (nP _ _ hx16))) ?_
    refine .cons (lop rfl rfl fun S hA=>(bN (ds':=q20) rfl rfl dH (svaR hA rfl rfl) (agi hA rfl rfl) (svaA q20 hA rfl rfl) rfl rfl rfl (nle rfl) rfl)) ?_
    refine .cons (lop rfl rfl fun S hA=>(aH rfl rfl (lb rfl) (svaB hA rfl rfl))) ?_
    exact .nil
   refine aT ?_
   obtain rfl:=Option.some.inj h
   refine ⟨.inr rfl,(.cons (rva qD rfl rfl (nle rfl) rfl) (.cons (sv rfl) .nil))⟩

theorem oU (a0 : aJ) (a1 : aJ) (r : Bool) (h : iN a0 a1 = some r) : cF Tryz.prog 177 [.agg (v7 a0),.fptr (v7 a1)] (.bool r):=by
 refine bA (rs:=[.bool r]) Tryz.func177 rfl Tryz.ntmps177 (nle rfl) rfl fun O hO=>?_
 show IWP _ _ _ _ ⟨[(0,.agg (v7 a0)),(1,.fptr (v7 a1))],[]⟩ _
 unfold iN at h
 refine aE (aA rfl (bR (cs:=q20) 0 rfl rfl (lb rfl) rfl (svA q20 rfl) rfl rfl) <|aA rfl (aH rfl rfl (lb rfl) (sv (d:=.bool false) rfl)) <|aD ?_)
 obtain ⟨x1,hx1,h⟩:=aQ h
 obtain ⟨x2,hx2,h⟩:=aQ h
 obtain ⟨x3,hx3,h⟩:=aQ h
 obtain ⟨x4,hx4,h⟩:=aQ h
 obtain ⟨x5,hx5,h⟩:=aQ h
 refine aE (aA rfl (faR 0 rfl rfl rfl Tryz.underlying105 rfl ti3 (lb rfl) rfl rfl) <|aA rfl (aF (d:=.int _ _) rfl rfl (lb rfl) Tryz.underlying3 ag3 ti3 (by decide) (svR rfl) rfl (nle rfl) rfl) <|aA rfl (bG (cs':=[.int _ _]) rfl rfl (lb rfl) Tryz.underlying105 rfl ti3 (by decide) (sv (d:=.fptr q20) rfl) rfl) <|aA rfl (dA rfl rfl (lb rfl) Tryz.underlying3 ag3 ti3 (by decide) (sv (d:=.fptr [.int _ _]) rfl) (nle rfl)) <|aA rfl (aP rfl rfl (lb rfl) (svI rfl) (svI rfl) rfl hx1) <|aA rfl (mvB rfl rfl rfl rfl) <|aC rfl rfl (.one rfl) rfl (by decide) (fun hb=>(faR 0 rfl rfl rfl Tryz.underlying105 rfl ti3 (lb rfl) rfl rfl)) <|aC rfl rfl (.one rfl) rfl (by decide) (fun hb=>(aF (d:=.int _ _) rfl rfl (lb rfl) Tryz.underlying3 ag3 ti3 (by decide) (svcR rfl hb) rfl (nle rfl) rfl)) <|aC rfl rfl (.one rfl) rfl (by decide) (fun hb=>(bG (cs':=[.int _ _]) rfl rfl (lb rfl) Tryz.underlying105 rfl ti3 (by decide) (sv (d:=.fptr q20) rfl) rfl)) <|aC rfl rfl (.one rfl) rfl (by decide) (fun hb=>(dA rfl rfl (lb rfl) Tryz.underlying3 ag3 ti3 (by decide) (svc (d:=.fptr [.int _ _]) rfl hb) (nle rfl))) <|aC rfl rfl (.one rfl) rfl (by decide) (fun hb=>(aP rfl rfl (lb rfl) (svcI rfl hb) (svcI rfl hb) rfl hx2)) <|aC rfl rfl (.one rfl) rfl (by decide) (fun hb=>(aM rfl rfl (lb rfl) (svcB rfl hb))) <|aC rfl rfl (.two rfl) rfl (by decide) (fun hb=>(faR 1 rfl rfl rfl Tryz.underlying105 rfl ti3 (lb rfl) rfl rfl)) <|aC rfl rfl (.two rfl) rfl (by decide) (fun hb=>(aF (d:=.int _ _) rfl rfl (lb rfl) Tryz.underlying3 ag3 ti3 (by decide) (svcR rfl hb) rfl (nle rfl) rfl)) <|aC rfl rfl (.two rfl) rfl (by decide) (fun hb=>(bG (cs':=[.int _ _]) rfl rfl (lb rfl) Tryz.underlying105 rfl ti3 (by decide) (sv (d:=.fptr q20) rfl) rfl)) <|aC rfl rfl (.two rfl) rfl (by decide) (fun hb=>(dA rfl rfl (lb rfl) Tryz.underlying3 ag3 ti3 (by decide) (svc (d:=.fptr [.int _ _]) rfl hb) (nle rfl))) <|aC rfl rfl (.two rfl) rfl (by decide) (fun hb=>(aP rfl rfl (lb rfl) (svcI rfl hb) (svcI rfl hb) rfl hx3)) <|aC rfl rfl (.one rfl) rfl (by decide) (fun hb=>(jH rfl rfl (lb rfl) hb (svcB rfl hb) rfl rfl hx4)) <|aA rfl (cQ rfl rfl (lb rfl) (svB rfl) rfl rfl hx5) <|aA rfl (asB rfl rfl rfl rfl) <|aD ?_)
 refine aT ?_
 obtain rfl:=Option.some.inj h
 refine ⟨.inr rfl,(.cons (sv rfl) .nil)⟩

theorem gL (a0 : (List aJ)) (a1 : aJ) (r : Int) (h : dF a0 a1 = some r) : cF Tryz.prog 176 [.slice false (a0.map aB.d),.fn 177 [.fptr (v7 a1)]] (.int .i64 r):=by
 refine bA (rs:=[.int .i64 r]) Tryz.func176 rfl Tryz.ntmps176 (nle rfl) rfl fun O hO=>?_
 show IWP _ _ _ _ ⟨[(0,.slice false (a0.map aB.d)),(1,.fn 177 [.fptr (v7 a1)])],[]⟩ _
 unfold dF at h
 refine aE (aA rfl (aH rfl rfl (lb rfl) (sv (d:=.int _ 0) rfl)) <|aD ?_)
 refine bC ?_
 refine aE (aA rfl (mvL rfl rfl rfl rfl) <|aA rfl (dL aB (l:=a0) rfl rfl (lb rfl) Tryz.underlying33 (svL rfl)) <|aA rfl (aM rfl rfl (lb rfl) (sv (d:=.int _ 0) rfl)) <|aD ?_)
 refine bZ ?_
 refine dW (α:=Nat × Int) (fun z=>⟨[(0,.slice false (a0.map aB.d)),(1,.fn 177 [.fptr (v7 a1)]),(7,.int .i64 (a0.length : Int)),(8,.int .i64 z.2)],[]⟩) (fun z=>bP a0 a1 z.1 z.2 = some r) (fun z=>z.1) (fuel,0) (fun i=>i) ⟨(.sames rfl rfl),.nil,cK [] rfl (by decide),fun _ _=>rfl⟩ ?_ ?_
 ·exact h
 ·
  rintro ⟨n0,v7⟩ h
  cases n0 with
  | zero=>exact absurd h (by unfold bP; exact nofun)
  | succ n0 =>
   unfold bP at h
   obtain ⟨x14,hx14,h⟩:=aQ h
   refine aE (aA rfl (aP rfl rfl (lb rfl) (svI rfl) (svI rfl) rfl hx14) <|aD ?_)
   refine bC ?_
   refine aV (b:=_) rfl (fun hc15=>?_) (fun hc15=>?_)
   ·
    replace h:=cD h hc15
    refine aY ?_
    refine aS ?_
    refine bC ?_
    refine bZ ?_
    refine aE (aA rfl (mvI rfl rfl rfl rfl) <|aA rfl (asI rfl rfl rfl rfl) <|aD ?_)
    obtain ⟨x16,hx16,h⟩:=bF h
    obtain ⟨x17,hx17,h⟩:=bF h
    refine aE (aA rfl (aM rfl rfl (lb rfl) (sv (d:=.fn 177 [.fptr q20]) rfl)) <|aA rfl (mvL rfl rfl rfl rfl) <|aA rfl (mvI rfl rfl rfl rfl) <|aA rfl (dY aB (cs:=q20) rfl rfl (lb rfl) Tryz.underlying33 dH (svL rfl) (svI rfl) hx16 rfl rfl) <|aA rfl (dE (cs:=q20) rfl rfl (lb rfl) Tryz.underlying105 nN dH (by decide) (sv (d:=.fptr q20) rfl) (nle rfl) rfl) <|aA rfl (nB (r:=.bool _) rfl rfl (lb rfl) cl177 (sv (d:=.fn 177 [.fptr q20]) rfl) (.cons (svA q20 rfl) .nil) rfl (oU _ _ _ hx17)) <|aD ?_)
    refine aV (b:=_) rfl (fun hc18=>?_) (fun hc18=>?_)
    ·
     replace h:=cD h hc18
     refine aE (aA rfl (mvI rfl rfl rfl rfl) <|aA rfl (asI rfl rfl rfl rfl) <|aD ?_)
     refine aT ?_
     refine cS ?_
     refine bI ?_
     refine bI ?_
     refine cS ?_
     refine bI ?_
     obtain rfl:=Option.some.inj h
     refine ⟨.inr rfl,(.cons (sv rfl) .nil)⟩
    ·
     replace h:=cE h hc18
     refine aY ?_
     refine cO ?_
     refine aS ?_
     obtain ⟨x19,hx19,h⟩:=aQ h
     refine bO (aA rfl (bM rfl rfl (lb rfl) (svI rfl) (sv (d:=.int _ 1) rfl) rfl hx19) <|aA rfl (mvI rfl rfl rfl rfl) <|cL ?_)
     refine aS ⟨(n0,x19),(fun i=>i),⟨(.sames rfl rfl),.nil,cK [] rfl (by decide),fun _ _=>rfl⟩,?_,?_⟩
     exact h
     exact Nat.lt_succ_self _
   ·
    replace h:=cE h hc15
    refine eE ?_
    refine cU ?_
    refine cU ?_
    refine eG ?_
    refine aS ?_
    refine aE (aA rfl (aH rfl rfl (lb rfl) (sv (d:=.int _ (-1)) rfl)) <|aD ?_)
    refine aT ?_
    obtain rfl:=Option.some.inj h
    refine ⟨.inr rfl,(.cons (sv rfl) .nil)⟩

theorem pX (a0 : aW) (a1 : aJ) (r : Int) (h : iH a0 a1 = some r) : cF Tryz.prog 138 [.agg (v2 a0),.agg (v7 a1)] (.int .i64 r):=by
 refine bA (rs:=[.int .i64 r]) Tryz.func138 rfl Tryz.ntmps138 (nle rfl) rfl fun O hO=>?_
 show IWP _ _ _ _ ⟨[(0,.agg (v2 a0)),(1,.agg (v7 a1))],[]⟩ _
 unfold iH at h
 refine aE (aA rfl (bR (cs:=q15) 0 rfl rfl (lb rfl) rfl (svA q15 rfl) rfl rfl) <|aA rfl (bR (cs:=q20) 1 rfl rfl (lb rfl) rfl (svA q20 rfl) rfl rfl) <|aA rfl (aH rfl rfl (lb rfl) (sv (d:=.int _ 0) rfl)) <|aD ?_)
 obtain ⟨x1,hx1,h⟩:=bF h
 obtain ⟨x2,hx2,h⟩:=bF h
 obtain ⟨x3,hx3,h⟩:=bF h
 obtain ⟨x4,hx4,h⟩:=aQ h
 obtain ⟨x5,hx5,h⟩:=bF h
 obtain ⟨x6,hx6,h⟩:=bF h
 refine dD rfl [⟨[2],[],[(5,.ref 0 3)],[]⟩,
  ⟨[5],[0],[(6,.slice false (a0.Pieces.map aB.d))],[]⟩,
  ⟨[2],[],[(7,.ref 0 3)],[]⟩,
  ⟨[7],[0],[(8,.slice false (a0.Pieces.map aB.d))],[]⟩,
  ⟨[8],[],[(9,.int .i64 (a0.Pieces.length : Int))],[]⟩,
  ⟨[2],[],[(10,.ref 0 3)],[]⟩,
  ⟨[10],[0],[(11,.slice false (a0.Pieces.map aB.d))],[]⟩,
  ⟨[11],[],[(12,.int .i64 (a0.Pieces.length : Int))],[]⟩,
  ⟨[6,9,12],[],[(13,.slice true (x1.map aB.d))],[]⟩,
  ⟨[2],[0],[(14,.agg (v2 a0))],[]⟩,
  ⟨[14],[],[(15,.int .i64 x2)],[]⟩,
  ⟨[2],[0],[(16,.agg (v2 a0))],[]⟩,
  ⟨[16],[],[(17,.int .i64 x3)],[]⟩,
  ⟨[17],[],[(18,.int .i64 x4)],[]⟩,
  ⟨[15,18],[],[(19,.agg (w46 x2 x4 0 false))],[]⟩,
  ⟨[19],[2],[(20,.osl 2 aB.sz (([(⟨x2,x4,0,false⟩ : aJ)] : (List aJ)).length))],[(2,.blk 105 (D.flat ((([(⟨x2,x4,0,false⟩ : aJ)] : (List aJ))).map aB.d)))]⟩,
  ⟨[13,20],[2,3],[(21,.osl 3 aB.sz x5.length)],[(3,.blk 105 (D.flat (x5.map aB.d)))]⟩,
  ⟨[3],[],[(22,.fn 177 [.ref 1 0])],[]⟩,
  ⟨[21,22],[1,3],[(23,.int .i64 x6)],[]⟩,
  ⟨[23],[],[(4,.int .i64 x6)],[]⟩] rfl ?_ (by kernel_rfl) ?_
 ·refine .cons (lop rfl rfl fun S hA=>(aI rfl rfl (lb rfl) Tryz.underlying37 rfl ti33 (by decide) (svaR hA rfl rfl) (off':=3) rfl)) ?_
  refine .cons (lop rfl rfl fun S hA=>(aF (d:=.slice _ _) rfl rfl (lb rfl) Tryz.underlying33 ag33 ti33 (by decide) (svaR hA rfl rfl) (agi hA rfl rfl) (nle rfl) rfl)) ?_
  refine .cons (lop rfl rfl fun S hA=>(aI rfl rfl (lb rfl) Tryz.underlying37 rfl ti33 (by decide) (svaR hA rfl rfl) (off':=3) rfl)) ?_
  refine .cons (lop rfl rfl fun S hA=>(aF (d:=.slice _ _) rfl rfl (lb rfl) Tryz.underlying33 ag33 ti33 (by decide) (svaR hA rfl rfl) (agi hA rfl rfl) (nle rfl) rfl)) ?_
  refine .cons (lop rfl rfl fun S hA=>(dL aB (l:=a0.Pieces) rfl rfl (lb rfl) Tryz.underlying33 (svaL hA rfl rfl))) ?_
  refine .cons (lop rfl rfl fun S hA=>(aI rfl rfl (lb rfl) Tryz.underlying37 rfl ti33 (by decide) (svaR hA rfl rfl) (off':=3) rfl)) ?_
  refine .cons (lop rfl rfl fun S hA=>(aF (d:=.slice _ _) rfl rfl (lb rfl) Tryz.underlying33 ag33 ti33 (by decide) (svaR hA rfl rfl) (agi hA rfl rfl) (nle rfl) rfl)) ?_
  refine .cons (lop rfl rfl fun S hA=>(dL aB (l:=a0.Pieces) rfl rfl (lb rfl) Tryz.underlying33 (svaL hA rfl rfl))) ?_
  refine .cons (lop rfl rfl fun S hA=>(aAg aB rfl rfl (lb rfl) Tryz.underlying33 dH (svaL hA rfl rfl) (svaI hA rfl rfl) (svaI hA rfl rfl) hx1)) ?_
  refine .cons (lop rfl rfl fun S hA=>(bK (cs:=q15) rfl rfl (lb rfl) Tryz.underlying37 ag37 ti37 (by decide) (svaR hA rfl rfl) (agi hA rfl rfl) (nle rfl) rfl)) ?_
  refine .cons (lop rfl rfl fun S hA=>(aU (r:=.int _ _) rfl rfl (lb rfl) xA (.cons (svaA q15 hA rfl rfl) .nil) rfl (eZ _ _ hx2))) ?_
  refine .cons (lop rfl rfl fun S hA=>(bK (cs:=q15) rfl rfl (lb rfl) Tryz.underlying37 ag37 ti37 (by decide) (svaR hA rfl rfl) (agi hA rfl rfl) (nle rfl) rfl)) ?_
  refine .cons (lop rfl rfl fun S hA=>(aU (r:=.int _ _) rfl rfl (lb rfl) xA (.cons (svaA q15 hA rfl rfl) .nil) rfl (eZ _ _ hx3))) ?_
  refine .cons (lop rfl rfl fun S hA=>(bM rfl rfl (lb rfl) (svaI hA rfl rfl) (sv (d:=.int _ 1) rfl) rfl hx4)) ?_
  refine .cons (lop rfl rfl fun S hA=>(bS (cs:=q20) rfl rfl (lb rfl) Tryz.underlying105 dH xG rfl (.cons (svaI hA rfl rfl) (.cons (svaI hA rfl rfl) .nil)) rfl)) ?_
  refine .cons (lop rfl rfl fun S hA=>(pK aB.toEnc0 ([(⟨x2,x4,0,false⟩ : aJ)] : (List aJ)) 2 rfl rfl (lb rfl) Tryz.underlying33 dH (agi hA rfl rfl) (.cons (svaA q20 hA rfl rfl) .nil) rfl rfl (by decide))) ?_
  refine .cons (lop rfl rfl fun S hA=>(aBg aB.toEnc0 3 rfl rfl (lb rfl) Tryz.underlying33 dH rfl (svaL hA rfl rfl) (agi hA rfl rfl) (zF aB.toEnc0 (agr hA rfl rfl) rfl (agi hA rfl rfl)) (by simp) hx5)) ?_
  refine .cons (lop rfl rfl fun S hA=>(jW rfl rfl (lb rfl) (.cons (svaR hA rfl rfl) .nil))) ?_
  refine .cons (lop rfl rfl fun S hA=>(oL (r:=.int .i64 x6) rfl rfl (lb rfl) cl176 (.cons (sv (d:=.osl _ _ _) (agr hA rfl rfl)) (.cons (sv (d:=.fn 177 [.ref _ _]) (agr hA rfl rfl)) .nil)) (.cons (FDT aB (agi hA rfl rfl) rfl) (.cons (.fn (.cons (.ref (agi hA rfl rfl) rfl (oS _) rfl) .nil)) .nil)) rfl rfl (gL _ _ _ hx6))) ?_
  refine .cons (lop rfl rfl fun S hA=>(aH rfl rfl (lb rfl) (svaI hA rfl rfl))) ?_
  exact .nil
 refine aT ?_
 obtain rfl:=Option.some.inj h
 refine ⟨.inr rfl,(.cons (sv rfl) .nil)⟩
end Go.Proofs.YtnokcmkfkfeaiaaGreat
