/-
  A part of the proof: rules and plain facts. No condition.
-/
import Derived.Test.YthjfhdlaockolaaProg
import Derived.KernelRfl
import Derived.Test.YthjfhdlaockolaaIlA34dD
set_option linter.all false
set_option linter.unusedSimpArgs false
set_option linter.unusedVariables false
set_option maxRecDepth 8000
set_option maxHeartbeats 2000000
open Go Go.IL Go.Fn Go.Proofs
namespace Go.Proofs.Ythjfhdlaockolaa
theorem ti3 : TI Try.prog 3 (some (.int .i64 0)) 1 8 := by unfold TI; kernel_rfl
theorem ti4 : TI Try.prog 4 (some (.bool false)) 1 1 := by unfold TI; kernel_rfl
theorem ti5 : TI Try.prog 5 (some (.int .u8 0)) 1 1 := by unfold TI; kernel_rfl
theorem ti22 : TI Try.prog 22 (some (.slice none 0 0)) 1 24 := by unfold TI; kernel_rfl
theorem ti23 : TI Try.prog 23 (some (.slice none 0 0)) 1 24 := by unfold TI; kernel_rfl
theorem ti30 : TI Try.prog 30 (some (.slice none 0 0)) 1 24 := by unfold TI; kernel_rfl
theorem ti32 : TI Try.prog 32 (some (.agg #[.int .i64 0, .int .i64 0, .slice none 0 0, .slice none 0 0])) 4 64 := by unfold TI; kernel_rfl
theorem ti34 : TI Try.prog 34 (some (.int .i64 0)) 1 8 := by unfold TI; kernel_rfl
theorem ti37 : TI Try.prog 37 (some (.agg #[.int .u8 0, .int .i64 0, .int .i64 0, .int .i64 0, .bool false])) 5 40 := by unfold TI; kernel_rfl
theorem ti56 : TI Try.prog 56 (some (.agg #[.int .i64 0, .int .i64 0, .int .i64 0, .bool false])) 4 32 := by unfold TI; kernel_rfl
theorem ag3 : aggOf Try.prog 3 = false := by kernel_rfl
theorem ag4 : aggOf Try.prog 4 = false := by kernel_rfl
theorem ag5 : aggOf Try.prog 5 = false := by kernel_rfl
theorem ag22 : aggOf Try.prog 22 = false := by kernel_rfl
theorem ag23 : aggOf Try.prog 23 = false := by kernel_rfl
theorem ag30 : aggOf Try.prog 30 = false := by kernel_rfl
theorem ag32 : aggOf Try.prog 32 = true := by kernel_rfl
theorem ag37 : aggOf Try.prog 37 = true := by kernel_rfl
theorem ag56 : aggOf Try.prog 56 = true := by kernel_rfl
theorem ex76 : ExternAt Try.prog 76 (Extern.SlicesOverlaps.overlaps #[30, 30] #[4]) := ⟨Try.f76, Try.func76, by kernel_rfl, by kernel_rfl, by kernel_rfl, by kernel_rfl⟩
theorem pl37 : ∀ w, (Array.mapM (m := Sem) (fun (f : Field) => Functor.map (Prod.mk f.offset) (sizeOf f.type)) (fieldsOf Try.prog 37)).run Try.prog w = .ok #[(0, 1), (1, 1), (2, 1), (3, 1), (4, 1)] w := fun w => by kernel_rfl
theorem pl56 : ∀ w, (Array.mapM (m := Sem) (fun (f : Field) => Functor.map (Prod.mk f.offset) (sizeOf f.type)) (fieldsOf Try.prog 56)).run Try.prog w = .ok #[(0, 1), (1, 1), (2, 1), (3, 1)] w := fun w => by kernel_rfl
theorem cl10 : Callable Try.prog 10 := ⟨Try.f10, Try.func10, rfl, rfl⟩
theorem cl14 : Callable Try.prog 14 := ⟨Try.f14, Try.func14, rfl, rfl⟩
theorem cl27 : Callable Try.prog 27 := ⟨Try.f27, Try.func27, rfl, rfl⟩
theorem cl28 : Callable Try.prog 28 := ⟨Try.f28, Try.func28, rfl, rfl⟩
theorem cl29 : Callable Try.prog 29 := ⟨Try.f29, Try.func29, rfl, rfl⟩
theorem cl30 : Callable Try.prog 30 := ⟨Try.f30, Try.func30, rfl, rfl⟩
theorem cl31 : Callable Try.prog 31 := ⟨Try.f31, Try.func31, rfl, rfl⟩
theorem cl39 : Callable Try.prog 39 := ⟨Try.f39, Try.func39, rfl, rfl⟩
theorem cl40 : Callable Try.prog 40 := ⟨Try.f40, Try.func40, rfl, rfl⟩
theorem cl41 : Callable Try.prog 41 := ⟨Try.f41, Try.func41, rfl, rfl⟩
theorem cl42 : Callable Try.prog 42 := ⟨Try.f42, Try.func42, rfl, rfl⟩
theorem cl43 : Callable Try.prog 43 := ⟨Try.f43, Try.func43, rfl, rfl⟩
theorem cl51 : Callable Try.prog 51 := ⟨Try.f51, Try.func51, rfl, rfl⟩
theorem cl52 : Callable Try.prog 52 := ⟨Try.f52, Try.func52, rfl, rfl⟩
theorem cl54 : Callable Try.prog 54 := ⟨Try.f54, Try.func54, rfl, rfl⟩
theorem cl58 : Callable Try.prog 58 := ⟨Try.f58, Try.func58, rfl, rfl⟩
theorem cl59 : Callable Try.prog 59 := ⟨Try.f59, Try.func59, rfl, rfl⟩
theorem cl60 : Callable Try.prog 60 := ⟨Try.f60, Try.func60, rfl, rfl⟩
theorem cl61 : Callable Try.prog 61 := ⟨Try.f61, Try.func61, rfl, rfl⟩
theorem cl62 : Callable Try.prog 62 := ⟨Try.f62, Try.func62, rfl, rfl⟩
theorem cl63 : Callable Try.prog 63 := ⟨Try.f63, Try.func63, rfl, rfl⟩
theorem cl64 : Callable Try.prog 64 := ⟨Try.f64, Try.func64, rfl, rfl⟩
theorem cl65 : Callable Try.prog 65 := ⟨Try.f65, Try.func65, rfl, rfl⟩
theorem cl66 : Callable Try.prog 66 := ⟨Try.f66, Try.func66, rfl, rfl⟩
theorem cl67 : Callable Try.prog 67 := ⟨Try.f67, Try.func67, rfl, rfl⟩
theorem cl72 : Callable Try.prog 72 := ⟨Try.f72, Try.func72, rfl, rfl⟩
theorem cl73 : Callable Try.prog 73 := ⟨Try.f73, Try.func73, rfl, rfl⟩
theorem cl78 : Callable Try.prog 78 := ⟨Try.f78, Try.func78, rfl, rfl⟩
def la22 := LA.mk Try.underlying22 ag22 ti22 (by decide)
def la23 := LA.mk Try.underlying23 ag23 ti23 (by decide)
def la30 := LA.mk Try.underlying30 ag30 ti30 (by decide)
def la32 := LA.mk Try.underlying32 ag32 ti32 (by decide)
def la37 := LA.mk Try.underlying37 ag37 ti37 (by decide)
def la56 := LA.mk Try.underlying56 ag56 ti56 (by decide)
abbrev v0 (x : T_fold_State) : List D := [.int .i64 x.Room, .int .i64 x.Keep, .slice false (x.Nodes.map E_ptree_Node.d), .slice false (x.Ended.map (eInt .i64).d)]
abbrev v1 (x : T_sennitref19_Tree) : List D := [.int .i64 x.Room, .int .i64 x.Keep, .slice false (x.L.map E_ptree_Node.d), .slice false (x.Closed.map (eInt .i64).d)]
abbrev v2 (x : T_fold_Op) : List D := [.int .u8 x.Kind, .int .i64 x.ID, .int .i64 x.Dep, .int .i64 x.Weight, .bool x.Only]
abbrev v3 (x : T_ptree_Node) : List D := [.int .i64 x.ID, .int .i64 x.Parent, .int .i64 x.Weight, .bool x.Closed]
abbrev q4 {a1 : IntKind} {a2 : Int} {a3 : IntKind} {a4 : Int} {a5 : IntKind} {a6 : Int} {a7 : IntKind} {a8 : Int} {a9 : Bool} : List D := [.int a1 a2, .int a3 a4, .int a5 a6, .int a7 a8, .bool a9]
abbrev q5 {a1 : IntKind} {a2 : Int} {a3 : IntKind} {a4 : Int} {a5 : Bool} {a6 : List D} {a7 : Bool} {a8 : List D} : List D := [.int a1 a2, .int a3 a4, .slice a5 a6, .slice a7 a8]
abbrev q6 {a1 : IntKind} {a2 : Int} {a3 : IntKind} {a4 : Int} {a5 : Nat} {a6 : Nat} {a7 : Nat} {a8 : Nat} {a9 : Nat} {a10 : Nat} : List D := [.int a1 a2, .int a3 a4, .osl a5 a6 a7, .osl a8 a9 a10]
abbrev q7 {a1 : IntKind} {a2 : Int} {a3 : IntKind} {a4 : Int} {a5 : Nat} {a6 : Nat} {a7 : List D} {a8 : Bool} {a9 : List D} : List D := [.int a1 a2, .int a3 a4, .gsl a5 a6 a7, .slice a8 a9]
abbrev q8 {a1 : IntKind} {a2 : Int} {a3 : IntKind} {a4 : Int} {a5 : IntKind} {a6 : Int} {a7 : Bool} : List D := [.int a1 a2, .int a3 a4, .int a5 a6, .bool a7]
abbrev q9 {a1 : IntKind} {a2 : Int} {a3 : IntKind} {a4 : Int} {a5 : Bool} {a6 : List D} : List D := [.int a1 a2, .int a3 a4, .nils, .slice a5 a6]
abbrev q10 {a1 : IntKind} {a2 : Int} {a3 : IntKind} {a4 : Int} : List D := [.int a1 a2, .int a3 a4, .nils, .nils]
abbrev q11 {a1 : Nat} {a2 : Nat} {a3 : Nat} {a4 : Nat} {a5 : Nat} {a6 : Nat} : List D := [.ref a1 a2, .ref a3 a4, .ref a5 a6]
abbrev q12 {a1 : IntKind} {a2 : Int} {a3 : IntKind} {a4 : Int} : List D := [.int a1 a2, .int a3 a4]
abbrev q13 {a1 : IntKind} {a2 : Int} {a3 : Bool} : List D := [.int a1 a2, .bool a3]
abbrev w14 (a0 : Int) (a1 : Int) (a2 : List T_ptree_Node) (a3 : List Int) : List D := [.int .i64 a0, .int .i64 a1, .slice false (a2.map E_ptree_Node.d), .slice false (a3.map (eInt .i64).d)]
abbrev w15 (a0 : Int) (a1 : Int) (a2 : Int) (a3 : Int) (a4 : Bool) : List D := [.int .u8 a0, .int .i64 a1, .int .i64 a2, .int .i64 a3, .bool a4]
abbrev w16 (a0 : Int) (a1 : Int) (a2 : Int) (a3 : Bool) : List D := [.int .i64 a0, .int .i64 a1, .int .i64 a2, .bool a3]
abbrev w17 (a0 : D) (a1 : Int) (a2 : Int) (a3 : Int) : List D := [a0, .int .i64 a1, .int .i64 a2, .int .i64 a3]
abbrev w18 (a0 : Int) (a1 : Int) (a2 : D) (a3 : D) : List D := [.int .i64 a0, .int .i64 a1, a2, a3]


theorem p_sennitlaw34_few (a0 : T_fold_State) (r : Bool) (h : sennitlaw34_few a0 = some r) : PureAt Try.prog 7 [.agg (v0 a0)] (.bool r) := by
 refine pure_of_iwp (rs := [.bool r]) Try.func7 rfl Try.ntmps7 (nle rfl) rfl fun O hO => ?_
 show IWP _ _ _ _ ⟨[(0, .agg (v0 a0))], []⟩ _
 unfold sennitlaw34_few at h
 refine iwp_reg (ils_cons rfl (iop_box' (cs := q5) 0 rfl rfl (lb rfl) rfl (svA q5 rfl) rfl rfl) <|
  ils_cons rfl (iop_assign rfl rfl (lb rfl) (sv (d := .bool false) rfl)) <|
  ils_end ?_)
 obtain ⟨x1, hx1, h⟩ := bnd_e h
 obtain ⟨x2, hx2, h⟩ := bnd_e h
 obtain ⟨x3, hx3, h⟩ := bnd_e h
 refine iwp_reg (ils_cons rfl (faR 2 rfl rfl rfl Try.underlying25 rfl ti22 (lb rfl) rfl rfl) <|
  ils_cons rfl (lrL la22 rfl rfl rfl rfl rfl (nle rfl) rfl) <|
  ils_cons rfl (iop_lenT E_ptree_Node (l := a0.Nodes) rfl rfl (lb rfl) Try.underlying22 (svL rfl)) <|
  ils_cons rfl (iop_cmpx rfl rfl (lb rfl) (svI rfl) (sv (d := .int _ 30) rfl) rfl hx1) <|
  ils_cons rfl (mvB rfl rfl rfl rfl) <|
  ils_guard rfl rfl (.one rfl) rfl (by decide) (fun hb => (faR 3 rfl rfl rfl Try.underlying25 rfl ti23 (lb rfl) rfl rfl)) <|
  ils_guard rfl rfl (.one rfl) rfl (by decide) (fun hb => (iop_load_rs (d := .slice _ _) rfl rfl (lb rfl) Try.underlying23 ag23 ti23 (by decide) (svcR rfl hb) rfl (nle rfl) rfl)) <|
  ils_guard rfl rfl (.one rfl) rfl (by decide) (fun hb => (iop_lenT (eInt .i64) (l := a0.Ended) rfl rfl (lb rfl) Try.underlying23 (svcL rfl hb))) <|
  ils_guard rfl rfl (.one rfl) rfl (by decide) (fun hb => (iop_cmpx rfl rfl (lb rfl) (svcI rfl hb) (sv (d := .int _ 30) rfl) rfl hx2)) <|
  ils_cons rfl (iop_andx rfl rfl (lb rfl) (svB rfl) rfl rfl hx3) <|
  ils_cons rfl (asB rfl rfl rfl rfl) <|
  ils_end ?_)
 refine iwp_ret ?_
 obtain rfl := Option.some.inj h
 refine ⟨.inr rfl, (.cons (sv rfl) .nil)⟩

theorem p_slices_Clone_ptree_Node_ptree_Node_h (a0 : (List T_ptree_Node)) (r : (List T_ptree_Node)) (h : slices_Clone_ptree_Node_ptree_Node_h a0 = some r) : FnH Try.prog 59 [.slice false (a0.map E_ptree_Node.d)] [] (.osl 0 E_ptree_Node.sz r.length) [(0, .blk 56 (D.flat (r.map E_ptree_Node.d)))] := by
 refine fnh_of_iwp (rs := [.osl 0 E_ptree_Node.sz r.length]) Try.func59 rfl Try.ntmps59 (nle rfl) fun O hO => ?_
 show IWP _ _ _ _ ⟨[(0, .slice false (a0.map E_ptree_Node.d))], []⟩ _
 unfold slices_Clone_ptree_Node_ptree_Node_h at h
 refine iwp_reg (ils_cons rfl (iop_assign rfl rfl (lb rfl) (sv (d := .nils) rfl)) <|
  ils_end ?_)
 refine iwp_seq ?_
 refine iwp_reg (ils_cons rfl (mvL rfl rfl rfl rfl) <|
  ils_eqnil rfl rfl rfl (by decide) Try.underlying30 (svL rfl) rfl <| fun bn1 hbn1 =>
  ils_end ?_)
 refine iwp_cond (b := _) rfl (fun hc2 => ?_) (fun hc2 => ?_)
 ·
  replace h := bothE_t h (mapE (hbn1 hc2))
  refine iwp_reg (ils_cons rfl (iop_assign rfl rfl (lb rfl) (sv (d := .nils) rfl)) <|
   ils_end ?_)
  refine iwp_ret ?_
  refine thenQ_r ?_
  obtain rfl := Option.some.inj h
  refine ⟨.inr rfl, (fun i => if i = 0 then 50 else i), ⟨.nil, (.cons (.nilb rfl) .nil), nd_of [50] rfl (by decide), (fun i hi => by first | rfl | (show (if _ then _ else _) = _; (repeat' split) <;> omega))⟩, (.cons (svno rfl) .nil), rfl⟩
 ·
  replace h := bothE_f h
  refine iwp_skip ?_
  refine thenQ_n ?_
  obtain ⟨x3, hx3, h⟩ := bno_e h
  refine iwp_reg (ils_cons rfl (iop_bsO E_ptree_Node.toEnc0 ([] : (List T_ptree_Node)) 0 rfl rfl (lb rfl) Try.underlying30 ti56 rfl .nil rfl rfl (by decide)) <|
   ils_cons rfl (mvL rfl rfl rfl rfl) <|
   ils_cons rfl (iop_appO E_ptree_Node.toEnc0 1 rfl rfl (lb rfl) Try.underlying30 ti56 rfl rfl rfl rfl rfl (src_T E_ptree_Node (ys := a0) (svL rfl)) hx3) <|
   ils_cons rfl (iop_assign rfl rfl (lb rfl) (sv (d := .osl _ _ _) rfl)) <|
   ils_end ?_)
  refine iwp_ret ?_
  obtain rfl := Option.some.inj h
  refine ⟨.inr rfl, (fun i => if i = 0 then 1 else i), ⟨.nil, (.cons (EntW.lst rfl) .nil), nd_of [1] rfl (by decide), (fun i hi => by first | rfl | (show (if _ then _ else _) = _; (repeat' split) <;> omega))⟩, (.cons (sv rfl) .nil), rfl⟩

theorem p_slices_Clone_int_int_h (a0 : (List Int)) (r : (List Int)) (h : slices_Clone_int_int_h a0 = some r) : FnH Try.prog 60 [.slice false (a0.map (eInt .i64).d)] [] (.osl 0 (eInt .i64).sz r.length) [(0, .blk 3 (D.flat (r.map (eInt .i64).d)))] := by
 refine fnh_of_iwp (rs := [.osl 0 (eInt .i64).sz r.length]) Try.func60 rfl Try.ntmps60 (nle rfl) fun O hO => ?_
 show IWP _ _ _ _ ⟨[(0, .slice false (a0.map (eInt .i64).d))], []⟩ _
 unfold slices_Clone_int_int_h at h
 refine iwp_reg (ils_cons rfl (iop_assign rfl rfl (lb rfl) (sv (d := .nils) rfl)) <|
  ils_end ?_)
 refine iwp_seq ?_
 refine iwp_reg (ils_cons rfl (mvL rfl rfl rfl rfl) <|
  ils_eqnil rfl rfl rfl (by decide) Try.underlying23 (svL rfl) rfl <| fun bn1 hbn1 =>
  ils_end ?_)
 refine iwp_cond (b := _) rfl (fun hc2 => ?_) (fun hc2 => ?_)
 ·
  replace h := bothE_t h (mapE (hbn1 hc2))
  refine iwp_reg (ils_cons rfl (iop_assign rfl rfl (lb rfl) (sv (d := .nils) rfl)) <|
   ils_end ?_)
  refine iwp_ret ?_
  refine thenQ_r ?_
  obtain rfl := Option.some.inj h
  refine ⟨.inr rfl, (fun i => if i = 0 then 50 else i), ⟨.nil, (.cons (.nilb rfl) .nil), nd_of [50] rfl (by decide), (fun i hi => by first | rfl | (show (if _ then _ else _) = _; (repeat' split) <;> omega))⟩, (.cons (svno rfl) .nil), rfl⟩
 ·
  replace h := bothE_f h
  refine iwp_skip ?_
  refine thenQ_n ?_
  obtain ⟨x3, hx3, h⟩ := bno_e h
  refine iwp_reg (ils_cons rfl (iop_bsO (eInt .i64).toEnc0 ([] : (List Int)) 0 rfl rfl (lb rfl) Try.underlying23 ti3 rfl .nil rfl rfl (by decide)) <|
   ils_cons rfl (mvL rfl rfl rfl rfl) <|
   ils_cons rfl (iop_appO (eInt .i64).toEnc0 1 rfl rfl (lb rfl) Try.underlying23 ti3 rfl rfl rfl rfl rfl (src_T (eInt .i64) (ys := a0) (svL rfl)) hx3) <|
   ils_cons rfl (iop_assign rfl rfl (lb rfl) (sv (d := .osl _ _ _) rfl)) <|
   ils_end ?_)
  refine iwp_ret ?_
  obtain rfl := Option.some.inj h
  refine ⟨.inr rfl, (fun i => if i = 0 then 1 else i), ⟨.nil, (.cons (EntW.lst rfl) .nil), nd_of [1] rfl (by decide), (fun i hi => by first | rfl | (show (if _ then _ else _) = _; (repeat' split) <;> omega))⟩, (.cons (sv rfl) .nil), rfl⟩

theorem p_fold_State_own_h (a0 : T_fold_State) (r : (Int × Int × (List T_ptree_Node) × (List Int))) (h : fold_State_own_h a0 = some r) : FnH Try.prog 27 [.agg (v0 a0)] [] (.agg (w18 r.1 r.2.1 (.osl 0 E_ptree_Node.sz r.2.2.1.length) (.osl 1 (eInt .i64).sz r.2.2.2.length))) [(0, .blk 56 (D.flat (r.2.2.1.map E_ptree_Node.d))), (1, .blk 3 (D.flat (r.2.2.2.map (eInt .i64).d)))] := by
 refine fnh_of_iwp (rs := [.agg (w18 r.1 r.2.1 (.osl 0 E_ptree_Node.sz r.2.2.1.length) (.osl 1 (eInt .i64).sz r.2.2.2.length))]) Try.func27 rfl Try.ntmps27 (nle rfl) fun O hO => ?_
 show IWP _ _ _ _ ⟨[(0, .agg (v0 a0))], []⟩ _
 unfold fold_State_own_h at h
 refine iwp_reg (ils_cons rfl (iop_box' (cs := q5) 0 rfl rfl (lb rfl) rfl (svA q5 rfl) rfl rfl) <|
  ils_cons rfl (iop_allocS (cs := q10) (cs' := (w14 0 0 ([] : List T_ptree_Node) ([] : List Int))) 1 rfl rfl (lb rfl) rfl ti32 rfl rfl (.k (.k (.cons (.nils _) (.cons (.nils _) .nil))))) <|
  ils_end ?_)
 obtain ⟨x1, hx1, h⟩ := bno_e h
 obtain ⟨x2, hx2, h⟩ := bno_e h
 refine iwp_drw rfl [⟨[1], [], [(3, .ref 0 2)], []⟩,
  ⟨[3], [0], [(4, .slice false (a0.Nodes.map E_ptree_Node.d))], []⟩,
  ⟨[4], [2], [(5, .osl 2 E_ptree_Node.sz x1.length)], [(2, .blk 56 (D.flat (x1.map E_ptree_Node.d)))]⟩,
  ⟨[1], [], [(6, .ref 0 3)], []⟩,
  ⟨[6], [0], [(7, .slice false (a0.Ended.map (eInt .i64).d))], []⟩,
  ⟨[7], [3], [(8, .osl 3 (eInt .i64).sz x2.length)], [(3, .blk 3 (D.flat (x2.map (eInt .i64).d)))]⟩,
  ⟨[1], [], [(9, .ref 0 2)], []⟩,
  ⟨[5, 9], [0], [], [(0, .blk 32 [.int .i64 a0.Room, .int .i64 a0.Keep, .osl 2 E_ptree_Node.sz x1.length, .slice false (a0.Ended.map (eInt .i64).d)])]⟩,
  ⟨[1], [], [(10, .ref 0 3)], []⟩,
  ⟨[8, 10], [0], [], [(0, .blk 32 (w18 a0.Room a0.Keep (.osl 2 E_ptree_Node.sz x1.length) (.osl 3 (eInt .i64).sz x2.length)))]⟩] rfl ?_ (by kernel_rfl) ?_
 ·refine .cons (lop rfl rfl fun S hA => (iop_fieldAddr_ref rfl rfl (lb rfl) Try.underlying32 rfl ti30 (by decide) (svaR hA rfl rfl) (off' := 2) rfl)) ?_
  refine .cons (lop rfl rfl fun S hA => (iop_load_rs (d := .slice _ _) rfl rfl (lb rfl) Try.underlying30 ag30 ti30 (by decide) (svaR hA rfl rfl) (agi hA rfl rfl) (nle rfl) rfl)) ?_
  refine .cons (lop rfl rfl fun S hA => (iop_callM (r' := .osl 2 E_ptree_Node.sz x1.length) (U := [(2, .blk 56 (D.flat (x1.map E_ptree_Node.d)))]) 2 1 [] rfl rfl (lb rfl) cl59 (.cons (svaL hA rfl rfl) .nil) rfl rfl rfl (List.forall_mem_cons.2 ⟨(agi hA rfl rfl), List.forall_mem_nil _⟩) ⟨by decide, rfl, List.forall_mem_nil _⟩ (p_slices_Clone_ptree_Node_ptree_Node_h _ _ hx1) rfl rfl (List.forall_mem_cons.2 ⟨⟨rfl, (handLr E_ptree_Node)⟩, List.forall_mem_nil _⟩) (by simp only [List.map_cons, List.map_nil, Ent.ren, renL_flat, renL_ref]; rfl))) ?_
  refine .cons (lop rfl rfl fun S hA => (iop_fieldAddr_ref rfl rfl (lb rfl) Try.underlying32 rfl ti23 (by decide) (svaR hA rfl rfl) (off' := 3) rfl)) ?_
  refine .cons (lop rfl rfl fun S hA => (iop_load_rs (d := .slice _ _) rfl rfl (lb rfl) Try.underlying23 ag23 ti23 (by decide) (svaR hA rfl rfl) (agi hA rfl rfl) (nle rfl) rfl)) ?_
  refine .cons (lop rfl rfl fun S hA => (iop_callM (r' := .osl 3 (eInt .i64).sz x2.length) (U := [(3, .blk 3 (D.flat (x2.map (eInt .i64).d)))]) 3 1 [] rfl rfl (lb rfl) cl60 (.cons (svaL hA rfl rfl) .nil) rfl rfl rfl (List.forall_mem_cons.2 ⟨(agi hA rfl rfl), List.forall_mem_nil _⟩) ⟨by decide, rfl, List.forall_mem_nil _⟩ (p_slices_Clone_int_int_h _ _ hx2) rfl rfl (List.forall_mem_cons.2 ⟨⟨rfl, (handLr (eInt .i64))⟩, List.forall_mem_nil _⟩) (by simp only [List.map_cons, List.map_nil, Ent.ren, renL_flat, renL_ref]; rfl))) ?_
  refine .cons (lop rfl rfl fun S hA => (iop_fieldAddr_ref rfl rfl (lb rfl) Try.underlying32 rfl ti30 (by decide) (svaR hA rfl rfl) (off' := 2) rfl)) ?_
  refine .cons (lop rfl rfl fun S hA => (iop_store (ds' := [.int _ _, .int _ _, .osl _ _ _, .slice _ _]) rfl rfl ti30 (svaR hA rfl rfl) (agi hA rfl rfl) (sv (d := .osl _ _ _) (agr hA rfl rfl)) rfl rfl rfl (nle rfl) rfl)) ?_
  refine .cons (lop rfl rfl fun S hA => (iop_fieldAddr_ref rfl rfl (lb rfl) Try.underlying32 rfl ti23 (by decide) (svaR hA rfl rfl) (off' := 3) rfl)) ?_
  refine .cons (lop rfl rfl fun S hA => (iop_store (ds' := q6) rfl rfl ti23 (svaR hA rfl rfl) (agi hA rfl rfl) (sv (d := .osl _ _ _) (agr hA rfl rfl)) rfl rfl rfl (nle rfl) rfl)) ?_
  exact .nil
 refine iwp_reg (ils_cons rfl (lra q6 la32 rfl rfl rfl rfl rfl (nle rfl) rfl) <|
  ils_cons rfl (stA q6 q6 ti32 rfl rfl rfl rfl rfl rfl rfl rfl (nle rfl) rfl) <|
  ils_end ?_)
 refine iwp_ret ?_
 obtain rfl := Option.some.inj h
 refine ⟨.inr rfl, (fun i => if i = 0 then 2 else if i = 1 then 3 else i), ⟨.nil, (.cons (EntW.lst rfl) (.cons (EntW.lst rfl) .nil)), nd_of [2, 3] rfl (by decide), (fun i hi => by first | rfl | (show (if _ then _ else _) = _; (repeat' split) <;> omega))⟩, (.cons (rva la32 rfl rfl (nle rfl) rfl) .nil), rfl⟩

theorem p_fold_wrong (a0 : T_ptree_Node) (r : Bool) (h : fold_wrong a0 = some r) : PureAt Try.prog 40 [.agg (v3 a0)] (.bool r) := by
 refine pure_of_iwp (rs := [.bool r]) Try.func40 rfl Try.ntmps40 (nle rfl) rfl fun O hO => ?_
 show IWP _ _ _ _ ⟨[(0, .agg (v3 a0))], []⟩ _
 unfold fold_wrong at h
 refine iwp_reg (ils_cons rfl (iop_box' (cs := q8) 0 rfl rfl (lb rfl) rfl (svA q8 rfl) rfl rfl) <|
  ils_cons rfl (iop_assign rfl rfl (lb rfl) (sv (d := .bool false) rfl)) <|
  ils_end ?_)
 obtain ⟨x1, hx1, h⟩ := bnd_e h
 obtain ⟨x2, hx2, h⟩ := bnd_e h
 obtain ⟨x3, hx3, h⟩ := bnd_e h
 obtain ⟨x4, hx4, h⟩ := bnd_e h
 obtain ⟨x5, hx5, h⟩ := bnd_e h
 obtain ⟨x6, hx6, h⟩ := bnd_e h
 obtain ⟨x7, hx7, h⟩ := bnd_e h
 refine iwp_reg (ils_cons rfl (faR 0 rfl rfl rfl Try.underlying56 rfl ti3 (lb rfl) rfl rfl) <|
  ils_cons rfl (iop_load_rs (d := .int _ _) rfl rfl (lb rfl) Try.underlying3 ag3 ti3 (by decide) (svR rfl) rfl (nle rfl) rfl) <|
  ils_cons rfl (iop_cmpx rfl rfl (lb rfl) (svI rfl) (sv (d := .int _ 1) rfl) rfl hx1) <|
  ils_cons rfl (mvB rfl rfl rfl rfl) <|
  ils_guard rfl rfl (.one rfl) rfl (by decide) (fun hb => (faR 0 rfl rfl rfl Try.underlying56 rfl ti3 (lb rfl) rfl rfl)) <|
  ils_guard rfl rfl (.one rfl) rfl (by decide) (fun hb => (iop_load_rs (d := .int _ _) rfl rfl (lb rfl) Try.underlying3 ag3 ti3 (by decide) (svcR rfl hb) rfl (nle rfl) rfl)) <|
  ils_guard rfl rfl (.one rfl) rfl (by decide) (fun hb => (iop_cmpx rfl rfl (lb rfl) (svcI rfl hb) (sv (d := .int _ 1048576) rfl) rfl hx2)) <|
  ils_cons rfl (iop_orx rfl rfl (lb rfl) (svB rfl) rfl rfl hx3) <|
  ils_cons rfl (mvB rfl rfl rfl rfl) <|
  ils_guard rfl rfl (.one rfl) rfl (by decide) (fun hb => (faR 2 rfl rfl rfl Try.underlying56 rfl ti3 (lb rfl) rfl rfl)) <|
  ils_guard rfl rfl (.one rfl) rfl (by decide) (fun hb => (iop_load_rs (d := .int _ _) rfl rfl (lb rfl) Try.underlying3 ag3 ti3 (by decide) (svcR rfl hb) rfl (nle rfl) rfl)) <|
  ils_guard rfl rfl (.one rfl) rfl (by decide) (fun hb => (iop_cmpx rfl rfl (lb rfl) (svcI rfl hb) (sv (d := .int _ 1) rfl) rfl hx4)) <|
  ils_cons rfl (iop_orx rfl rfl (lb rfl) (svB rfl) rfl rfl hx5) <|
  ils_cons rfl (mvB rfl rfl rfl rfl) <|
  ils_guard rfl rfl (.one rfl) rfl (by decide) (fun hb => (faR 2 rfl rfl rfl Try.underlying56 rfl ti3 (lb rfl) rfl rfl)) <|
  ils_guard rfl rfl (.one rfl) rfl (by decide) (fun hb => (iop_load_rs (d := .int _ _) rfl rfl (lb rfl) Try.underlying3 ag3 ti3 (by decide) (svcR rfl hb) rfl (nle rfl) rfl)) <|
  ils_guard rfl rfl (.one rfl) rfl (by decide) (fun hb => (iop_cmpx rfl rfl (lb rfl) (svcI rfl hb) (sv (d := .int _ 256) rfl) rfl hx6)) <|
  ils_cons rfl (iop_orx rfl rfl (lb rfl) (svB rfl) rfl rfl hx7) <|
  ils_cons rfl (asB rfl rfl rfl rfl) <|
  ils_end ?_)
 refine iwp_ret ?_
 obtain rfl := Option.some.inj h
 refine ⟨.inr rfl, (.cons (sv rfl) .nil)⟩

theorem p_slices_IndexFunc_ptree_Node_ptree_Node_wrong (a0 : (List T_ptree_Node)) (r : Int) (h : slices_IndexFunc_ptree_Node_ptree_Node_wrong a0 = some r) : PureAt Try.prog 72 [.slice false (a0.map E_ptree_Node.d), .fn 40 []] (.int .i64 r) := by
 refine pure_of_iwp (rs := [.int .i64 r]) Try.func72 rfl Try.ntmps72 (nle rfl) rfl fun O hO => ?_
 show IWP _ _ _ _ ⟨[(0, .slice false (a0.map E_ptree_Node.d)), (1, .fn 40 [])], []⟩ _
 unfold slices_IndexFunc_ptree_Node_ptree_Node_wrong at h
 refine iwp_reg (ils_cons rfl (iop_assign rfl rfl (lb rfl) (sv (d := .int _ 0) rfl)) <|
  ils_end ?_)
 refine iwp_seq ?_
 refine iwp_reg (ils_cons rfl (mvL rfl rfl rfl rfl) <|
  ils_cons rfl (iop_lenT E_ptree_Node (l := a0) rfl rfl (lb rfl) Try.underlying30 (svL rfl)) <|
  ils_cons rfl (iop_move rfl rfl (lb rfl) (sv (d := .int _ 0) rfl)) <|
  ils_end ?_)
 refine iwp_block ?_
 refine iwp_loopP (α := Nat × Int) (fun z => ⟨[(0, .slice false (a0.map E_ptree_Node.d)), (1, .fn 40 []), (7, .int .i64 (a0.length : Int)), (8, .int .i64 z.2)], []⟩) (fun z => slices_IndexFunc_ptree_Node_ptree_Node_wrong_L0 a0 z.1 z.2 = some r) (fun z => z.1) (fuel, 0) (fun i => i) ⟨(.sames rfl rfl), .nil, nd_of [] rfl (by decide), fun _ _ => rfl⟩ ?_ ?_
 ·exact h
 ·
  rintro ⟨n0, v7⟩ h
  cases n0 with
  | zero => exact absurd h (by unfold slices_IndexFunc_ptree_Node_ptree_Node_wrong_L0; exact nofun)
  | succ n0 =>
   unfold slices_IndexFunc_ptree_Node_ptree_Node_wrong_L0 at h
   obtain ⟨x14, hx14, h⟩ := bnd_e h
   refine iwp_reg (ils_cons rfl (iop_cmpx rfl rfl (lb rfl) (svI rfl) (svI rfl) rfl hx14) <|
    ils_end ?_)
   refine iwp_seq ?_
   refine iwp_cond (b := _) rfl (fun hc15 => ?_) (fun hc15 => ?_)
   ·
    replace h := bif_t h hc15
    refine iwp_skip ?_
    refine thenQ_n ?_
    refine iwp_seq ?_
    refine iwp_block ?_
    refine iwp_reg (ils_cons rfl (mvI rfl rfl rfl rfl) <|
     ils_cons rfl (asI rfl rfl rfl rfl) <|
     ils_end ?_)
    obtain ⟨x16, hx16, h⟩ := bno_e h
    obtain ⟨x17, hx17, h⟩ := bno_e h
    refine iwp_reg (ils_cons rfl (iop_move rfl rfl (lb rfl) (sv (d := .fn 40 []) rfl)) <|
     ils_cons rfl (mvL rfl rfl rfl rfl) <|
     ils_cons rfl (mvI rfl rfl rfl rfl) <|
     ils_cons rfl (iop_idxT E_ptree_Node (cs := q8) rfl rfl (lb rfl) Try.underlying30 ti56 (svL rfl) (svI rfl) hx16 rfl rfl) <|
     ils_cons rfl (iop_load_fa (cs := q8) rfl rfl (lb rfl) Try.underlying56 ag56 ti56 (by decide) (sv (d := .fptr q8) rfl) (nle rfl) rfl) <|
     ils_cons rfl (iop_callv (r := .bool _) rfl rfl (lb rfl) cl40 (sv (d := .fn 40 []) rfl) (.cons (svA q8 rfl) .nil) rfl (p_fold_wrong _ _ hx17)) <|
     ils_end ?_)
    refine iwp_cond (b := _) rfl (fun hc18 => ?_) (fun hc18 => ?_)
    ·
     replace h := bif_t h hc18
     refine iwp_reg (ils_cons rfl (mvI rfl rfl rfl rfl) <|
      ils_cons rfl (asI rfl rfl rfl rfl) <|
      ils_end ?_)
     refine iwp_ret ?_
     refine blockQ_r ?_
     refine thenQ_r ?_
     refine thenQ_r ?_
     refine blockQ_r ?_
     refine thenQ_r ?_
     obtain rfl := Option.some.inj h
     refine ⟨.inr rfl, (.cons (sv rfl) .nil)⟩
    ·
     replace h := bif_f h hc18
     refine iwp_skip ?_
     refine blockQ_n ?_
     refine thenQ_n ?_
     obtain ⟨x19, hx19, h⟩ := bnd_e h
     refine iwp_region (ils_cons rfl (iop_intx rfl rfl (lb rfl) (svI rfl) (sv (d := .int _ 1) rfl) rfl hx19) <|
      ils_cons rfl (mvI rfl rfl rfl rfl) <|
      ils_nil ?_)
     refine thenQ_n ⟨(n0, x19), (fun i => i), ⟨(.sames rfl rfl), .nil, nd_of [] rfl (by decide), fun _ _ => rfl⟩, ?_, ?_⟩
     exact h
     exact Nat.lt_succ_self _
   ·
    replace h := bif_f h hc15
    refine iwp_exit ?_
    refine thenQ_e ?_
    refine thenQ_e ?_
    refine blockQ_e ?_
    refine thenQ_n ?_
    refine iwp_reg (ils_cons rfl (iop_assign rfl rfl (lb rfl) (sv (d := .int _ (-1)) rfl)) <|
     ils_end ?_)
    refine iwp_ret ?_
    obtain rfl := Option.some.inj h
    refine ⟨.inr rfl, (.cons (sv rfl) .nil)⟩

theorem p_slices_ContainsFunc_ptree_Node_ptree_Node_wrong (a0 : (List T_ptree_Node)) (r : Bool) (h : slices_ContainsFunc_ptree_Node_ptree_Node_wrong a0 = some r) : PureAt Try.prog 39 [.slice false (a0.map E_ptree_Node.d), .fn 40 []] (.bool r) := by
 refine pure_of_iwp (rs := [.bool r]) Try.func39 rfl Try.ntmps39 (nle rfl) rfl fun O hO => ?_
 show IWP _ _ _ _ ⟨[(0, .slice false (a0.map E_ptree_Node.d)), (1, .fn 40 [])], []⟩ _
 unfold slices_ContainsFunc_ptree_Node_ptree_Node_wrong at h
 refine iwp_reg (ils_cons rfl (iop_assign rfl rfl (lb rfl) (sv (d := .bool false) rfl)) <|
  ils_end ?_)
 obtain ⟨x1, hx1, h⟩ := bno_e h
 obtain ⟨x2, hx2, h⟩ := bnd_e h
 refine iwp_reg (ils_cons rfl (mvL rfl rfl rfl rfl) <|
  ils_cons rfl (iop_move rfl rfl (lb rfl) (sv (d := .fn 40 []) rfl)) <|
  ils_cons rfl (iop_call (r := .int _ _) rfl rfl (lb rfl) cl72 (.cons (svL rfl) (.cons (sv (d := .fn 40 []) rfl) .nil)) rfl (p_slices_IndexFunc_ptree_Node_ptree_Node_wrong _ _ hx1)) <|
  ils_cons rfl (iop_cmpx rfl rfl (lb rfl) (svI rfl) (sv (d := .int _ 0) rfl) rfl hx2) <|
  ils_cons rfl (asB rfl rfl rfl rfl) <|
  ils_end ?_)
 refine iwp_ret ?_
 obtain rfl := Option.some.inj h
 refine ⟨.inr rfl, (.cons (sv rfl) .nil)⟩

theorem p_fold_State_find_1 (a0 : T_ptree_Node) (a1 : Int) (r : Int) (h : fold_State_find_1 a0 a1 = some r) : PureAt Try.prog 64 [.agg (v3 a0), .int .i64 a1] (.int .i64 r) := by
 refine pure_of_iwp (rs := [.int .i64 r]) Try.func64 rfl Try.ntmps64 (nle rfl) rfl fun O hO => ?_
 show IWP _ _ _ _ ⟨[(0, .agg (v3 a0)), (1, .int .i64 a1)], []⟩ _
 unfold fold_State_find_1 at h
 refine iwp_reg (ils_cons rfl (iop_box' (cs := q8) 0 rfl rfl (lb rfl) rfl (svA q8 rfl) rfl rfl) <|
  ils_cons rfl (iop_assign rfl rfl (lb rfl) (sv (d := .int _ 0) rfl)) <|
  ils_end ?_)
 obtain ⟨x1, hx1, h⟩ := bnd_e h
 refine iwp_reg (ils_cons rfl (faR 0 rfl rfl rfl Try.underlying56 rfl ti3 (lb rfl) rfl rfl) <|
  ils_cons rfl (iop_load_rs (d := .int _ _) rfl rfl (lb rfl) Try.underlying3 ag3 ti3 (by decide) (svR rfl) rfl (nle rfl) rfl) <|
  ils_cons rfl (mvI rfl rfl rfl rfl) <|
  ils_cons rfl (iop_intx rfl rfl (lb rfl) (svI rfl) (svI rfl) rfl hx1) <|
  ils_cons rfl (asI rfl rfl rfl rfl) <|
  ils_end ?_)
 refine iwp_ret ?_
 obtain rfl := Option.some.inj h
 refine ⟨.inr rfl, (.cons (sv rfl) .nil)⟩

theorem p_slices_BinarySearchFunc_ptree_Node_ptree_Node_int_find_1 (a0 : (List T_ptree_Node)) (a1 : Int) (r : (Int × Bool)) (h : slices_BinarySearchFunc_ptree_Node_ptree_Node_int_find_1 a0 a1 = some r) : PureAt Try.prog 63 [.slice false (a0.map E_ptree_Node.d), .int .i64 a1, .fn 64 []] (retD [.int .i64 r.1, .bool r.2]) := by
 refine pure_of_iwp (rs := [.int .i64 r.1, .bool r.2]) Try.func63 rfl Try.ntmps63 (nle rfl) rfl fun O hO => ?_
 show IWP _ _ _ _ ⟨[(0, .slice false (a0.map E_ptree_Node.d)), (1, .int .i64 a1), (2, .fn 64 [])], []⟩ _
 unfold slices_BinarySearchFunc_ptree_Node_ptree_Node_int_find_1 at h
 refine iwp_reg (ils_cons rfl (iop_assign rfl rfl (lb rfl) (sv (d := .int _ 0) rfl)) <|
  ils_cons rfl (iop_assign rfl rfl (lb rfl) (sv (d := .bool false) rfl)) <|
  ils_end ?_)
 refine iwp_reg (ils_cons rfl (mvL rfl rfl rfl rfl) <|
  ils_cons rfl (iop_lenT E_ptree_Node (l := a0) rfl rfl (lb rfl) Try.underlying30 (svL rfl)) <|
  ils_cons rfl (asI rfl rfl rfl rfl) <|
  ils_end ?_)
 refine iwp_reg (ils_cons rfl (mvI rfl rfl rfl rfl) <|
  ils_cons rfl (iop_assign rfl rfl (lb rfl) (sv (d := .int _ 0) rfl)) <|
  ils_cons rfl (asI rfl rfl rfl rfl) <|
  ils_end ?_)
 refine iwp_seq ?_
 refine iwp_block ?_
 refine iwp_loopP (α := Nat × Int × Int) (fun z => ⟨[(0, .slice false (a0.map E_ptree_Node.d)), (1, .int .i64 a1), (2, .fn 64 []), (8, .int .i64 (a0.length : Int)), (9, .int .i64 z.2.1), (10, .int .i64 z.2.2)], []⟩) (fun z => slices_BinarySearchFunc_ptree_Node_ptree_Node_int_find_1_L0 a0 a1 z.1 z.2.1 z.2.2 = some r) (fun z => z.1) (fuel, 0, (a0.length : Int)) (fun i => i) ⟨(.sames rfl rfl), .nil, nd_of [] rfl (by decide), fun _ _ => rfl⟩ ?_ ?_
 ·exact h
 ·
  rintro ⟨n0, v12, v13⟩ h
  cases n0 with
  | zero => exact absurd h (by unfold slices_BinarySearchFunc_ptree_Node_ptree_Node_int_find_1_L0; exact nofun)
  | succ n0 =>
   unfold slices_BinarySearchFunc_ptree_Node_ptree_Node_int_find_1_L0 at h
   refine iwp_seq ?_
   obtain ⟨x25, hx25, h⟩ := bnd_e h
   refine iwp_reg (ils_cons rfl (mvI rfl rfl rfl rfl) <|
    ils_cons rfl (mvI rfl rfl rfl rfl) <|
    ils_cons rfl (iop_cmpx rfl rfl (lb rfl) (svI rfl) (svI rfl) rfl hx25) <|
    ils_end ?_)
   refine iwp_cond (b := _) rfl (fun hc26 => ?_) (fun hc26 => ?_)
   ·
    replace h := bif_t h hc26
    refine iwp_skip ?_
    refine thenQ_n ?_
    refine iwp_block ?_
    obtain ⟨x27, hx27, h⟩ := bnd_e h
    obtain ⟨x28, hx28, h⟩ := bnd_e h
    obtain ⟨x29, hx29, h⟩ := bno_e h
    obtain ⟨x30, hx30, h⟩ := bnd_e h
    refine iwp_reg (ils_cons rfl (mvI rfl rfl rfl rfl) <|
     ils_cons rfl (mvI rfl rfl rfl rfl) <|
     ils_cons rfl (iop_intx rfl rfl (lb rfl) (svI rfl) (svI rfl) rfl hx27) <|
     ils_cons rfl (iop_int_conv rfl rfl (lb rfl) ⟨_, Try.underlying3⟩ Try.underlying105 (svI rfl) hx28) <|
     ils_cons rfl (iop_shrx rfl rfl (lb rfl) (svI rfl) (sv (d := .int _ 1) rfl) hx29) <|
     ils_cons rfl (iop_int_conv rfl rfl (lb rfl) ⟨_, Try.underlying105⟩ Try.underlying3 (svI rfl) hx30) <|
     ils_cons rfl (asI rfl rfl rfl rfl) <|
     ils_end ?_)
    obtain ⟨x31, hx31, h⟩ := bno_e h
    obtain ⟨x32, hx32, h⟩ := bno_e h
    obtain ⟨x33, hx33, h⟩ := bnd_e h
    refine iwp_reg (ils_cons rfl (iop_move rfl rfl (lb rfl) (sv (d := .fn 64 []) rfl)) <|
     ils_cons rfl (mvL rfl rfl rfl rfl) <|
     ils_cons rfl (mvI rfl rfl rfl rfl) <|
     ils_cons rfl (iop_idxT E_ptree_Node (cs := q8) rfl rfl (lb rfl) Try.underlying30 ti56 (svL rfl) (svI rfl) hx31 rfl rfl) <|
     ils_cons rfl (iop_load_fa (cs := q8) rfl rfl (lb rfl) Try.underlying56 ag56 ti56 (by decide) (sv (d := .fptr q8) rfl) (nle rfl) rfl) <|
     ils_cons rfl (mvI rfl rfl rfl rfl) <|
     ils_cons rfl (iop_callv (r := .int _ _) rfl rfl (lb rfl) cl64 (sv (d := .fn 64 []) rfl) (.cons (svA q8 rfl) (.cons (svI rfl) .nil)) rfl (p_fold_State_find_1 _ _ _ hx32)) <|
     ils_cons rfl (iop_cmpx rfl rfl (lb rfl) (svI rfl) (sv (d := .int _ 0) rfl) rfl hx33) <|
     ils_end ?_)
    refine iwp_cond (b := _) rfl (fun hc34 => ?_) (fun hc34 => ?_)
    ·
     replace h := bif_t h hc34
     obtain ⟨x35, hx35, h⟩ := bnd_e h
     refine iwp_region (ils_cons rfl (mvI rfl rfl rfl rfl) <|
      ils_cons rfl (iop_intx rfl rfl (lb rfl) (svI rfl) (sv (d := .int _ 1) rfl) rfl hx35) <|
      ils_cons rfl (asI rfl rfl rfl rfl) <|
      ils_nil ?_)
     refine blockQ_n ?_
     refine thenQ_n ⟨(n0, x35, v13), (fun i => i), ⟨(.sames rfl rfl), .nil, nd_of [] rfl (by decide), fun _ _ => rfl⟩, ?_, ?_⟩
     exact h
     exact Nat.lt_succ_self _
    ·
     replace h := bif_f h hc34
     refine iwp_region (ils_cons rfl (mvI rfl rfl rfl rfl) <|
      ils_cons rfl (asI rfl rfl rfl rfl) <|
      ils_nil ?_)
     refine blockQ_n ?_
     refine thenQ_n ⟨(n0, v12, x30), (fun i => i), ⟨(.sames rfl rfl), .nil, nd_of [] rfl (by decide), fun _ _ => rfl⟩, ?_, ?_⟩
     exact h
     exact Nat.lt_succ_self _
   ·
    replace h := bif_f h hc26
    refine iwp_exit ?_
    refine thenQ_e ?_
    refine thenQ_e ?_
    refine blockQ_e ?_
    refine thenQ_n ?_
    obtain ⟨x36, hx36, h⟩ := bnd_e h
    obtain ⟨x37, hx37, h⟩ := bno_e h
    obtain ⟨x38, hx38, h⟩ := bno_e h
    obtain ⟨x39, hx39, h⟩ := bnd_e h
    obtain ⟨x40, hx40, h⟩ := bnd_e h
    refine iwp_reg (ils_cons rfl (mvI rfl rfl rfl rfl) <|
     ils_cons rfl (mvI rfl rfl rfl rfl) <|
     ils_cons rfl (mvI rfl rfl rfl rfl) <|
     ils_cons rfl (iop_cmpx rfl rfl (lb rfl) (svI rfl) (svI rfl) rfl hx36) <|
     ils_cons rfl (mvB rfl rfl rfl rfl) <|
     ils_guard rfl rfl (.one rfl) rfl (by decide) (fun hb => (iop_move rfl rfl (lb rfl) (sv (d := .fn 64 []) rfl))) <|
     ils_guard rfl rfl (.one rfl) rfl (by decide) (fun hb => (mvL rfl rfl rfl rfl)) <|
     ils_guard rfl rfl (.one rfl) rfl (by decide) (fun hb => (mvI rfl rfl rfl rfl)) <|
     ils_guard rfl rfl (.one rfl) rfl (by decide) (fun hb => (iop_idxT E_ptree_Node (cs := q8) rfl rfl (lb rfl) Try.underlying30 ti56 (svcL rfl hb) (svcI rfl hb) (gd_t hx37 hb) rfl rfl)) <|
     ils_guard rfl rfl (.one rfl) rfl (by decide) (fun hb => (iop_load_fa (cs := q8) rfl rfl (lb rfl) Try.underlying56 ag56 ti56 (by decide) (svc (d := .fptr q8) rfl hb) (nle rfl) rfl)) <|
     ils_guard rfl rfl (.one rfl) rfl (by decide) (fun hb => (mvI rfl rfl rfl rfl)) <|
     ils_guard rfl rfl (.one rfl) rfl (by decide) (fun hb => (iop_callv (r := .int _ _) rfl rfl (lb rfl) cl64 (svc (d := .fn 64 []) rfl hb) (.cons (svcA (v3 x37) rfl hb) (.cons (svcI rfl hb) .nil)) rfl (p_fold_State_find_1 _ _ _ (gd_t hx38 hb)))) <|
     ils_guard rfl rfl (.one rfl) rfl (by decide) (fun hb => (iop_cmpx rfl rfl (lb rfl) (svcI rfl hb) (sv (d := .int _ 0) rfl) rfl hx39)) <|
     ils_cons rfl (iop_andx rfl rfl (lb rfl) (svB rfl) rfl rfl hx40) <|
     ils_cons rfl (asI rfl rfl rfl rfl) <|
     ils_cons rfl (asB rfl rfl rfl rfl) <|
     ils_end ?_)
    refine iwp_ret ?_
    obtain rfl := Option.some.inj h
    refine ⟨.inr rfl, (.cons (sv rfl) (.cons (sv rfl) .nil))⟩

theorem p_fold_State_find (a0 : T_fold_State) (a1 : Int) (r : (Int × Bool)) (h : fold_State_find a0 a1 = some r) : PureAt Try.prog 30 [.agg (v0 a0), .int .i64 a1] (retD [.int .i64 r.1, .bool r.2]) := by
 refine pure_of_iwp (rs := [.int .i64 r.1, .bool r.2]) Try.func30 rfl Try.ntmps30 (nle rfl) rfl fun O hO => ?_
 show IWP _ _ _ _ ⟨[(0, .agg (v0 a0)), (1, .int .i64 a1)], []⟩ _
 unfold fold_State_find at h
 refine iwp_reg (ils_cons rfl (iop_box' (cs := q5) 0 rfl rfl (lb rfl) rfl (svA q5 rfl) rfl rfl) <|
  ils_cons rfl (iop_assign rfl rfl (lb rfl) (sv (d := .int _ 0) rfl)) <|
  ils_cons rfl (iop_assign rfl rfl (lb rfl) (sv (d := .bool false) rfl)) <|
  ils_end ?_)
 obtain ⟨x1, hx1, h⟩ := bno_e h
 refine iwp_reg (ils_cons rfl (faR 2 rfl rfl rfl Try.underlying32 rfl ti30 (lb rfl) rfl rfl) <|
  ils_cons rfl (lrL la30 rfl rfl rfl rfl rfl (nle rfl) rfl) <|
  ils_cons rfl (mvI rfl rfl rfl rfl) <|
  ils_cons rfl (iop_call (r := .tuple q13) rfl rfl (lb rfl) cl63 (.cons (svL rfl) (.cons (svI rfl) (.cons (sv (d := .fn 64 []) rfl) .nil))) rfl (p_slices_BinarySearchFunc_ptree_Node_ptree_Node_int_find_1 _ _ _ hx1)) <|
  ils_cons rfl (iop_extract (d := .int _ _) rfl rfl (lb rfl) (sv (d := .tuple q13) rfl) rfl) <|
  ils_cons rfl (iop_extract (d := .bool _) rfl rfl (lb rfl) (sv (d := .tuple q13) rfl) rfl) <|
  ils_cons rfl (asI rfl rfl rfl rfl) <|
  ils_cons rfl (asB rfl rfl rfl rfl) <|
  ils_end ?_)
 refine iwp_ret ?_
 obtain rfl := Option.some.inj h
 refine ⟨.inr rfl, (.cons (sv rfl) (.cons (sv rfl) .nil))⟩

theorem p_fold_State_lost (a0 : T_fold_State) (a1 : T_ptree_Node) (r : Bool) (h : fold_State_lost a0 a1 = some r) : PureAt Try.prog 41 [.agg (v0 a0), .agg (v3 a1)] (.bool r) := by
 refine pure_of_iwp (rs := [.bool r]) Try.func41 rfl Try.ntmps41 (nle rfl) rfl fun O hO => ?_
 show IWP _ _ _ _ ⟨[(0, .agg (v0 a0)), (1, .agg (v3 a1))], []⟩ _
 unfold fold_State_lost at h
 refine iwp_reg (ils_cons rfl (iop_box' (cs := q5) 0 rfl rfl (lb rfl) rfl (svA q5 rfl) rfl rfl) <|
  ils_cons rfl (iop_box' (cs := q8) 1 rfl rfl (lb rfl) rfl (svA q8 rfl) rfl rfl) <|
  ils_cons rfl (iop_assign rfl rfl (lb rfl) (sv (d := .bool false) rfl)) <|
  ils_end ?_)
 obtain ⟨x1, hx1, h⟩ := bno_e h
 refine iwp_reg (ils_cons rfl (lra q5 la32 rfl rfl rfl rfl rfl (nle rfl) rfl) <|
  ils_cons rfl (faR 1 rfl rfl rfl Try.underlying56 rfl ti3 (lb rfl) rfl rfl) <|
  ils_cons rfl (iop_load_rs (d := .int _ _) rfl rfl (lb rfl) Try.underlying3 ag3 ti3 (by decide) (svR rfl) rfl (nle rfl) rfl) <|
  ils_cons rfl (iop_call (r := .tuple q13) rfl rfl (lb rfl) cl30 (.cons (svA q5 rfl) (.cons (svI rfl) .nil)) rfl (p_fold_State_find _ _ _ hx1)) <|
  ils_cons rfl (iop_move rfl rfl (lb rfl) (sv (d := .tuple q13) rfl)) <|
  ils_cons rfl (iop_extract (d := .int _ _) rfl rfl (lb rfl) (sv (d := .tuple q13) rfl) rfl) <|
  ils_cons rfl (iop_extract (d := .bool _) rfl rfl (lb rfl) (sv (d := .tuple q13) rfl) rfl) <|
  ils_cons rfl (asI rfl rfl rfl rfl) <|
  ils_cons rfl (asB rfl rfl rfl rfl) <|
  ils_end ?_)
 obtain ⟨x2, hx2, h⟩ := bnd_e h
 obtain ⟨x3, hx3, h⟩ := bnd_e h
 refine iwp_reg (ils_cons rfl (faR 1 rfl rfl rfl Try.underlying56 rfl ti3 (lb rfl) rfl rfl) <|
  ils_cons rfl (iop_load_rs (d := .int _ _) rfl rfl (lb rfl) Try.underlying3 ag3 ti3 (by decide) (svR rfl) rfl (nle rfl) rfl) <|
  ils_cons rfl (iop_cmpx rfl rfl (lb rfl) (svI rfl) (sv (d := .int _ 0) rfl) rfl hx2) <|
  ils_cons rfl (mvB rfl rfl rfl rfl) <|
  ils_guard rfl rfl (.one rfl) rfl (by decide) (fun hb => (mvB rfl rfl rfl rfl)) <|
  ils_guard rfl rfl (.one rfl) rfl (by decide) (fun hb => (iop_not rfl rfl (lb rfl) (svcB rfl hb))) <|
  ils_cons rfl (iop_andx rfl rfl (lb rfl) (svB rfl) rfl rfl hx3) <|
  ils_cons rfl (asB rfl rfl rfl rfl) <|
  ils_end ?_)
 refine iwp_ret ?_
 obtain rfl := Option.some.inj h
 refine ⟨.inr rfl, (.cons (sv rfl) .nil)⟩

theorem p_slices_IndexFunc_ptree_Node_ptree_Node_lost (a0 : (List T_ptree_Node)) (a1 : T_fold_State) (r : Int) (h : slices_IndexFunc_ptree_Node_ptree_Node_lost a0 a1 = some r) : PureAt Try.prog 72 [.slice false (a0.map E_ptree_Node.d), .mv 41 [.agg (v0 a1)]] (.int .i64 r) := by
 refine pure_of_iwp (rs := [.int .i64 r]) Try.func72 rfl Try.ntmps72 (nle rfl) rfl fun O hO => ?_
 show IWP _ _ _ _ ⟨[(0, .slice false (a0.map E_ptree_Node.d)), (1, .mv 41 [.agg (v0 a1)])], []⟩ _
 unfold slices_IndexFunc_ptree_Node_ptree_Node_lost at h
 refine iwp_reg (ils_cons rfl (iop_assign rfl rfl (lb rfl) (sv (d := .int _ 0) rfl)) <|
  ils_end ?_)
 refine iwp_seq ?_
 refine iwp_reg (ils_cons rfl (mvL rfl rfl rfl rfl) <|
  ils_cons rfl (iop_lenT E_ptree_Node (l := a0) rfl rfl (lb rfl) Try.underlying30 (svL rfl)) <|
  ils_cons rfl (iop_move rfl rfl (lb rfl) (sv (d := .int _ 0) rfl)) <|
  ils_end ?_)
 refine iwp_block ?_
 refine iwp_loopP (α := Nat × Int) (fun z => ⟨[(0, .slice false (a0.map E_ptree_Node.d)), (1, .mv 41 [.agg (v0 a1)]), (7, .int .i64 (a0.length : Int)), (8, .int .i64 z.2)], []⟩) (fun z => slices_IndexFunc_ptree_Node_ptree_Node_lost_L0 a0 a1 z.1 z.2 = some r) (fun z => z.1) (fuel, 0) (fun i => i) ⟨(.sames rfl rfl), .nil, nd_of [] rfl (by decide), fun _ _ => rfl⟩ ?_ ?_
 ·exact h
 ·
  rintro ⟨n0, v7⟩ h
  cases n0 with
  | zero => exact absurd h (by unfold slices_IndexFunc_ptree_Node_ptree_Node_lost_L0; exact nofun)
  | succ n0 =>
   unfold slices_IndexFunc_ptree_Node_ptree_Node_lost_L0 at h
   obtain ⟨x14, hx14, h⟩ := bnd_e h
   refine iwp_reg (ils_cons rfl (iop_cmpx rfl rfl (lb rfl) (svI rfl) (svI rfl) rfl hx14) <|
    ils_end ?_)
   refine iwp_seq ?_
   refine iwp_cond (b := _) rfl (fun hc15 => ?_) (fun hc15 => ?_)
   ·
    replace h := bif_t h hc15
    refine iwp_skip ?_
    refine thenQ_n ?_
    refine iwp_seq ?_
    refine iwp_block ?_
    refine iwp_reg (ils_cons rfl (mvI rfl rfl rfl rfl) <|
     ils_cons rfl (asI rfl rfl rfl rfl) <|
     ils_end ?_)
    obtain ⟨x16, hx16, h⟩ := bno_e h
    obtain ⟨x17, hx17, h⟩ := bno_e h
    refine iwp_reg (ils_cons rfl (iop_move rfl rfl (lb rfl) (sv (d := .mv 41 [.agg q5]) rfl)) <|
     ils_cons rfl (mvL rfl rfl rfl rfl) <|
     ils_cons rfl (mvI rfl rfl rfl rfl) <|
     ils_cons rfl (iop_idxT E_ptree_Node (cs := q8) rfl rfl (lb rfl) Try.underlying30 ti56 (svL rfl) (svI rfl) hx16 rfl rfl) <|
     ils_cons rfl (iop_load_fa (cs := q8) rfl rfl (lb rfl) Try.underlying56 ag56 ti56 (by decide) (sv (d := .fptr q8) rfl) (nle rfl) rfl) <|
     ils_cons rfl (iop_callm (r := .bool _) rfl rfl (lb rfl) cl41 (sv (d := .mv 41 [.agg q5]) rfl) (.cons (svA q8 rfl) .nil) rfl (p_fold_State_lost _ _ _ hx17)) <|
     ils_end ?_)
    refine iwp_cond (b := _) rfl (fun hc18 => ?_) (fun hc18 => ?_)
    ·
     replace h := bif_t h hc18
     refine iwp_reg (ils_cons rfl (mvI rfl rfl rfl rfl) <|
      ils_cons rfl (asI rfl rfl rfl rfl) <|
      ils_end ?_)
     refine iwp_ret ?_
     refine blockQ_r ?_
     refine thenQ_r ?_
     refine thenQ_r ?_
     refine blockQ_r ?_
     refine thenQ_r ?_
     obtain rfl := Option.some.inj h
     refine ⟨.inr rfl, (.cons (sv rfl) .nil)⟩
    ·
     replace h := bif_f h hc18
     refine iwp_skip ?_
     refine blockQ_n ?_
     refine thenQ_n ?_
     obtain ⟨x19, hx19, h⟩ := bnd_e h
     refine iwp_region (ils_cons rfl (iop_intx rfl rfl (lb rfl) (svI rfl) (sv (d := .int _ 1) rfl) rfl hx19) <|
      ils_cons rfl (mvI rfl rfl rfl rfl) <|
      ils_nil ?_)
     refine thenQ_n ⟨(n0, x19), (fun i => i), ⟨(.sames rfl rfl), .nil, nd_of [] rfl (by decide), fun _ _ => rfl⟩, ?_, ?_⟩
     exact h
     exact Nat.lt_succ_self _
   ·
    replace h := bif_f h hc15
    refine iwp_exit ?_
    refine thenQ_e ?_
    refine thenQ_e ?_
    refine blockQ_e ?_
    refine thenQ_n ?_
    refine iwp_reg (ils_cons rfl (iop_assign rfl rfl (lb rfl) (sv (d := .int _ (-1)) rfl)) <|
     ils_end ?_)
    refine iwp_ret ?_
    obtain rfl := Option.some.inj h
    refine ⟨.inr rfl, (.cons (sv rfl) .nil)⟩

theorem p_slices_ContainsFunc_ptree_Node_ptree_Node_lost (a0 : (List T_ptree_Node)) (a1 : T_fold_State) (r : Bool) (h : slices_ContainsFunc_ptree_Node_ptree_Node_lost a0 a1 = some r) : PureAt Try.prog 39 [.slice false (a0.map E_ptree_Node.d), .mv 41 [.agg (v0 a1)]] (.bool r) := by
 refine pure_of_iwp (rs := [.bool r]) Try.func39 rfl Try.ntmps39 (nle rfl) rfl fun O hO => ?_
 show IWP _ _ _ _ ⟨[(0, .slice false (a0.map E_ptree_Node.d)), (1, .mv 41 [.agg (v0 a1)])], []⟩ _
 unfold slices_ContainsFunc_ptree_Node_ptree_Node_lost at h
 refine iwp_reg (ils_cons rfl (iop_assign rfl rfl (lb rfl) (sv (d := .bool false) rfl)) <|
  ils_end ?_)
 obtain ⟨x1, hx1, h⟩ := bno_e h
 obtain ⟨x2, hx2, h⟩ := bnd_e h
 refine iwp_reg (ils_cons rfl (mvL rfl rfl rfl rfl) <|
  ils_cons rfl (iop_move rfl rfl (lb rfl) (sv (d := .mv 41 [.agg q5]) rfl)) <|
  ils_cons rfl (iop_call (r := .int _ _) rfl rfl (lb rfl) cl72 (.cons (svL rfl) (.cons (sv (d := .mv 41 [.agg q5]) rfl) .nil)) rfl (p_slices_IndexFunc_ptree_Node_ptree_Node_lost _ _ _ hx1)) <|
  ils_cons rfl (iop_cmpx rfl rfl (lb rfl) (svI rfl) (sv (d := .int _ 0) rfl) rfl hx2) <|
  ils_cons rfl (asB rfl rfl rfl rfl) <|
  ils_end ?_)
 refine iwp_ret ?_
 obtain rfl := Option.some.inj h
 refine ⟨.inr rfl, (.cons (sv rfl) .nil)⟩

theorem p_fold_State_path_h (a0 : T_fold_State) (a1 : Int) (r : (List Int)) (h : fold_State_path_h a0 a1 = some r) : FnH Try.prog 52 [.agg (v0 a0), .int .i64 a1] [] (.osl 0 (eInt .i64).sz r.length) [(0, .blk 3 (D.flat (r.map (eInt .i64).d)))] := by
 refine fnh_of_iwp (rs := [.osl 0 (eInt .i64).sz r.length]) Try.func52 rfl Try.ntmps52 (nle rfl) fun O hO => ?_
 show IWP _ _ _ _ ⟨[(0, .agg (v0 a0)), (1, .int .i64 a1)], []⟩ _
 unfold fold_State_path_h at h
 refine iwp_reg (ils_cons rfl (iop_box' (cs := q5) 0 rfl rfl (lb rfl) rfl (svA q5 rfl) rfl rfl) <|
  ils_cons rfl (iop_assign rfl rfl (lb rfl) (sv (d := .nils) rfl)) <|
  ils_end ?_)
 refine iwp_reg (ils_cons rfl (iop_assign rfl rfl (lb rfl) (sv (d := .nils) rfl)) <|
  ils_end ?_)
 refine iwp_seq ?_
 refine iwp_reg (ils_cons rfl (faR 2 rfl rfl rfl Try.underlying32 rfl ti30 (lb rfl) rfl rfl) <|
  ils_cons rfl (lrL la30 rfl rfl rfl rfl rfl (nle rfl) rfl) <|
  ils_cons rfl (iop_lenT E_ptree_Node (l := a0.Nodes) rfl rfl (lb rfl) Try.underlying30 (svL rfl)) <|
  ils_cons rfl (iop_move rfl rfl (lb rfl) (sv (d := .int _ 0) rfl)) <|
  ils_end ?_)
 refine iwp_block ?_
 refine iwp_loopP (α := Nat × Int × (List Int) × Int) (fun z => ⟨[(1, .int .i64 z.2.1), (2, .ref 0 0), (5, .osl 22 (eInt .i64).sz z.2.2.1.length), (10, .int .i64 (a0.Nodes.length : Int)), (11, .int .i64 z.2.2.2)], [(0, .blk 32 (v0 a0)), (22, .blk 3 (D.flat (z.2.2.1.map (eInt .i64).d)))]⟩) (fun z => fold_State_path_h_L0 a0 z.1 z.2.1 z.2.2.1 z.2.2.2 = some r) (fun z => z.1) (fuel, a1, ([] : (List Int)), 0) (fun i => if i = 22 then 73 else i) ⟨(.s rfl rfl (.s rfl rfl (.cons (.nilo rfl) (.sames rfl rfl)))), (.cons (.blk rfl rfl rfl) (.cons (.nilb rfl) .nil)), nd_of [0, 73] rfl (by decide), (fun i hi => by first | rfl | (show (if _ then _ else _) = _; (repeat' split) <;> omega))⟩ ?_ ?_
 ·exact h
 ·
  rintro ⟨n0, v11, v12, v13⟩ h
  cases n0 with
  | zero => exact absurd h (by unfold fold_State_path_h_L0; exact nofun)
  | succ n0 =>
   unfold fold_State_path_h_L0 at h
   obtain ⟨x24, hx24, h⟩ := bnd_e h
   refine iwp_reg (ils_cons rfl (iop_cmpx rfl rfl (lb rfl) (svI rfl) (svI rfl) rfl hx24) <|
    ils_end ?_)
   refine iwp_seq ?_
   refine iwp_cond (b := _) rfl (fun hc25 => ?_) (fun hc25 => ?_)
   ·
    replace h := bif_t h hc25
    refine iwp_skip ?_
    refine thenQ_n ?_
    refine iwp_seq ?_
    refine iwp_block ?_
    obtain ⟨x26, hx26, h⟩ := bno_e h
    refine iwp_reg (ils_cons rfl (lra q5 la32 rfl rfl rfl rfl rfl (nle rfl) rfl) <|
     ils_cons rfl (mvI rfl rfl rfl rfl) <|
     ils_cons rfl (iop_call (r := .tuple q13) rfl rfl (lb rfl) cl30 (.cons (svA q5 rfl) (.cons (svI rfl) .nil)) rfl (p_fold_State_find _ _ _ hx26)) <|
     ils_cons rfl (iop_move rfl rfl (lb rfl) (sv (d := .tuple q13) rfl)) <|
     ils_cons rfl (iop_extract (d := .int _ _) rfl rfl (lb rfl) (sv (d := .tuple q13) rfl) rfl) <|
     ils_cons rfl (iop_extract (d := .bool _) rfl rfl (lb rfl) (sv (d := .tuple q13) rfl) rfl) <|
     ils_cons rfl (asI rfl rfl rfl rfl) <|
     ils_cons rfl (asB rfl rfl rfl rfl) <|
     ils_end ?_)
    refine iwp_seq ?_
    obtain ⟨x27, hx27, h⟩ := bno_e h
    obtain ⟨x28, hx28, h⟩ := bnd_e h
    obtain ⟨x29, hx29, h⟩ := bnd_e h
    refine iwp_reg (ils_cons rfl (mvB rfl rfl rfl rfl) <|
     ils_cons rfl (iop_not rfl rfl (lb rfl) (svB rfl)) <|
     ils_cons rfl (mvB rfl rfl rfl rfl) <|
     ils_guard rfl rfl (.one rfl) rfl (by decide) (fun hb => (faR 2 rfl rfl rfl Try.underlying32 rfl ti30 (lb rfl) rfl rfl)) <|
     ils_guard rfl rfl (.one rfl) rfl (by decide) (fun hb => (iop_load_rs (d := .slice _ _) rfl rfl (lb rfl) Try.underlying30 ag30 ti30 (by decide) (svcR rfl hb) rfl (nle rfl) rfl)) <|
     ils_guard rfl rfl (.one rfl) rfl (by decide) (fun hb => (mvI rfl rfl rfl rfl)) <|
     ils_guard rfl rfl (.one rfl) rfl (by decide) (fun hb => (iop_idxT E_ptree_Node (cs := q8) rfl rfl (lb rfl) Try.underlying30 ti56 (svcL rfl hb) (svcI rfl hb) (gd_t hx27 hb) rfl rfl)) <|
     ils_guard rfl rfl (.one rfl) rfl (by decide) (fun hb => (iop_fieldAddr_fptr (cs' := [.int _ _]) rfl rfl (lb rfl) Try.underlying56 rfl ti3 (by decide) (svc (d := .fptr q8) rfl hb) rfl)) <|
     ils_guard rfl rfl (.one rfl) rfl (by decide) (fun hb => (iop_load_fs rfl rfl (lb rfl) Try.underlying3 ag3 ti3 (by decide) (svc (d := .fptr [.int _ _]) rfl hb) (nle rfl))) <|
     ils_guard rfl rfl (.one rfl) rfl (by decide) (fun hb => (iop_cmpx rfl rfl (lb rfl) (svcI rfl hb) (sv (d := .int _ 0) rfl) rfl hx28)) <|
     ils_cons rfl (iop_orx rfl rfl (lb rfl) (svB rfl) rfl rfl hx29) <|
     ils_end ?_)
    refine iwp_cond (b := _) rfl (fun hc30 => ?_) (fun hc30 => ?_)
    ·
     replace h := bif_t h hc30
     refine iwp_exit ?_
     refine thenQ_e ?_
     refine blockQ_x rfl ?_
     refine thenQ_e ?_
     refine thenQ_e ?_
     refine blockQ_e ?_
     refine thenQ_n ?_
     refine iwp_reg (ils_cons rfl (iop_move rfl rfl (lb rfl) (sv (d := .osl _ _ _) rfl)) <|
      ils_cons rfl (iop_assign rfl rfl (lb rfl) (sv (d := .osl _ _ _) rfl)) <|
      ils_end ?_)
     refine iwp_ret ?_
     obtain rfl := Option.some.inj h
     refine ⟨.inr rfl, (fun i => if i = 0 then 22 else i), ⟨.nil, (.cons (EntW.lst rfl) .nil), nd_of [22] rfl (by decide), (fun i hi => by first | rfl | (show (if _ then _ else _) = _; (repeat' split) <;> omega))⟩, (.cons (sv rfl) .nil), rfl⟩
    ·
     replace h := bif_f h hc30
     refine iwp_skip ?_
     refine thenQ_n ?_
     obtain ⟨x31, hx31, h⟩ := bno_e h
     refine iwp_reg (ils_cons rfl (faR 2 rfl rfl rfl Try.underlying32 rfl ti30 (lb rfl) rfl rfl) <|
      ils_cons rfl (lrL la30 rfl rfl rfl rfl rfl (nle rfl) rfl) <|
      ils_cons rfl (mvI rfl rfl rfl rfl) <|
      ils_cons rfl (iop_idxT E_ptree_Node (cs := q8) rfl rfl (lb rfl) Try.underlying30 ti56 (svL rfl) (svI rfl) hx31 rfl rfl) <|
      ils_cons rfl (iop_fieldAddr_fptr (cs' := [.int _ _]) rfl rfl (lb rfl) Try.underlying56 rfl ti3 (by decide) (sv (d := .fptr q8) rfl) rfl) <|
      ils_cons rfl (iop_load_fs rfl rfl (lb rfl) Try.underlying3 ag3 ti3 (by decide) (sv (d := .fptr [.int _ _]) rfl) (nle rfl)) <|
      ils_cons rfl (asI rfl rfl rfl rfl) <|
      ils_end ?_)
     obtain ⟨x32, hx32, h⟩ := bno_e h
     refine iwp_region (ils_cons rfl (iop_move rfl rfl (lb rfl) (sv (d := .osl _ _ _) rfl)) <|
      ils_cons rfl (mvI rfl rfl rfl rfl) <|
      ils_cons rfl (iop_bsO (eInt .i64).toEnc0 ([x31.Parent] : (List Int)) 23 rfl rfl (lb rfl) Try.underlying23 ti3 rfl (.cons (svI rfl) .nil) rfl rfl (by decide)) <|
      ils_cons rfl (iop_appO (eInt .i64).toEnc0 24 rfl rfl (lb rfl) Try.underlying23 ti3 rfl rfl rfl rfl rfl (src_O (eInt .i64).toEnc0 rfl rfl rfl) hx32) <|
      ils_cons rfl (iop_assign rfl rfl (lb rfl) (sv (d := .osl _ _ _) rfl)) <|
      ils_nil ?_)
     refine blockQ_n ?_
     refine thenQ_n ?_
     obtain ⟨x33, hx33, h⟩ := bnd_e h
     refine iwp_region (ils_cons rfl (iop_intx rfl rfl (lb rfl) (svI rfl) (sv (d := .int _ 1) rfl) rfl hx33) <|
      ils_cons rfl (mvI rfl rfl rfl rfl) <|
      ils_nil ?_)
     refine thenQ_n ⟨(n0, x31.Parent, x32, x33), (fun i => if i = 22 then 24 else i), ⟨(.sames rfl rfl), (.cons (.blk rfl rfl rfl) (.cons (EntW.lst rfl) .nil)), nd_of [0, 24] rfl (by decide), (fun i hi => by first | rfl | (show (if _ then _ else _) = _; (repeat' split) <;> omega))⟩, ?_, ?_⟩
     exact h
     exact Nat.lt_succ_self _
   ·
    replace h := bif_f h hc25
    refine iwp_exit ?_
    refine thenQ_e ?_
    refine thenQ_e ?_
    refine blockQ_e ?_
    refine thenQ_n ?_
    refine iwp_reg (ils_cons rfl (iop_move rfl rfl (lb rfl) (sv (d := .osl _ _ _) rfl)) <|
     ils_cons rfl (iop_assign rfl rfl (lb rfl) (sv (d := .osl _ _ _) rfl)) <|
     ils_end ?_)
    refine iwp_ret ?_
    obtain rfl := Option.some.inj h
    refine ⟨.inr rfl, (fun i => if i = 0 then 22 else i), ⟨.nil, (.cons (EntW.lst rfl) .nil), nd_of [22] rfl (by decide), (fun i hi => by first | rfl | (show (if _ then _ else _) = _; (repeat' split) <;> omega))⟩, (.cons (sv rfl) .nil), rfl⟩

theorem p_slices_Index_int_int (a0 : (List Int)) (a1 : Int) (r : Int) (h : slices_Index_int_int a0 a1 = some r) : PureAt Try.prog 73 [.slice false (a0.map (eInt .i64).d), .int .i64 a1] (.int .i64 r) := by
 refine pure_of_iwp (rs := [.int .i64 r]) Try.func73 rfl Try.ntmps73 (nle rfl) rfl fun O hO => ?_
 show IWP _ _ _ _ ⟨[(0, .slice false (a0.map (eInt .i64).d)), (1, .int .i64 a1)], []⟩ _
 unfold slices_Index_int_int at h
 refine iwp_reg (ils_cons rfl (iop_assign rfl rfl (lb rfl) (sv (d := .int _ 0) rfl)) <|
  ils_end ?_)
 refine iwp_seq ?_
 refine iwp_reg (ils_cons rfl (mvL rfl rfl rfl rfl) <|
  ils_cons rfl (iop_lenT (eInt .i64) (l := a0) rfl rfl (lb rfl) Try.underlying23 (svL rfl)) <|
  ils_cons rfl (iop_move rfl rfl (lb rfl) (sv (d := .int _ 0) rfl)) <|
  ils_end ?_)
 refine iwp_block ?_
 refine iwp_loopP (α := Nat × Int) (fun z => ⟨[(0, .slice false (a0.map (eInt .i64).d)), (1, .int .i64 a1), (7, .int .i64 (a0.length : Int)), (8, .int .i64 z.2)], []⟩) (fun z => slices_Index_int_int_L0 a0 a1 z.1 z.2 = some r) (fun z => z.1) (fuel, 0) (fun i => i) ⟨(.sames rfl rfl), .nil, nd_of [] rfl (by decide), fun _ _ => rfl⟩ ?_ ?_
 ·exact h
 ·
  rintro ⟨n0, v7⟩ h
  cases n0 with
  | zero => exact absurd h (by unfold slices_Index_int_int_L0; exact nofun)
  | succ n0 =>
   unfold slices_Index_int_int_L0 at h
   obtain ⟨x14, hx14, h⟩ := bnd_e h
   refine iwp_reg (ils_cons rfl (iop_cmpx rfl rfl (lb rfl) (svI rfl) (svI rfl) rfl hx14) <|
    ils_end ?_)
   refine iwp_seq ?_
   refine iwp_cond (b := _) rfl (fun hc15 => ?_) (fun hc15 => ?_)
   ·
    replace h := bif_t h hc15
    refine iwp_skip ?_
    refine thenQ_n ?_
    refine iwp_seq ?_
    refine iwp_block ?_
    refine iwp_reg (ils_cons rfl (mvI rfl rfl rfl rfl) <|
     ils_cons rfl (asI rfl rfl rfl rfl) <|
     ils_end ?_)
    obtain ⟨x16, hx16, h⟩ := bno_e h
    obtain ⟨x17, hx17, h⟩ := bnd_e h
    refine iwp_reg (ils_cons rfl (mvI rfl rfl rfl rfl) <|
     ils_cons rfl (mvL rfl rfl rfl rfl) <|
     ils_cons rfl (mvI rfl rfl rfl rfl) <|
     ils_cons rfl (iop_idxT (eInt .i64) (cs := [.int _ _]) rfl rfl (lb rfl) Try.underlying23 ti3 (svL rfl) (svI rfl) hx16 rfl rfl) <|
     ils_cons rfl (iop_load_fs rfl rfl (lb rfl) Try.underlying3 ag3 ti3 (by decide) (sv (d := .fptr [.int _ _]) rfl) (nle rfl)) <|
     ils_cons rfl (iop_cmpx rfl rfl (lb rfl) (svI rfl) (svI rfl) rfl hx17) <|
     ils_end ?_)
    refine iwp_cond (b := _) rfl (fun hc18 => ?_) (fun hc18 => ?_)
    ·
     replace h := bif_t h hc18
     refine iwp_reg (ils_cons rfl (mvI rfl rfl rfl rfl) <|
      ils_cons rfl (asI rfl rfl rfl rfl) <|
      ils_end ?_)
     refine iwp_ret ?_
     refine blockQ_r ?_
     refine thenQ_r ?_
     refine thenQ_r ?_
     refine blockQ_r ?_
     refine thenQ_r ?_
     obtain rfl := Option.some.inj h
     refine ⟨.inr rfl, (.cons (sv rfl) .nil)⟩
    ·
     replace h := bif_f h hc18
     refine iwp_skip ?_
     refine blockQ_n ?_
     refine thenQ_n ?_
     obtain ⟨x19, hx19, h⟩ := bnd_e h
     refine iwp_region (ils_cons rfl (iop_intx rfl rfl (lb rfl) (svI rfl) (sv (d := .int _ 1) rfl) rfl hx19) <|
      ils_cons rfl (mvI rfl rfl rfl rfl) <|
      ils_nil ?_)
     refine thenQ_n ⟨(n0, x19), (fun i => i), ⟨(.sames rfl rfl), .nil, nd_of [] rfl (by decide), fun _ _ => rfl⟩, ?_, ?_⟩
     exact h
     exact Nat.lt_succ_self _
   ·
    replace h := bif_f h hc15
    refine iwp_exit ?_
    refine thenQ_e ?_
    refine thenQ_e ?_
    refine blockQ_e ?_
    refine thenQ_n ?_
    refine iwp_reg (ils_cons rfl (iop_assign rfl rfl (lb rfl) (sv (d := .int _ (-1)) rfl)) <|
     ils_end ?_)
    refine iwp_ret ?_
    obtain rfl := Option.some.inj h
    refine ⟨.inr rfl, (.cons (sv rfl) .nil)⟩

theorem p_slices_Contains_int_int (a0 : (List Int)) (a1 : Int) (r : Bool) (h : slices_Contains_int_int a0 a1 = some r) : PureAt Try.prog 54 [.slice false (a0.map (eInt .i64).d), .int .i64 a1] (.bool r) := by
 refine pure_of_iwp (rs := [.bool r]) Try.func54 rfl Try.ntmps54 (nle rfl) rfl fun O hO => ?_
 show IWP _ _ _ _ ⟨[(0, .slice false (a0.map (eInt .i64).d)), (1, .int .i64 a1)], []⟩ _
 unfold slices_Contains_int_int at h
 refine iwp_reg (ils_cons rfl (iop_assign rfl rfl (lb rfl) (sv (d := .bool false) rfl)) <|
  ils_end ?_)
 obtain ⟨x1, hx1, h⟩ := bno_e h
 obtain ⟨x2, hx2, h⟩ := bnd_e h
 refine iwp_reg (ils_cons rfl (mvL rfl rfl rfl rfl) <|
  ils_cons rfl (mvI rfl rfl rfl rfl) <|
  ils_cons rfl (iop_call (r := .int _ _) rfl rfl (lb rfl) cl73 (.cons (svL rfl) (.cons (svI rfl) .nil)) rfl (p_slices_Index_int_int _ _ _ hx1)) <|
  ils_cons rfl (iop_cmpx rfl rfl (lb rfl) (svI rfl) (sv (d := .int _ 0) rfl) rfl hx2) <|
  ils_cons rfl (asB rfl rfl rfl rfl) <|
  ils_end ?_)
 refine iwp_ret ?_
 obtain rfl := Option.some.inj h
 refine ⟨.inr rfl, (.cons (sv rfl) .nil)⟩

theorem p_fold_State_round (a0 : T_fold_State) (a1 : T_ptree_Node) (r : Bool) (h : fold_State_round a0 a1 = some r) : PureAt Try.prog 42 [.agg (v0 a0), .agg (v3 a1)] (.bool r) := by
 refine pure_of_iwp (rs := [.bool r]) Try.func42 rfl Try.ntmps42 (nle rfl) rfl fun O hO => ?_
 show IWP _ _ _ _ ⟨[(0, .agg (v0 a0)), (1, .agg (v3 a1))], []⟩ _
 unfold fold_State_round at h
 refine iwp_reg (ils_cons rfl (iop_box' (cs := q5) 0 rfl rfl (lb rfl) rfl (svA q5 rfl) rfl rfl) <|
  ils_cons rfl (iop_box' (cs := q8) 1 rfl rfl (lb rfl) rfl (svA q8 rfl) rfl rfl) <|
  ils_cons rfl (iop_assign rfl rfl (lb rfl) (sv (d := .bool false) rfl)) <|
  ils_end ?_)
 obtain ⟨x1, hx1, h⟩ := bno_e h
 obtain ⟨x2, hx2, h⟩ := bno_e h
 refine iwp_drw rfl [⟨[2], [0], [(5, .agg (v0 a0))], []⟩,
  ⟨[3], [], [(6, .ref 1 0)], []⟩,
  ⟨[6], [1], [(7, .int .i64 a1.ID)], []⟩,
  ⟨[5, 7], [2], [(8, .osl 2 (eInt .i64).sz x1.length)], [(2, .blk 3 (D.flat (x1.map (eInt .i64).d)))]⟩,
  ⟨[3], [], [(9, .ref 1 0)], []⟩,
  ⟨[9], [1], [(10, .int .i64 a1.ID)], []⟩,
  ⟨[8, 10], [2], [(11, .bool x2)], []⟩,
  ⟨[11], [], [(4, .bool x2)], []⟩] rfl ?_ (by kernel_rfl) ?_
 ·refine .cons (lop rfl rfl fun S hA => (iop_load_ra (cs := q5) rfl rfl (lb rfl) Try.underlying32 ag32 ti32 (by decide) (svaR hA rfl rfl) (agi hA rfl rfl) (nle rfl) rfl)) ?_
  refine .cons (lop rfl rfl fun S hA => (iop_fieldAddr_ref rfl rfl (lb rfl) Try.underlying56 rfl ti3 (by decide) (svaR hA rfl rfl) (off' := 0) rfl)) ?_
  refine .cons (lop rfl rfl fun S hA => (iop_load_rs (d := .int _ _) rfl rfl (lb rfl) Try.underlying3 ag3 ti3 (by decide) (svaR hA rfl rfl) (agi hA rfl rfl) (nle rfl) rfl)) ?_
  refine .cons (lop rfl rfl fun S hA => (iop_callM (r' := .osl 2 (eInt .i64).sz x1.length) (U := [(2, .blk 3 (D.flat (x1.map (eInt .i64).d)))]) 2 1 [] rfl rfl (lb rfl) cl52 (.cons (svaA q5 hA rfl rfl) (.cons (svaI hA rfl rfl) .nil)) rfl rfl rfl (List.forall_mem_cons.2 ⟨(agi hA rfl rfl), List.forall_mem_nil _⟩) ⟨by decide, rfl, List.forall_mem_nil _⟩ (p_fold_State_path_h _ _ _ hx1) rfl rfl (List.forall_mem_cons.2 ⟨⟨rfl, (handLr (eInt .i64))⟩, List.forall_mem_nil _⟩) (by simp only [List.map_cons, List.map_nil, Ent.ren, renL_flat, renL_ref]; rfl))) ?_
  refine .cons (lop rfl rfl fun S hA => (iop_fieldAddr_ref rfl rfl (lb rfl) Try.underlying56 rfl ti3 (by decide) (svaR hA rfl rfl) (off' := 0) rfl)) ?_
  refine .cons (lop rfl rfl fun S hA => (iop_load_rs (d := .int _ _) rfl rfl (lb rfl) Try.underlying3 ag3 ti3 (by decide) (svaR hA rfl rfl) (agi hA rfl rfl) (nle rfl) rfl)) ?_
  refine .cons (lop rfl rfl fun S hA => (iop_callp (r := .bool x2) rfl rfl (lb rfl) cl54 (.cons (sv (d := .osl _ _ _) (agr hA rfl rfl)) (.cons (svaI hA rfl rfl) .nil)) (.cons (FDT (eInt .i64) (agi hA rfl rfl) rfl) (.all _)) rfl rfl (p_slices_Contains_int_int _ _ _ hx2))) ?_
  refine .cons (lop rfl rfl fun S hA => (iop_assign rfl rfl (lb rfl) (svaB hA rfl rfl))) ?_
  exact .nil
 refine iwp_ret ?_
 obtain rfl := Option.some.inj h
 refine ⟨.inr rfl, (.cons (sv rfl) .nil)⟩

theorem p_slices_IndexFunc_ptree_Node_ptree_Node_round (a0 : (List T_ptree_Node)) (a1 : T_fold_State) (r : Int) (h : slices_IndexFunc_ptree_Node_ptree_Node_round a0 a1 = some r) : PureAt Try.prog 72 [.slice false (a0.map E_ptree_Node.d), .mv 42 [.agg (v0 a1)]] (.int .i64 r) := by
 refine pure_of_iwp (rs := [.int .i64 r]) Try.func72 rfl Try.ntmps72 (nle rfl) rfl fun O hO => ?_
 show IWP _ _ _ _ ⟨[(0, .slice false (a0.map E_ptree_Node.d)), (1, .mv 42 [.agg (v0 a1)])], []⟩ _
 unfold slices_IndexFunc_ptree_Node_ptree_Node_round at h
 refine iwp_reg (ils_cons rfl (iop_assign rfl rfl (lb rfl) (sv (d := .int _ 0) rfl)) <|
  ils_end ?_)
 refine iwp_seq ?_
 refine iwp_reg (ils_cons rfl (mvL rfl rfl rfl rfl) <|
  ils_cons rfl (iop_lenT E_ptree_Node (l := a0) rfl rfl (lb rfl) Try.underlying30 (svL rfl)) <|
  ils_cons rfl (iop_move rfl rfl (lb rfl) (sv (d := .int _ 0) rfl)) <|
  ils_end ?_)
 refine iwp_block ?_
 refine iwp_loopP (α := Nat × Int) (fun z => ⟨[(0, .slice false (a0.map E_ptree_Node.d)), (1, .mv 42 [.agg (v0 a1)]), (7, .int .i64 (a0.length : Int)), (8, .int .i64 z.2)], []⟩) (fun z => slices_IndexFunc_ptree_Node_ptree_Node_round_L0 a0 a1 z.1 z.2 = some r) (fun z => z.1) (fuel, 0) (fun i => i) ⟨(.sames rfl rfl), .nil, nd_of [] rfl (by decide), fun _ _ => rfl⟩ ?_ ?_
 ·exact h
 ·
  rintro ⟨n0, v7⟩ h
  cases n0 with
  | zero => exact absurd h (by unfold slices_IndexFunc_ptree_Node_ptree_Node_round_L0; exact nofun)
  | succ n0 =>
   unfold slices_IndexFunc_ptree_Node_ptree_Node_round_L0 at h
   obtain ⟨x14, hx14, h⟩ := bnd_e h
   refine iwp_reg (ils_cons rfl (iop_cmpx rfl rfl (lb rfl) (svI rfl) (svI rfl) rfl hx14) <|
    ils_end ?_)
   refine iwp_seq ?_
   refine iwp_cond (b := _) rfl (fun hc15 => ?_) (fun hc15 => ?_)
   ·
    replace h := bif_t h hc15
    refine iwp_skip ?_
    refine thenQ_n ?_
    refine iwp_seq ?_
    refine iwp_block ?_
    refine iwp_reg (ils_cons rfl (mvI rfl rfl rfl rfl) <|
     ils_cons rfl (asI rfl rfl rfl rfl) <|
     ils_end ?_)
    obtain ⟨x16, hx16, h⟩ := bno_e h
    obtain ⟨x17, hx17, h⟩ := bno_e h
    refine iwp_reg (ils_cons rfl (iop_move rfl rfl (lb rfl) (sv (d := .mv 42 [.agg q5]) rfl)) <|
     ils_cons rfl (mvL rfl rfl rfl rfl) <|
     ils_cons rfl (mvI rfl rfl rfl rfl) <|
     ils_cons rfl (iop_idxT E_ptree_Node (cs := q8) rfl rfl (lb rfl) Try.underlying30 ti56 (svL rfl) (svI rfl) hx16 rfl rfl) <|
     ils_cons rfl (iop_load_fa (cs := q8) rfl rfl (lb rfl) Try.underlying56 ag56 ti56 (by decide) (sv (d := .fptr q8) rfl) (nle rfl) rfl) <|
     ils_cons rfl (iop_callm (r := .bool _) rfl rfl (lb rfl) cl42 (sv (d := .mv 42 [.agg q5]) rfl) (.cons (svA q8 rfl) .nil) rfl (p_fold_State_round _ _ _ hx17)) <|
     ils_end ?_)
    refine iwp_cond (b := _) rfl (fun hc18 => ?_) (fun hc18 => ?_)
    ·
     replace h := bif_t h hc18
     refine iwp_reg (ils_cons rfl (mvI rfl rfl rfl rfl) <|
      ils_cons rfl (asI rfl rfl rfl rfl) <|
      ils_end ?_)
     refine iwp_ret ?_
     refine blockQ_r ?_
     refine thenQ_r ?_
     refine thenQ_r ?_
     refine blockQ_r ?_
     refine thenQ_r ?_
     obtain rfl := Option.some.inj h
     refine ⟨.inr rfl, (.cons (sv rfl) .nil)⟩
    ·
     replace h := bif_f h hc18
     refine iwp_skip ?_
     refine blockQ_n ?_
     refine thenQ_n ?_
     obtain ⟨x19, hx19, h⟩ := bnd_e h
     refine iwp_region (ils_cons rfl (iop_intx rfl rfl (lb rfl) (svI rfl) (sv (d := .int _ 1) rfl) rfl hx19) <|
      ils_cons rfl (mvI rfl rfl rfl rfl) <|
      ils_nil ?_)
     refine thenQ_n ⟨(n0, x19), (fun i => i), ⟨(.sames rfl rfl), .nil, nd_of [] rfl (by decide), fun _ _ => rfl⟩, ?_, ?_⟩
     exact h
     exact Nat.lt_succ_self _
   ·
    replace h := bif_f h hc15
    refine iwp_exit ?_
    refine thenQ_e ?_
    refine thenQ_e ?_
    refine blockQ_e ?_
    refine thenQ_n ?_
    refine iwp_reg (ils_cons rfl (iop_assign rfl rfl (lb rfl) (sv (d := .int _ (-1)) rfl)) <|
     ils_end ?_)
    refine iwp_ret ?_
    obtain rfl := Option.some.inj h
    refine ⟨.inr rfl, (.cons (sv rfl) .nil)⟩

theorem p_slices_ContainsFunc_ptree_Node_ptree_Node_round (a0 : (List T_ptree_Node)) (a1 : T_fold_State) (r : Bool) (h : slices_ContainsFunc_ptree_Node_ptree_Node_round a0 a1 = some r) : PureAt Try.prog 39 [.slice false (a0.map E_ptree_Node.d), .mv 42 [.agg (v0 a1)]] (.bool r) := by
 refine pure_of_iwp (rs := [.bool r]) Try.func39 rfl Try.ntmps39 (nle rfl) rfl fun O hO => ?_
 show IWP _ _ _ _ ⟨[(0, .slice false (a0.map E_ptree_Node.d)), (1, .mv 42 [.agg (v0 a1)])], []⟩ _
 unfold slices_ContainsFunc_ptree_Node_ptree_Node_round at h
 refine iwp_reg (ils_cons rfl (iop_assign rfl rfl (lb rfl) (sv (d := .bool false) rfl)) <|
  ils_end ?_)
 obtain ⟨x1, hx1, h⟩ := bno_e h
 obtain ⟨x2, hx2, h⟩ := bnd_e h
 refine iwp_reg (ils_cons rfl (mvL rfl rfl rfl rfl) <|
  ils_cons rfl (iop_move rfl rfl (lb rfl) (sv (d := .mv 42 [.agg q5]) rfl)) <|
  ils_cons rfl (iop_call (r := .int _ _) rfl rfl (lb rfl) cl72 (.cons (svL rfl) (.cons (sv (d := .mv 42 [.agg q5]) rfl) .nil)) rfl (p_slices_IndexFunc_ptree_Node_ptree_Node_round _ _ _ hx1)) <|
  ils_cons rfl (iop_cmpx rfl rfl (lb rfl) (svI rfl) (sv (d := .int _ 0) rfl) rfl hx2) <|
  ils_cons rfl (asB rfl rfl rfl rfl) <|
  ils_end ?_)
 refine iwp_ret ?_
 obtain rfl := Option.some.inj h
 refine ⟨.inr rfl, (.cons (sv rfl) .nil)⟩

theorem p_fold_State_ended (a0 : T_fold_State) (r : Bool) (h : fold_State_ended a0 = some r) : PureAt Try.prog 43 [.agg (v0 a0)] (.bool r) := by
 refine pure_of_iwp (rs := [.bool r]) Try.func43 rfl Try.ntmps43 (nle rfl) rfl fun O hO => ?_
 show IWP _ _ _ _ ⟨[(0, .agg (v0 a0))], []⟩ _
 unfold fold_State_ended at h
 refine iwp_reg (ils_cons rfl (iop_box' (cs := q5) 0 rfl rfl (lb rfl) rfl (svA q5 rfl) rfl rfl) <|
  ils_cons rfl (iop_assign rfl rfl (lb rfl) (sv (d := .bool false) rfl)) <|
  ils_end ?_)
 refine iwp_reg (ils_cons rfl (iop_assign rfl rfl (lb rfl) (sv (d := .int _ 0) rfl)) <|
  ils_end ?_)
 refine iwp_seq ?_
 refine iwp_reg (ils_cons rfl (faR 2 rfl rfl rfl Try.underlying32 rfl ti30 (lb rfl) rfl rfl) <|
  ils_cons rfl (lrL la30 rfl rfl rfl rfl rfl (nle rfl) rfl) <|
  ils_cons rfl (iop_lenT E_ptree_Node (l := a0.Nodes) rfl rfl (lb rfl) Try.underlying30 (svL rfl)) <|
  ils_cons rfl (iop_move rfl rfl (lb rfl) (sv (d := .int _ 0) rfl)) <|
  ils_end ?_)
 refine iwp_block ?_
 refine iwp_loopP (α := Nat × Int × Int) (fun z => ⟨[(1, .ref 0 0), (3, .int .i64 z.2.1), (7, .slice false (a0.Nodes.map E_ptree_Node.d)), (8, .int .i64 (a0.Nodes.length : Int)), (9, .int .i64 z.2.2)], [(0, .blk 32 (v0 a0))]⟩) (fun z => fold_State_ended_L0 a0 z.1 z.2.1 z.2.2 = some r) (fun z => z.1) (fuel, 0, 0) (fun i => i) ⟨(.sames rfl rfl), (.cons (.blk rfl rfl rfl) .nil), nd_of [0] rfl (by decide), fun _ _ => rfl⟩ ?_ ?_
 ·exact h
 ·
  rintro ⟨n0, v13, v14⟩ h
  cases n0 with
  | zero => exact absurd h (by unfold fold_State_ended_L0; exact nofun)
  | succ n0 =>
   unfold fold_State_ended_L0 at h
   obtain ⟨x27, hx27, h⟩ := bnd_e h
   refine iwp_reg (ils_cons rfl (iop_cmpx rfl rfl (lb rfl) (svI rfl) (svI rfl) rfl hx27) <|
    ils_end ?_)
   refine iwp_seq ?_
   refine iwp_cond (b := _) rfl (fun hc28 => ?_) (fun hc28 => ?_)
   ·
    replace h := bif_t h hc28
    refine iwp_skip ?_
    refine thenQ_n ?_
    refine iwp_seq ?_
    refine iwp_block ?_
    obtain ⟨x29, hx29, h⟩ := bno_e h
    refine iwp_reg (ils_cons rfl (iop_idxT E_ptree_Node (cs := q8) rfl rfl (lb rfl) Try.underlying30 ti56 (svL rfl) (svI rfl) hx29 rfl rfl) <|
     ils_cons rfl (iop_load_fa (cs := q8) rfl rfl (lb rfl) Try.underlying56 ag56 ti56 (by decide) (sv (d := .fptr q8) rfl) (nle rfl) rfl) <|
     ils_cons rfl (iop_allocS (cs := q8) (cs' := (w16 0 0 0 false)) 1 rfl rfl (lb rfl) rfl ti56 rfl rfl (.all _)) <|
     ils_cons rfl (stA q8 q8 ti56 rfl rfl rfl rfl rfl rfl rfl rfl (nle rfl) rfl) <|
     ils_end ?_)
    refine iwp_join (α := Int) (fun z => ⟨[(1, .ref 0 0), (3, .int .i64 z), (7, .slice false (a0.Nodes.map E_ptree_Node.d)), (8, .int .i64 (a0.Nodes.length : Int)), (9, .int .i64 v14), (5, .ref 1 0)], [(0, .blk 32 (v0 a0)), (1, .blk 56 (v3 x29))]⟩) (fun z => fold_State_ended_J1 a0 v14 (fold_State_ended_L0 a0 n0) x29 z = some r) ?_ ?_
    ·
     refine iwp_reg (ils_cons rfl (faR 3 rfl rfl rfl Try.underlying56 rfl ti4 (lb rfl) rfl rfl) <|
      ils_cons rfl (iop_load_rs (d := .bool _) rfl rfl (lb rfl) Try.underlying4 ag4 ti4 (by decide) (svR rfl) rfl (nle rfl) rfl) <|
      ils_end ?_)
     refine iwp_cond (b := _) rfl (fun hc37 => ?_) (fun hc37 => ?_)
     ·
      replace h := bif_t h hc37
      obtain ⟨x38, hx38, h⟩ := bnd_e h
      refine iwp_region (ils_cons rfl (mvI rfl rfl rfl rfl) <|
       ils_cons rfl (iop_intx rfl rfl (lb rfl) (svI rfl) (sv (d := .int _ 1) rfl) rfl hx38) <|
       ils_cons rfl (asI rfl rfl rfl rfl) <|
       ils_nil ?_)
      refine thenQ_n ⟨x38, (fun i => i), ⟨(.sames rfl rfl), (.cons (.blk rfl rfl rfl) (.cons (.blk rfl rfl rfl) .nil)), nd_of [0, 1] rfl (by decide), fun _ _ => rfl⟩, ?_⟩
      exact h
     ·
      replace h := bif_f h hc37
      refine iwp_skip ?_
      refine thenQ_n ⟨v13, (fun i => i), ⟨(.sames rfl rfl), (.cons (.blk rfl rfl rfl) (.cons (.blk rfl rfl rfl) .nil)), nd_of [0, 1] rfl (by decide), fun _ _ => rfl⟩, ?_⟩
      exact h
    ·
     rintro v32 h
     unfold fold_State_ended_J1 at h
     obtain ⟨x33, hx33, h⟩ := bno_e h
     obtain ⟨x34, hx34, h⟩ := bnd_e h
     refine iwp_drw rfl [⟨[5], [], [(17, .ref 1 3)], []⟩,
      ⟨[17], [1], [(18, .bool x29.Closed)], []⟩,
      ⟨[1], [], [(19, .ref 0 3)], []⟩,
      ⟨[19], [0], [(20, .slice false (a0.Ended.map (eInt .i64).d))], []⟩,
      ⟨[5], [], [(21, .ref 1 0)], []⟩,
      ⟨[21], [1], [(22, .int .i64 x29.ID)], []⟩,
      ⟨[20, 22], [], [(23, .bool x33)], []⟩,
      ⟨[18, 23], [], [(24, .bool x34)], []⟩] rfl ?_ (by kernel_rfl) ?_
     ·refine .cons (lop rfl rfl fun S hA => (iop_fieldAddr_ref rfl rfl (lb rfl) Try.underlying56 rfl ti4 (by decide) (svaR hA rfl rfl) (off' := 3) rfl)) ?_
      refine .cons (lop rfl rfl fun S hA => (iop_load_rs (d := .bool _) rfl rfl (lb rfl) Try.underlying4 ag4 ti4 (by decide) (svaR hA rfl rfl) (agi hA rfl rfl) (nle rfl) rfl)) ?_
      refine .cons (lop rfl rfl fun S hA => (iop_fieldAddr_ref rfl rfl (lb rfl) Try.underlying32 rfl ti23 (by decide) (svaR hA rfl rfl) (off' := 3) rfl)) ?_
      refine .cons (lop rfl rfl fun S hA => (iop_load_rs (d := .slice _ _) rfl rfl (lb rfl) Try.underlying23 ag23 ti23 (by decide) (svaR hA rfl rfl) (agi hA rfl rfl) (nle rfl) rfl)) ?_
      refine .cons (lop rfl rfl fun S hA => (iop_fieldAddr_ref rfl rfl (lb rfl) Try.underlying56 rfl ti3 (by decide) (svaR hA rfl rfl) (off' := 0) rfl)) ?_
      refine .cons (lop rfl rfl fun S hA => (iop_load_rs (d := .int _ _) rfl rfl (lb rfl) Try.underlying3 ag3 ti3 (by decide) (svaR hA rfl rfl) (agi hA rfl rfl) (nle rfl) rfl)) ?_
      refine .cons (lop rfl rfl fun S hA => (iop_call (r := .bool _) rfl rfl (lb rfl) cl54 (.cons (svaL hA rfl rfl) (.cons (svaI hA rfl rfl) .nil)) rfl (p_slices_Contains_int_int _ _ _ hx33))) ?_
      refine .cons (lop rfl rfl fun S hA => (iop_nebx rfl rfl (lb rfl) Try.underlying4 (svaB hA rfl rfl) (svaB hA rfl rfl) hx34)) ?_
      exact .nil
     refine iwp_cond (b := _) rfl (fun hc35 => ?_) (fun hc35 => ?_)
     ·
      replace h := bif_t h hc35
      refine iwp_reg (ils_cons rfl (iop_assign rfl rfl (lb rfl) (sv (d := .bool false) rfl)) <|
       ils_end ?_)
      refine iwp_ret ?_
      refine blockQ_r ?_
      refine thenQ_r ?_
      refine thenQ_r ?_
      refine blockQ_r ?_
      refine thenQ_r ?_
      obtain rfl := Option.some.inj h
      refine ⟨.inr rfl, (.cons (sv rfl) .nil)⟩
     ·
      replace h := bif_f h hc35
      refine iwp_skip ?_
      refine blockQ_n ?_
      refine thenQ_n ?_
      obtain ⟨x36, hx36, h⟩ := bnd_e h
      refine iwp_region (ils_cons rfl (iop_intx rfl rfl (lb rfl) (svI rfl) (sv (d := .int _ 1) rfl) rfl hx36) <|
       ils_cons rfl (mvI rfl rfl rfl rfl) <|
       ils_nil ?_)
      refine thenQ_n ⟨(n0, v32, x36), (fun i => i), ⟨(.sames rfl rfl), (.cons (.blk rfl rfl rfl) .nil), nd_of [0] rfl (by decide), fun _ _ => rfl⟩, ?_, ?_⟩
      exact h
      exact Nat.lt_succ_self _
   ·
    replace h := bif_f h hc28
    refine iwp_exit ?_
    refine thenQ_e ?_
    refine thenQ_e ?_
    refine blockQ_e ?_
    refine thenQ_n ?_
    obtain ⟨x39, hx39, h⟩ := bnd_e h
    refine iwp_reg (ils_cons rfl (mvI rfl rfl rfl rfl) <|
     ils_cons rfl (faR 3 rfl rfl rfl Try.underlying32 rfl ti23 (lb rfl) rfl rfl) <|
     ils_cons rfl (lrL la23 rfl rfl rfl rfl rfl (nle rfl) rfl) <|
     ils_cons rfl (iop_lenT (eInt .i64) (l := a0.Ended) rfl rfl (lb rfl) Try.underlying23 (svL rfl)) <|
     ils_cons rfl (iop_cmpx rfl rfl (lb rfl) (svI rfl) (svI rfl) rfl hx39) <|
     ils_cons rfl (asB rfl rfl rfl rfl) <|
     ils_end ?_)
    refine iwp_ret ?_
    obtain rfl := Option.some.inj h
    refine ⟨.inr rfl, (.cons (sv rfl) .nil)⟩

theorem p_fold_Check (a0 : T_fold_State) (r : Int) (h : fold_Check a0 = some r) : PureAt Try.prog 14 [.agg (v0 a0)] (.int .i64 r) := by
 refine pure_of_iwp (rs := [.int .i64 r]) Try.func14 rfl Try.ntmps14 (nle rfl) rfl fun O hO => ?_
 show IWP _ _ _ _ ⟨[(0, .agg (v0 a0))], []⟩ _
 unfold fold_Check at h
 refine iwp_reg (ils_cons rfl (iop_box' (cs := q5) 0 rfl rfl (lb rfl) rfl (svA q5 rfl) rfl rfl) <|
  ils_cons rfl (iop_assign rfl rfl (lb rfl) (sv (d := .int _ 0) rfl)) <|
  ils_end ?_)
 refine iwp_seq ?_
 obtain ⟨x1, hx1, h⟩ := bnd_e h
 obtain ⟨x2, hx2, h⟩ := bnd_e h
 obtain ⟨x3, hx3, h⟩ := bnd_e h
 obtain ⟨x4, hx4, h⟩ := bnd_e h
 obtain ⟨x5, hx5, h⟩ := bnd_e h
 obtain ⟨x6, hx6, h⟩ := bnd_e h
 obtain ⟨x7, hx7, h⟩ := bnd_e h
 obtain ⟨x8, hx8, h⟩ := bno_e h
 obtain ⟨x9, hx9, h⟩ := bnd_e h
 refine iwp_reg (ils_cons rfl (faR 0 rfl rfl rfl Try.underlying32 rfl ti3 (lb rfl) rfl rfl) <|
  ils_cons rfl (iop_load_rs (d := .int _ _) rfl rfl (lb rfl) Try.underlying3 ag3 ti3 (by decide) (svR rfl) rfl (nle rfl) rfl) <|
  ils_cons rfl (iop_cmpx rfl rfl (lb rfl) (svI rfl) (sv (d := .int _ 1) rfl) rfl hx1) <|
  ils_cons rfl (mvB rfl rfl rfl rfl) <|
  ils_guard rfl rfl (.one rfl) rfl (by decide) (fun hb => (faR 0 rfl rfl rfl Try.underlying32 rfl ti3 (lb rfl) rfl rfl)) <|
  ils_guard rfl rfl (.one rfl) rfl (by decide) (fun hb => (iop_load_rs (d := .int _ _) rfl rfl (lb rfl) Try.underlying3 ag3 ti3 (by decide) (svcR rfl hb) rfl (nle rfl) rfl)) <|
  ils_guard rfl rfl (.one rfl) rfl (by decide) (fun hb => (iop_cmpx rfl rfl (lb rfl) (svcI rfl hb) (sv (d := .int _ 24) rfl) rfl hx2)) <|
  ils_cons rfl (iop_orx rfl rfl (lb rfl) (svB rfl) rfl rfl hx3) <|
  ils_cons rfl (mvB rfl rfl rfl rfl) <|
  ils_guard rfl rfl (.one rfl) rfl (by decide) (fun hb => (faR 1 rfl rfl rfl Try.underlying32 rfl ti3 (lb rfl) rfl rfl)) <|
  ils_guard rfl rfl (.one rfl) rfl (by decide) (fun hb => (iop_load_rs (d := .int _ _) rfl rfl (lb rfl) Try.underlying3 ag3 ti3 (by decide) (svcR rfl hb) rfl (nle rfl) rfl)) <|
  ils_guard rfl rfl (.one rfl) rfl (by decide) (fun hb => (iop_cmpx rfl rfl (lb rfl) (svcI rfl hb) (sv (d := .int _ 0) rfl) rfl hx4)) <|
  ils_cons rfl (iop_orx rfl rfl (lb rfl) (svB rfl) rfl rfl hx5) <|
  ils_cons rfl (mvB rfl rfl rfl rfl) <|
  ils_guard rfl rfl (.one rfl) rfl (by decide) (fun hb => (faR 1 rfl rfl rfl Try.underlying32 rfl ti3 (lb rfl) rfl rfl)) <|
  ils_guard rfl rfl (.one rfl) rfl (by decide) (fun hb => (iop_load_rs (d := .int _ _) rfl rfl (lb rfl) Try.underlying3 ag3 ti3 (by decide) (svcR rfl hb) rfl (nle rfl) rfl)) <|
  ils_guard rfl rfl (.one rfl) rfl (by decide) (fun hb => (faR 0 rfl rfl rfl Try.underlying32 rfl ti3 (lb rfl) rfl rfl)) <|
  ils_guard rfl rfl (.one rfl) rfl (by decide) (fun hb => (iop_load_rs (d := .int _ _) rfl rfl (lb rfl) Try.underlying3 ag3 ti3 (by decide) (svcR rfl hb) rfl (nle rfl) rfl)) <|
  ils_guard rfl rfl (.one rfl) rfl (by decide) (fun hb => (iop_cmpx rfl rfl (lb rfl) (svcI rfl hb) (svcI rfl hb) rfl hx6)) <|
  ils_cons rfl (iop_orx rfl rfl (lb rfl) (svB rfl) rfl rfl hx7) <|
  ils_cons rfl (mvB rfl rfl rfl rfl) <|
  ils_guard rfl rfl (.one rfl) rfl (by decide) (fun hb => (faR 2 rfl rfl rfl Try.underlying32 rfl ti30 (lb rfl) rfl rfl)) <|
  ils_guard rfl rfl (.one rfl) rfl (by decide) (fun hb => (iop_load_rs (d := .slice _ _) rfl rfl (lb rfl) Try.underlying30 ag30 ti30 (by decide) (svcR rfl hb) rfl (nle rfl) rfl)) <|
  ils_guard rfl rfl (.one rfl) rfl (by decide) (fun hb => (iop_call (r := .bool _) rfl rfl (lb rfl) cl39 (.cons (svcL rfl hb) (.cons (sv (d := .fn 40 []) rfl) .nil)) rfl (p_slices_ContainsFunc_ptree_Node_ptree_Node_wrong _ _ (gd_t hx8 hb)))) <|
  ils_cons rfl (iop_orx rfl rfl (lb rfl) (svB rfl) rfl rfl hx9) <|
  ils_end ?_)
 refine iwp_cond (b := _) rfl (fun hc10 => ?_) (fun hc10 => ?_)
 ·
  replace h := bif_t h hc10
  refine iwp_reg (ils_cons rfl (iop_assign rfl rfl (lb rfl) (sv (d := .int _ 8) rfl)) <|
   ils_end ?_)
  refine iwp_ret ?_
  refine thenQ_r ?_
  obtain rfl := Option.some.inj h
  refine ⟨.inr rfl, (.cons (sv rfl) .nil)⟩
 ·
  replace h := bif_f h hc10
  refine iwp_skip ?_
  refine thenQ_n ?_
  refine iwp_seq ?_
  obtain ⟨x11, hx11, h⟩ := bnd_e h
  obtain ⟨x12, hx12, h⟩ := bnd_e h
  obtain ⟨x13, hx13, h⟩ := bnd_e h
  refine iwp_reg (ils_cons rfl (faR 2 rfl rfl rfl Try.underlying32 rfl ti30 (lb rfl) rfl rfl) <|
   ils_cons rfl (lrL la30 rfl rfl rfl rfl rfl (nle rfl) rfl) <|
   ils_cons rfl (iop_lenT E_ptree_Node (l := a0.Nodes) rfl rfl (lb rfl) Try.underlying30 (svL rfl)) <|
   ils_cons rfl (faR 0 rfl rfl rfl Try.underlying32 rfl ti3 (lb rfl) rfl rfl) <|
   ils_cons rfl (iop_load_rs (d := .int _ _) rfl rfl (lb rfl) Try.underlying3 ag3 ti3 (by decide) (svR rfl) rfl (nle rfl) rfl) <|
   ils_cons rfl (iop_cmpx rfl rfl (lb rfl) (svI rfl) (svI rfl) rfl hx11) <|
   ils_cons rfl (mvB rfl rfl rfl rfl) <|
   ils_guard rfl rfl (.one rfl) rfl (by decide) (fun hb => (faR 3 rfl rfl rfl Try.underlying32 rfl ti23 (lb rfl) rfl rfl)) <|
   ils_guard rfl rfl (.one rfl) rfl (by decide) (fun hb => (iop_load_rs (d := .slice _ _) rfl rfl (lb rfl) Try.underlying23 ag23 ti23 (by decide) (svcR rfl hb) rfl (nle rfl) rfl)) <|
   ils_guard rfl rfl (.one rfl) rfl (by decide) (fun hb => (iop_lenT (eInt .i64) (l := a0.Ended) rfl rfl (lb rfl) Try.underlying23 (svcL rfl hb))) <|
   ils_guard rfl rfl (.one rfl) rfl (by decide) (fun hb => (faR 1 rfl rfl rfl Try.underlying32 rfl ti3 (lb rfl) rfl rfl)) <|
   ils_guard rfl rfl (.one rfl) rfl (by decide) (fun hb => (iop_load_rs (d := .int _ _) rfl rfl (lb rfl) Try.underlying3 ag3 ti3 (by decide) (svcR rfl hb) rfl (nle rfl) rfl)) <|
   ils_guard rfl rfl (.one rfl) rfl (by decide) (fun hb => (iop_cmpx rfl rfl (lb rfl) (svcI rfl hb) (svcI rfl hb) rfl hx12)) <|
   ils_cons rfl (iop_orx rfl rfl (lb rfl) (svB rfl) rfl rfl hx13) <|
   ils_end ?_)
  refine iwp_cond (b := _) rfl (fun hc14 => ?_) (fun hc14 => ?_)
  ·
   replace h := bif_t h hc14
   refine iwp_reg (ils_cons rfl (iop_assign rfl rfl (lb rfl) (sv (d := .int _ 7) rfl)) <|
    ils_end ?_)
   refine iwp_ret ?_
   refine thenQ_r ?_
   obtain rfl := Option.some.inj h
   refine ⟨.inr rfl, (.cons (sv rfl) .nil)⟩
  ·
   replace h := bif_f h hc14
   refine iwp_skip ?_
   refine thenQ_n ?_
   refine iwp_seq ?_
   refine iwp_reg (ils_cons rfl (iop_assign rfl rfl (lb rfl) (sv (d := .int _ 1) rfl)) <|
    ils_end ?_)
   refine iwp_block ?_
   refine iwp_loopP (α := Nat × Int) (fun z => ⟨[(1, .ref 0 0), (3, .int .i64 z.2)], [(0, .blk 32 (v0 a0))]⟩) (fun z => fold_Check_L0 a0 z.1 z.2 = some r) (fun z => z.1) (fuel, 1) (fun i => i) ⟨(.sames rfl rfl), (.cons (.blk rfl rfl rfl) .nil), nd_of [0] rfl (by decide), fun _ _ => rfl⟩ ?_ ?_
   ·exact h
   ·
    rintro ⟨n0, v23⟩ h
    cases n0 with
    | zero => exact absurd h (by unfold fold_Check_L0; exact nofun)
    | succ n0 =>
     unfold fold_Check_L0 at h
     refine iwp_seq ?_
     obtain ⟨x32, hx32, h⟩ := bnd_e h
     refine iwp_reg (ils_cons rfl (mvI rfl rfl rfl rfl) <|
      ils_cons rfl (faR 2 rfl rfl rfl Try.underlying32 rfl ti30 (lb rfl) rfl rfl) <|
      ils_cons rfl (lrL la30 rfl rfl rfl rfl rfl (nle rfl) rfl) <|
      ils_cons rfl (iop_lenT E_ptree_Node (l := a0.Nodes) rfl rfl (lb rfl) Try.underlying30 (svL rfl)) <|
      ils_cons rfl (iop_cmpx rfl rfl (lb rfl) (svI rfl) (svI rfl) rfl hx32) <|
      ils_end ?_)
     refine iwp_cond (b := _) rfl (fun hc33 => ?_) (fun hc33 => ?_)
     ·
      replace h := bif_t h hc33
      refine iwp_skip ?_
      refine thenQ_n ?_
      refine iwp_seq ?_
      refine iwp_block ?_
      obtain ⟨x34, hx34, h⟩ := bnd_e h
      obtain ⟨x35, hx35, h⟩ := bno_e h
      obtain ⟨x36, hx36, h⟩ := bno_e h
      obtain ⟨x37, hx37, h⟩ := bnd_e h
      refine iwp_drw rfl [⟨[1], [], [(50, .ref 0 2)], []⟩,
       ⟨[50], [0], [(51, .slice false (a0.Nodes.map E_ptree_Node.d))], []⟩,
       ⟨[3], [], [(52, .int .i64 v23)], []⟩,
       ⟨[52], [], [(53, .int .i64 x34)], []⟩,
       ⟨[51, 53], [], [(54, .fptr (v3 x35))], []⟩,
       ⟨[54], [], [(55, .fptr [.int .i64 x35.ID])], []⟩,
       ⟨[55], [], [(56, .int .i64 x35.ID)], []⟩,
       ⟨[1], [], [(57, .ref 0 2)], []⟩,
       ⟨[57], [0], [(58, .slice false (a0.Nodes.map E_ptree_Node.d))], []⟩,
       ⟨[3], [], [(59, .int .i64 v23)], []⟩,
       ⟨[58, 59], [], [(60, .fptr (v3 x36))], []⟩,
       ⟨[60], [], [(61, .fptr [.int .i64 x36.ID])], []⟩,
       ⟨[61], [], [(62, .int .i64 x36.ID)], []⟩,
       ⟨[56, 62], [], [(63, .bool x37)], []⟩] rfl ?_ (by kernel_rfl) ?_
      ·refine .cons (lop rfl rfl fun S hA => (iop_fieldAddr_ref rfl rfl (lb rfl) Try.underlying32 rfl ti30 (by decide) (svaR hA rfl rfl) (off' := 2) rfl)) ?_
       refine .cons (lop rfl rfl fun S hA => (iop_load_rs (d := .slice _ _) rfl rfl (lb rfl) Try.underlying30 ag30 ti30 (by decide) (svaR hA rfl rfl) (agi hA rfl rfl) (nle rfl) rfl)) ?_
       refine .cons (lop rfl rfl fun S hA => (iop_move rfl rfl (lb rfl) (svaI hA rfl rfl))) ?_
       refine .cons (lop rfl rfl fun S hA => (iop_intx rfl rfl (lb rfl) (svaI hA rfl rfl) (sv (d := .int _ 1) rfl) rfl hx34)) ?_
       refine .cons (lop rfl rfl fun S hA => (iop_idxT E_ptree_Node (cs := q8) rfl rfl (lb rfl) Try.underlying30 ti56 (svaL hA rfl rfl) (svaI hA rfl rfl) hx35 rfl rfl)) ?_
       refine .cons (lop rfl rfl fun S hA => (iop_fieldAddr_fptr (cs' := [.int _ _]) rfl rfl (lb rfl) Try.underlying56 rfl ti3 (by decide) (sv (d := .fptr q8) (agr hA rfl rfl)) rfl)) ?_
       refine .cons (lop rfl rfl fun S hA => (iop_load_fs rfl rfl (lb rfl) Try.underlying3 ag3 ti3 (by decide) (sv (d := .fptr [.int _ _]) (agr hA rfl rfl)) (nle rfl))) ?_
       refine .cons (lop rfl rfl fun S hA => (iop_fieldAddr_ref rfl rfl (lb rfl) Try.underlying32 rfl ti30 (by decide) (svaR hA rfl rfl) (off' := 2) rfl)) ?_
       refine .cons (lop rfl rfl fun S hA => (iop_load_rs (d := .slice _ _) rfl rfl (lb rfl) Try.underlying30 ag30 ti30 (by decide) (svaR hA rfl rfl) (agi hA rfl rfl) (nle rfl) rfl)) ?_
       refine .cons (lop rfl rfl fun S hA => (iop_move rfl rfl (lb rfl) (svaI hA rfl rfl))) ?_
       refine .cons (lop rfl rfl fun S hA => (iop_idxT E_ptree_Node (cs := q8) rfl rfl (lb rfl) Try.underlying30 ti56 (svaL hA rfl rfl) (svaI hA rfl rfl) hx36 rfl rfl)) ?_
       refine .cons (lop rfl rfl fun S hA => (iop_fieldAddr_fptr (cs' := [.int _ _]) rfl rfl (lb rfl) Try.underlying56 rfl ti3 (by decide) (sv (d := .fptr q8) (agr hA rfl rfl)) rfl)) ?_
       refine .cons (lop rfl rfl fun S hA => (iop_load_fs rfl rfl (lb rfl) Try.underlying3 ag3 ti3 (by decide) (sv (d := .fptr [.int _ _]) (agr hA rfl rfl)) (nle rfl))) ?_
       refine .cons (lop rfl rfl fun S hA => (iop_cmpx rfl rfl (lb rfl) (svaI hA rfl rfl) (svaI hA rfl rfl) rfl hx37)) ?_
       exact .nil
      refine iwp_cond (b := _) rfl (fun hc38 => ?_) (fun hc38 => ?_)
      ·
       replace h := bif_t h hc38
       refine iwp_reg (ils_cons rfl (iop_assign rfl rfl (lb rfl) (sv (d := .int _ 10) rfl)) <|
        ils_end ?_)
       refine iwp_ret ?_
       refine blockQ_r ?_
       refine thenQ_r ?_
       refine thenQ_r ?_
       refine blockQ_r ?_
       refine thenQ_r ?_
       obtain rfl := Option.some.inj h
       refine ⟨.inr rfl, (.cons (sv rfl) .nil)⟩
      ·
       replace h := bif_f h hc38
       refine iwp_skip ?_
       refine blockQ_n ?_
       refine thenQ_n ?_
       obtain ⟨x39, hx39, h⟩ := bnd_e h
       refine iwp_region (ils_cons rfl (mvI rfl rfl rfl rfl) <|
        ils_cons rfl (iop_intx rfl rfl (lb rfl) (svI rfl) (sv (d := .int _ 1) rfl) rfl hx39) <|
        ils_cons rfl (asI rfl rfl rfl rfl) <|
        ils_nil ?_)
       refine thenQ_n ⟨(n0, x39), (fun i => i), ⟨(.sames rfl rfl), (.cons (.blk rfl rfl rfl) .nil), nd_of [0] rfl (by decide), fun _ _ => rfl⟩, ?_, ?_⟩
       exact h
       exact Nat.lt_succ_self _
     ·
      replace h := bif_f h hc33
      refine iwp_exit ?_
      refine thenQ_e ?_
      refine thenQ_e ?_
      refine blockQ_e ?_
      refine thenQ_n ?_
      refine iwp_seq ?_
      refine iwp_block ?_
      obtain ⟨x40, hx40, h⟩ := bno_e h
      refine iwp_reg (ils_cons rfl (faR 2 rfl rfl rfl Try.underlying32 rfl ti30 (lb rfl) rfl rfl) <|
       ils_cons rfl (lrL la30 rfl rfl rfl rfl rfl (nle rfl) rfl) <|
       ils_cons rfl (lra q5 la32 rfl rfl rfl rfl rfl (nle rfl) rfl) <|
       ils_cons rfl (iop_makeMv rfl rfl (lb rfl) (.cons (svA q5 rfl) .nil)) <|
       ils_cons rfl (iop_call (r := .bool _) rfl rfl (lb rfl) cl39 (.cons (svL rfl) (.cons (sv (d := .mv 41 [.agg q5]) rfl) .nil)) rfl (p_slices_ContainsFunc_ptree_Node_ptree_Node_lost _ _ _ hx40)) <|
       ils_cons rfl (asB rfl rfl rfl rfl) <|
       ils_end ?_)
      refine iwp_cond (b := _) rfl (fun hc41 => ?_) (fun hc41 => ?_)
      ·
       replace h := bif_t h hc41
       refine iwp_reg (ils_cons rfl (iop_assign rfl rfl (lb rfl) (sv (d := .int _ 6) rfl)) <|
        ils_end ?_)
       refine iwp_ret ?_
       refine blockQ_r ?_
       refine thenQ_r ?_
       obtain rfl := Option.some.inj h
       refine ⟨.inr rfl, (.cons (sv rfl) .nil)⟩
      ·
       replace h := bif_f h hc41
       obtain ⟨x42, hx42, h⟩ := bno_e h
       refine iwp_reg (ils_cons rfl (faR 2 rfl rfl rfl Try.underlying32 rfl ti30 (lb rfl) rfl rfl) <|
        ils_cons rfl (lrL la30 rfl rfl rfl rfl rfl (nle rfl) rfl) <|
        ils_cons rfl (lra q5 la32 rfl rfl rfl rfl rfl (nle rfl) rfl) <|
        ils_cons rfl (iop_makeMv rfl rfl (lb rfl) (.cons (svA q5 rfl) .nil)) <|
        ils_cons rfl (iop_call (r := .bool _) rfl rfl (lb rfl) cl39 (.cons (svL rfl) (.cons (sv (d := .mv 42 [.agg q5]) rfl) .nil)) rfl (p_slices_ContainsFunc_ptree_Node_ptree_Node_round _ _ _ hx42)) <|
        ils_cons rfl (asB rfl rfl rfl rfl) <|
        ils_end ?_)
       refine iwp_cond (b := _) rfl (fun hc43 => ?_) (fun hc43 => ?_)
       ·
        replace h := bif_t h hc43
        refine iwp_reg (ils_cons rfl (iop_assign rfl rfl (lb rfl) (sv (d := .int _ 4) rfl)) <|
         ils_end ?_)
        refine iwp_ret ?_
        refine blockQ_r ?_
        refine thenQ_r ?_
        obtain rfl := Option.some.inj h
        refine ⟨.inr rfl, (.cons (sv rfl) .nil)⟩
       ·
        replace h := bif_f h hc43
        obtain ⟨x44, hx44, h⟩ := bno_e h
        refine iwp_reg (ils_cons rfl (lra q5 la32 rfl rfl rfl rfl rfl (nle rfl) rfl) <|
         ils_cons rfl (iop_call (r := .bool _) rfl rfl (lb rfl) cl43 (.cons (svA q5 rfl) .nil) rfl (p_fold_State_ended _ _ hx44)) <|
         ils_cons rfl (iop_not rfl rfl (lb rfl) (svB rfl)) <|
         ils_cons rfl (asB rfl rfl rfl rfl) <|
         ils_end ?_)
        refine iwp_cond (b := _) rfl (fun hc45 => ?_) (fun hc45 => ?_)
        ·
         replace h := bif_t h hc45
         refine iwp_reg (ils_cons rfl (iop_assign rfl rfl (lb rfl) (sv (d := .int _ 9) rfl)) <|
          ils_end ?_)
         refine iwp_ret ?_
         refine blockQ_r ?_
         refine thenQ_r ?_
         obtain rfl := Option.some.inj h
         refine ⟨.inr rfl, (.cons (sv rfl) .nil)⟩
        ·
         replace h := bif_f h hc45
         refine iwp_skip ?_
         refine blockQ_n ?_
         refine thenQ_n ?_
         refine iwp_reg (ils_cons rfl (iop_assign rfl rfl (lb rfl) (sv (d := .int _ 0) rfl)) <|
          ils_end ?_)
         refine iwp_ret ?_
         obtain rfl := Option.some.inj h
         refine ⟨.inr rfl, (.cons (sv rfl) .nil)⟩

theorem p_fold_State_path_h_v2 (a0 : Int) (a1 : Int) (a2 : Int) (a3 : (List T_ptree_Node)) (a4 : (List Int)) (r : (List Int)) (h : fold_State_path_h_v2 a0 a1 a2 a3 a4 = some r) : FnH Try.prog 52 [.agg (w18 a0 a1 (.osl 1000 E_ptree_Node.sz a3.length) (.osl 1001 (eInt .i64).sz a4.length)), .int .i64 a2] [(1000, .blk 56 (D.flat (a3.map E_ptree_Node.d))), (1001, .blk 3 (D.flat (a4.map (eInt .i64).d)))] (.osl 0 (eInt .i64).sz r.length) [(1000, .blk 56 (D.flat (a3.map E_ptree_Node.d))), (1001, .blk 3 (D.flat (a4.map (eInt .i64).d))), (0, .blk 3 (D.flat (r.map (eInt .i64).d)))] := by
 refine fnh_of_iwp (rs := [.osl 0 (eInt .i64).sz r.length]) Try.func52 rfl Try.ntmps52 (nle rfl) fun O hO => ?_
 show IWP _ _ _ _ ⟨[(0, .agg (w18 a0 a1 (.osl 1000 E_ptree_Node.sz a3.length) (.osl 1001 (eInt .i64).sz a4.length))), (1, .int .i64 a2)], [(1000, .blk 56 (D.flat (a3.map E_ptree_Node.d))), (1001, .blk 3 (D.flat (a4.map (eInt .i64).d)))]⟩ _
 unfold fold_State_path_h_v2 at h
 refine iwp_reg (ils_cons rfl (iop_box' (cs := q6) 0 rfl rfl (lb rfl) rfl (svA q6 rfl) rfl rfl) <|
  ils_cons rfl (iop_assign rfl rfl (lb rfl) (sv (d := .nils) rfl)) <|
  ils_end ?_)
 refine iwp_reg (ils_cons rfl (iop_assign rfl rfl (lb rfl) (sv (d := .nils) rfl)) <|
  ils_end ?_)
 refine iwp_seq ?_
 refine iwp_reg (ils_cons rfl (faR 2 rfl rfl rfl Try.underlying32 rfl ti30 (lb rfl) rfl rfl) <|
  ils_cons rfl (iop_load_rs (d := .osl _ _ _) rfl rfl (lb rfl) Try.underlying30 ag30 ti30 (by decide) (svR rfl) rfl (nle rfl) rfl) <|
  ils_cons rfl (iop_lenO rfl rfl (lb rfl) Try.underlying30 (sv (d := .osl _ _ _) rfl)) <|
  ils_cons rfl (iop_move rfl rfl (lb rfl) (sv (d := .int _ 0) rfl)) <|
  ils_end ?_)
 refine iwp_block ?_
 refine iwp_loopP (α := Nat × Int × (List Int) × Int) (fun z => ⟨[(1, .int .i64 z.2.1), (2, .ref 0 0), (5, .osl 22 (eInt .i64).sz z.2.2.1.length), (10, .int .i64 (a3.length : Int)), (11, .int .i64 z.2.2.2)], [(0, .blk 32 (w18 a0 a1 (.osl 1000 E_ptree_Node.sz a3.length) (.osl 1001 (eInt .i64).sz a4.length))), (22, .blk 3 (D.flat (z.2.2.1.map (eInt .i64).d))), (1000, .blk 56 (D.flat (a3.map E_ptree_Node.d))), (1001, .blk 3 (D.flat (a4.map (eInt .i64).d)))]⟩) (fun z => fold_State_path_h_v2_L0 a0 a1 a3 a4 z.1 z.2.1 z.2.2.1 z.2.2.2 = some r) (fun z => z.1) (fuel, a2, ([] : (List Int)), 0) (fun i => if i = 22 then 73 else i) ⟨(.s rfl rfl (.s rfl rfl (.cons (.nilo rfl) (.sames rfl rfl)))), (.cons (.blk rfl rfl rfl) (.cons (.nilb rfl) (.cons (EntW.lst rfl) (.cons (EntW.lst rfl) .nil)))), nd_of [0, 73, 1000, 1001] rfl (by decide), (fun i hi => by first | rfl | (show (if _ then _ else _) = _; (repeat' split) <;> omega))⟩ ?_ ?_
 ·exact h
 ·
  rintro ⟨n0, v13, v14, v15⟩ h
  cases n0 with
  | zero => exact absurd h (by unfold fold_State_path_h_v2_L0; exact nofun)
  | succ n0 =>
   unfold fold_State_path_h_v2_L0 at h
   obtain ⟨x28, hx28, h⟩ := bnd_e h
   refine iwp_reg (ils_cons rfl (iop_cmpx rfl rfl (lb rfl) (svI rfl) (svI rfl) rfl hx28) <|
    ils_end ?_)
   refine iwp_seq ?_
   refine iwp_cond (b := _) rfl (fun hc29 => ?_) (fun hc29 => ?_)
   ·
    replace h := bif_t h hc29
    refine iwp_skip ?_
    refine thenQ_n ?_
    refine iwp_seq ?_
    refine iwp_block ?_
    obtain ⟨x30, hx30, h⟩ := bno_e h
    refine iwp_reg (ils_cons rfl (lra q6 la32 rfl rfl rfl rfl rfl (nle rfl) rfl) <|
     ils_cons rfl (mvI rfl rfl rfl rfl) <|
     ils_cons rfl (iop_callp (r := .tuple [.int .i64 x30.1, .bool x30.2]) rfl rfl (lb rfl) cl30 (.cons (svA q6 rfl) (.cons (svI rfl) .nil)) (.cons (.agg (.k (.k (.cons (FDT E_ptree_Node rfl rfl) (.cons (FDT (eInt .i64) rfl rfl) .nil))))) (.all _)) rfl rfl (p_fold_State_find _ _ _ hx30)) <|
     ils_cons rfl (iop_move rfl rfl (lb rfl) (sv (d := .tuple q13) rfl)) <|
     ils_cons rfl (iop_extract (d := .int _ _) rfl rfl (lb rfl) (sv (d := .tuple q13) rfl) rfl) <|
     ils_cons rfl (iop_extract (d := .bool _) rfl rfl (lb rfl) (sv (d := .tuple q13) rfl) rfl) <|
     ils_cons rfl (asI rfl rfl rfl rfl) <|
     ils_cons rfl (asB rfl rfl rfl rfl) <|
     ils_end ?_)
    refine iwp_seq ?_
    obtain ⟨x31, hx31, h⟩ := bno_e h
    obtain ⟨x32, hx32, h⟩ := bno_e h
    obtain ⟨x33, hx33, h⟩ := bnd_e h
    obtain ⟨x34, hx34, h⟩ := bnd_e h
    refine iwp_reg (ils_cons rfl (mvB rfl rfl rfl rfl) <|
     ils_cons rfl (iop_not rfl rfl (lb rfl) (svB rfl)) <|
     ils_cons rfl (mvB rfl rfl rfl rfl) <|
     ils_guard rfl rfl (.one rfl) rfl (by decide) (fun hb => (faR 2 rfl rfl rfl Try.underlying32 rfl ti30 (lb rfl) rfl rfl)) <|
     ils_guard rfl rfl (.one rfl) rfl (by decide) (fun hb => (iop_load_rs (d := .osl _ _ _) rfl rfl (lb rfl) Try.underlying30 ag30 ti30 (by decide) (svcR rfl hb) rfl (nle rfl) rfl)) <|
     ils_guard rfl rfl (.one rfl) rfl (by decide) (fun hb => (mvI rfl rfl rfl rfl)) <|
     ils_guard rfl rfl (.one rfl) rfl (by decide) (fun hb => (iop_idxO E_ptree_Node.toEnc0 rfl rfl (lb rfl) Try.underlying30 ti56 (svc (d := .osl _ _ _) rfl hb) rfl (svcI rfl hb) (gd_t hx31 hb))) <|
     ils_guard rfl rfl (.one rfl) rfl (by decide) (fun hb => (iop_field_E rfl rfl (lb rfl) Try.underlying56 rfl ti3 (by decide) (svcR rfl hb) (k' := 1) rfl)) <|
     ils_guard rfl rfl (.one rfl) rfl (by decide) (fun hb => (iop_loadEs E_ptree_Node.toEnc0 (d := .int _ _) rfl rfl (lb rfl) Try.underlying3 ag3 ti3 (by decide) (svcR rfl hb) rfl (gd_t hx32 hb) (nle rfl) rfl)) <|
     ils_guard rfl rfl (.one rfl) rfl (by decide) (fun hb => (iop_cmpx rfl rfl (lb rfl) (svcI rfl hb) (sv (d := .int _ 0) rfl) rfl hx33)) <|
     ils_cons rfl (iop_orx rfl rfl (lb rfl) (svB rfl) rfl rfl hx34) <|
     ils_end ?_)
    refine iwp_cond (b := _) rfl (fun hc35 => ?_) (fun hc35 => ?_)
    ·
     replace h := bif_t h hc35
     refine iwp_exit ?_
     refine thenQ_e ?_
     refine blockQ_x rfl ?_
     refine thenQ_e ?_
     refine thenQ_e ?_
     refine blockQ_e ?_
     refine thenQ_n ?_
     refine iwp_reg (ils_cons rfl (iop_move rfl rfl (lb rfl) (sv (d := .osl _ _ _) rfl)) <|
      ils_cons rfl (iop_assign rfl rfl (lb rfl) (sv (d := .osl _ _ _) rfl)) <|
      ils_end ?_)
     refine iwp_ret ?_
     obtain rfl := Option.some.inj h
     refine ⟨.inr rfl, (fun i => if i = 0 then 22 else i), ⟨.nil, (.cons (EntW.lst rfl) (.cons (EntW.lst rfl) (.cons (EntW.lst rfl) .nil))), nd_of [1000, 1001, 22] rfl (by decide), (fun i hi => by first | rfl | (show (if _ then _ else _) = _; (repeat' split) <;> omega))⟩, (.cons (sv rfl) .nil), rfl⟩
    ·
     replace h := bif_f h hc35
     refine iwp_skip ?_
     refine thenQ_n ?_
     obtain ⟨x36, hx36, h⟩ := bno_e h
     obtain ⟨x37, hx37, h⟩ := bno_e h
     refine iwp_reg (ils_cons rfl (faR 2 rfl rfl rfl Try.underlying32 rfl ti30 (lb rfl) rfl rfl) <|
      ils_cons rfl (iop_load_rs (d := .osl _ _ _) rfl rfl (lb rfl) Try.underlying30 ag30 ti30 (by decide) (svR rfl) rfl (nle rfl) rfl) <|
      ils_cons rfl (mvI rfl rfl rfl rfl) <|
      ils_cons rfl (iop_idxO E_ptree_Node.toEnc0 rfl rfl (lb rfl) Try.underlying30 ti56 (sv (d := .osl _ _ _) rfl) rfl (svI rfl) hx36) <|
      ils_cons rfl (iop_field_E rfl rfl (lb rfl) Try.underlying56 rfl ti3 (by decide) (svR rfl) (k' := 1) rfl) <|
      ils_cons rfl (iop_loadEs E_ptree_Node.toEnc0 (d := .int _ _) rfl rfl (lb rfl) Try.underlying3 ag3 ti3 (by decide) (svR rfl) rfl hx37 (nle rfl) rfl) <|
      ils_cons rfl (asI rfl rfl rfl rfl) <|
      ils_end ?_)
     obtain ⟨x38, hx38, h⟩ := bno_e h
     refine iwp_region (ils_cons rfl (iop_move rfl rfl (lb rfl) (sv (d := .osl _ _ _) rfl)) <|
      ils_cons rfl (mvI rfl rfl rfl rfl) <|
      ils_cons rfl (iop_bsO (eInt .i64).toEnc0 ([x37.Parent] : (List Int)) 23 rfl rfl (lb rfl) Try.underlying23 ti3 rfl (.cons (svI rfl) .nil) rfl rfl (by decide)) <|
      ils_cons rfl (iop_appO (eInt .i64).toEnc0 24 rfl rfl (lb rfl) Try.underlying23 ti3 rfl rfl rfl rfl rfl (src_O (eInt .i64).toEnc0 rfl rfl rfl) hx38) <|
      ils_cons rfl (iop_assign rfl rfl (lb rfl) (sv (d := .osl _ _ _) rfl)) <|
      ils_nil ?_)
     refine blockQ_n ?_
     refine thenQ_n ?_
     obtain ⟨x39, hx39, h⟩ := bnd_e h
     refine iwp_region (ils_cons rfl (iop_intx rfl rfl (lb rfl) (svI rfl) (sv (d := .int _ 1) rfl) rfl hx39) <|
      ils_cons rfl (mvI rfl rfl rfl rfl) <|
      ils_nil ?_)
     refine thenQ_n ⟨(n0, x37.Parent, x38, x39), (fun i => if i = 22 then 24 else i), ⟨(.sames rfl rfl), (.cons (.blk rfl rfl rfl) (.cons (EntW.lst rfl) (.cons (EntW.lst rfl) (.cons (EntW.lst rfl) .nil)))), nd_of [0, 24, 1000, 1001] rfl (by decide), (fun i hi => by first | rfl | (show (if _ then _ else _) = _; (repeat' split) <;> omega))⟩, ?_, ?_⟩
     exact h
     exact Nat.lt_succ_self _
   ·
    replace h := bif_f h hc29
    refine iwp_exit ?_
    refine thenQ_e ?_
    refine thenQ_e ?_
    refine blockQ_e ?_
    refine thenQ_n ?_
    refine iwp_reg (ils_cons rfl (iop_move rfl rfl (lb rfl) (sv (d := .osl _ _ _) rfl)) <|
     ils_cons rfl (iop_assign rfl rfl (lb rfl) (sv (d := .osl _ _ _) rfl)) <|
     ils_end ?_)
    refine iwp_ret ?_
    obtain rfl := Option.some.inj h
    refine ⟨.inr rfl, (fun i => if i = 0 then 22 else i), ⟨.nil, (.cons (EntW.lst rfl) (.cons (EntW.lst rfl) (.cons (EntW.lst rfl) .nil))), nd_of [1000, 1001, 22] rfl (by decide), (fun i hi => by first | rfl | (show (if _ then _ else _) = _; (repeat' split) <;> omega))⟩, (.cons (sv rfl) .nil), rfl⟩

theorem p_fold_State_hang_h (a0 : Int) (a1 : Int) (a2 : T_fold_Op) (a3 : (List T_ptree_Node)) (a4 : (List Int)) (r : (Int × Int × (List T_ptree_Node) × (List Int))) (h : fold_State_hang_h a0 a1 a2 a3 a4 = some r) : FnH Try.prog 61 [.agg (w18 a0 a1 (.osl 1000 E_ptree_Node.sz a3.length) (.osl 1001 (eInt .i64).sz a4.length)), .agg (v2 a2)] [(1000, .blk 56 (D.flat (a3.map E_ptree_Node.d))), (1001, .blk 3 (D.flat (a4.map (eInt .i64).d)))] (.agg (w18 r.1 r.2.1 (.osl 0 E_ptree_Node.sz r.2.2.1.length) (.osl 1 (eInt .i64).sz r.2.2.2.length))) [(0, .blk 56 (D.flat (r.2.2.1.map E_ptree_Node.d))), (1, .blk 3 (D.flat (r.2.2.2.map (eInt .i64).d)))] := by
 refine fnh_of_iwp (rs := [.agg (w18 r.1 r.2.1 (.osl 0 E_ptree_Node.sz r.2.2.1.length) (.osl 1 (eInt .i64).sz r.2.2.2.length))]) Try.func61 rfl Try.ntmps61 (nle rfl) fun O hO => ?_
 show IWP _ _ _ _ ⟨[(0, .agg (w18 a0 a1 (.osl 1000 E_ptree_Node.sz a3.length) (.osl 1001 (eInt .i64).sz a4.length))), (1, .agg (v2 a2))], [(1000, .blk 56 (D.flat (a3.map E_ptree_Node.d))), (1001, .blk 3 (D.flat (a4.map (eInt .i64).d)))]⟩ _
 unfold fold_State_hang_h at h
 refine iwp_reg (ils_cons rfl (iop_box' (cs := q6) 0 rfl rfl (lb rfl) rfl (svA q6 rfl) rfl rfl) <|
  ils_cons rfl (iop_box' (cs := q4) 1 rfl rfl (lb rfl) rfl (svA q4 rfl) rfl rfl) <|
  ils_cons rfl (iop_allocS (cs := q10) (cs' := (w14 0 0 ([] : List T_ptree_Node) ([] : List Int))) 2 rfl rfl (lb rfl) rfl ti32 rfl rfl (.k (.k (.cons (.nils _) (.cons (.nils _) .nil))))) <|
  ils_end ?_)
 obtain ⟨x1, hx1, h⟩ := bno_e h
 refine iwp_reg (ils_cons rfl (lra q6 la32 rfl rfl rfl rfl rfl (nle rfl) rfl) <|
  ils_cons rfl (faR 2 rfl rfl rfl Try.underlying37 rfl ti3 (lb rfl) rfl rfl) <|
  ils_cons rfl (iop_load_rs (d := .int _ _) rfl rfl (lb rfl) Try.underlying3 ag3 ti3 (by decide) (svR rfl) rfl (nle rfl) rfl) <|
  ils_cons rfl (iop_callp (r := .tuple [.int .i64 x1.1, .bool x1.2]) rfl rfl (lb rfl) cl30 (.cons (svA q6 rfl) (.cons (svI rfl) .nil)) (.cons (.agg (.k (.k (.cons (FDT E_ptree_Node rfl rfl) (.cons (FDT (eInt .i64) rfl rfl) .nil))))) (.all _)) rfl rfl (p_fold_State_find _ _ _ hx1)) <|
  ils_cons rfl (iop_move rfl rfl (lb rfl) (sv (d := .tuple q13) rfl)) <|
  ils_cons rfl (iop_extract (d := .int _ _) rfl rfl (lb rfl) (sv (d := .tuple q13) rfl) rfl) <|
  ils_cons rfl (iop_extract (d := .bool _) rfl rfl (lb rfl) (sv (d := .tuple q13) rfl) rfl) <|
  ils_cons rfl (asI rfl rfl rfl rfl) <|
  ils_cons rfl (asB rfl rfl rfl rfl) <|
  ils_end ?_)
 refine iwp_join (α := Int × Int × Int × Bool) (fun z => ⟨[(2, .ref 0 0), (3, .ref 1 0), (4, .ref 2 0), (5, .int .i64 x1.1), (6, .bool x1.2)], [(0, .blk 32 (w18 a0 a1 (.osl 1000 E_ptree_Node.sz a3.length) (.osl 1001 (eInt .i64).sz a4.length))), (1, .blk 37 (w15 z.1 a2.ID z.2.1 z.2.2.1 z.2.2.2)), (2, .blk 32 (w14 0 0 ([] : List T_ptree_Node) ([] : List Int))), (1000, .blk 56 (D.flat (a3.map E_ptree_Node.d))), (1001, .blk 3 (D.flat (a4.map (eInt .i64).d)))]⟩) (fun z => fold_State_hang_h_J0 a0 a1 a2 a3 a4 x1 z.1 z.2.1 z.2.2.1 z.2.2.2 = some r) ?_ ?_
 ·
  obtain ⟨x83, hx83, h⟩ := bnd_e h
  obtain ⟨x84, hx84, h⟩ := bnd_e h
  refine iwp_reg (ils_cons rfl (mvB rfl rfl rfl rfl) <|
   ils_cons rfl (iop_not rfl rfl (lb rfl) (svB rfl)) <|
   ils_cons rfl (mvB rfl rfl rfl rfl) <|
   ils_guard rfl rfl (.one rfl) rfl (by decide) (fun hb => (faR 2 rfl rfl rfl Try.underlying37 rfl ti3 (lb rfl) rfl rfl)) <|
   ils_guard rfl rfl (.one rfl) rfl (by decide) (fun hb => (iop_load_rs (d := .int _ _) rfl rfl (lb rfl) Try.underlying3 ag3 ti3 (by decide) (svcR rfl hb) rfl (nle rfl) rfl)) <|
   ils_guard rfl rfl (.one rfl) rfl (by decide) (fun hb => (iop_cmpx rfl rfl (lb rfl) (svcI rfl hb) (sv (d := .int _ 0) rfl) rfl hx83)) <|
   ils_cons rfl (iop_andx rfl rfl (lb rfl) (svB rfl) rfl rfl hx84) <|
   ils_end ?_)
  refine iwp_cond (b := _) rfl (fun hc85 => ?_) (fun hc85 => ?_)
  ·
   replace h := bif_t h hc85
   refine iwp_region (ils_cons rfl (faR 1 rfl rfl rfl Try.underlying37 rfl ti3 (lb rfl) rfl rfl) <|
    ils_cons rfl (iop_load_rs (d := .int _ _) rfl rfl (lb rfl) Try.underlying3 ag3 ti3 (by decide) (svR rfl) rfl (nle rfl) rfl) <|
    ils_cons rfl (iop_build_struct (cs := q4) rfl rfl (lb rfl) Try.underlying37 ti37 pl37 rfl (.cons (svI rfl) (.cons (sv (d := .int _ 16) rfl) .nil)) rfl) <|
    ils_cons rfl (stA q4 q4 ti37 rfl rfl rfl rfl rfl rfl rfl rfl (nle rfl) rfl) <|
    ils_nil ?_)
   refine thenQ_n ⟨(0, 0, 16, false), (fun i => i), ⟨(.sames rfl rfl), (.cons (.blk rfl rfl rfl) (.cons (.blk rfl rfl rfl) (.cons (.blk rfl rfl rfl) (.cons (EntW.lst rfl) (.cons (EntW.lst rfl) .nil))))), nd_of [0, 1, 2, 1000, 1001] rfl (by decide), fun _ _ => rfl⟩, ?_⟩
   exact h
  ·
   replace h := bif_f h hc85
   refine iwp_skip ?_
   refine thenQ_n ⟨(a2.Kind, a2.Dep, a2.Weight, a2.Only), (fun i => i), ⟨(.sames rfl rfl), (.cons (.blk rfl rfl rfl) (.cons (.blk rfl rfl rfl) (.cons (.blk rfl rfl rfl) (.cons (EntW.lst rfl) (.cons (EntW.lst rfl) .nil))))), nd_of [0, 1, 2, 1000, 1001] rfl (by decide), fun _ _ => rfl⟩, ?_⟩
   exact h
 ·
  rintro ⟨v5, v6, v7, v8⟩ h
  unfold fold_State_hang_h_J0 at h
  obtain ⟨x9, hx9, h⟩ := bno_e h
  refine iwp_reg (ils_cons rfl (lra q6 la32 rfl rfl rfl rfl rfl (nle rfl) rfl) <|
   ils_cons rfl (faR 1 rfl rfl rfl Try.underlying37 rfl ti3 (lb rfl) rfl rfl) <|
   ils_cons rfl (iop_load_rs (d := .int _ _) rfl rfl (lb rfl) Try.underlying3 ag3 ti3 (by decide) (svR rfl) rfl (nle rfl) rfl) <|
   ils_cons rfl (iop_callp (r := .tuple [.int .i64 x9.1, .bool x9.2]) rfl rfl (lb rfl) cl30 (.cons (svA q6 rfl) (.cons (svI rfl) .nil)) (.cons (.agg (.k (.k (.cons (FDT E_ptree_Node rfl rfl) (.cons (FDT (eInt .i64) rfl rfl) .nil))))) (.all _)) rfl rfl (p_fold_State_find _ _ _ hx9)) <|
   ils_cons rfl (iop_move rfl rfl (lb rfl) (sv (d := .tuple q13) rfl)) <|
   ils_cons rfl (iop_extract (d := .int _ _) rfl rfl (lb rfl) (sv (d := .tuple q13) rfl) rfl) <|
   ils_cons rfl (iop_extract (d := .bool _) rfl rfl (lb rfl) (sv (d := .tuple q13) rfl) rfl) <|
   ils_cons rfl (asI rfl rfl rfl rfl) <|
   ils_cons rfl (asB rfl rfl rfl rfl) <|
   ils_end ?_)
  refine iwp_join (α := (List T_ptree_Node)) (fun z => ⟨[(2, .ref 0 0), (3, .ref 1 0), (4, .ref 2 0), (7, .int .i64 x9.1)], [(0, .blk 32 (w18 a0 a1 (.osl 1000 E_ptree_Node.sz z.length) (.osl 1001 (eInt .i64).sz a4.length))), (1, .blk 37 (w15 v5 a2.ID v6 v7 v8)), (2, .blk 32 (w14 0 0 ([] : List T_ptree_Node) ([] : List Int))), (1000, .blk 56 (D.flat (z.map E_ptree_Node.d))), (1001, .blk 3 (D.flat (a4.map (eInt .i64).d)))]⟩) (fun z => fold_State_hang_h_J1 a0 a1 a2 a4 v6 v7 v8 x9 z = some r) ?_ ?_
  ·
   refine by_bool (x1.2) (fun hc72 => ?_) (fun hc72 => ?_)
   ·
    replace h := bif_t h hc72
    obtain ⟨x73, hx73, h⟩ := bno_e h
    obtain ⟨x74, hx74, h⟩ := bno_e h
    obtain ⟨x75, hx75, h⟩ := bnd_e h
    refine iwp_drw rfl [⟨[6], [], [(35, .bool x1.2)], []⟩,
     ⟨[35], [], [(36, .bool x1.2)], []⟩,
     ⟨[2, 36], [0], [(37, .agg (w18 a0 a1 (.osl 1000 E_ptree_Node.sz a3.length) (.osl 1001 (eInt .i64).sz a4.length)))], []⟩,
     ⟨[3, 36], [], [(38, .ref 1 2)], []⟩,
     ⟨[36, 38], [1], [(39, .int .i64 v6)], []⟩,
     ⟨[36, 37, 39], [3, 1000, 1001], [(40, .osl 3 (eInt .i64).sz x73.length)], [(1000, .blk 56 (D.flat (a3.map E_ptree_Node.d))), (1001, .blk 3 (D.flat (a4.map (eInt .i64).d))), (3, .blk 3 (D.flat (x73.map (eInt .i64).d))), (1000, .none), (1001, .none)]⟩,
     ⟨[3, 36], [], [(41, .ref 1 1)], []⟩,
     ⟨[36, 41], [1], [(42, .int .i64 a2.ID)], []⟩,
     ⟨[36, 40, 42], [3], [(43, .bool x74)], []⟩,
     ⟨[36, 43], [], [(44, .bool x75)], []⟩] rfl ?_ (by kernel_rfl) ?_
    ·refine .cons (lop rfl rfl fun S hA => (iop_move rfl rfl (lb rfl) (svaB hA rfl rfl))) ?_
     refine .cons (lop rfl rfl fun S hA => (iop_move rfl rfl (lb rfl) (svaB hA rfl rfl))) ?_
     refine .cons (lopk rfl rfl rfl rfl (fun S hA => grd1 hA rfl rfl) (by rw [hc72]; rfl) fun S hA => (iop_load_ra (cs := q6) rfl rfl (lb rfl) Try.underlying32 ag32 ti32 (by decide) (svaR hA rfl rfl) (agi hA rfl rfl) (nle rfl) rfl)) ?_
     refine .cons (lopk rfl rfl rfl rfl (fun S hA => grd1 hA rfl rfl) (by rw [hc72]; rfl) fun S hA => (iop_fieldAddr_ref rfl rfl (lb rfl) Try.underlying37 rfl ti3 (by decide) (svaR hA rfl rfl) (off' := 2) rfl)) ?_
     refine .cons (lopk rfl rfl rfl rfl (fun S hA => grd1 hA rfl rfl) (by rw [hc72]; rfl) fun S hA => (iop_load_rs (d := .int _ _) rfl rfl (lb rfl) Try.underlying3 ag3 ti3 (by decide) (svaR hA rfl rfl) (agi hA rfl rfl) (nle rfl) rfl)) ?_
     refine .cons (lopk rfl rfl rfl rfl (fun S hA => grd1 hA rfl rfl) (by rw [hc72]; rfl) fun S hA => (iop_callM (r' := .osl 3 (eInt .i64).sz x73.length) (U := [(1000, .blk 56 (D.flat (a3.map E_ptree_Node.d))), (1001, .blk 3 (D.flat (a4.map (eInt .i64).d))), (3, .blk 3 (D.flat (x73.map (eInt .i64).d))), (1000, .none), (1001, .none)]) 3 1 [1000, 1001] rfl rfl (lb rfl) cl52 (.cons (svaA q6 hA rfl rfl) (.cons (svaI hA rfl rfl) .nil)) rfl rfl rfl (List.forall_mem_cons.2 ⟨(agi hA rfl rfl), List.forall_mem_nil _⟩) ⟨by decide, rfl, List.forall_mem_cons.2 ⟨⟨rfl, rfl, (handL E_ptree_Node (agi hA rfl rfl)), (handLr E_ptree_Node)⟩, List.forall_mem_cons.2 ⟨⟨rfl, rfl, (handL (eInt .i64) (agi hA rfl rfl)), (handLr (eInt .i64))⟩, List.forall_mem_nil _⟩⟩⟩ (p_fold_State_path_h_v2 _ _ _ _ _ _ hx73) rfl rfl (List.forall_mem_cons.2 ⟨⟨rfl, (handLr E_ptree_Node)⟩, List.forall_mem_cons.2 ⟨⟨rfl, (handLr (eInt .i64))⟩, List.forall_mem_cons.2 ⟨⟨rfl, (handLr (eInt .i64))⟩, List.forall_mem_nil _⟩⟩⟩) (by simp only [List.map_cons, List.map_nil, Ent.ren, renL_flat, renL_ref]; rfl))) ?_
     refine .cons (lopk rfl rfl rfl rfl (fun S hA => grd1 hA rfl rfl) (by rw [hc72]; rfl) fun S hA => (iop_fieldAddr_ref rfl rfl (lb rfl) Try.underlying37 rfl ti3 (by decide) (svaR hA rfl rfl) (off' := 1) rfl)) ?_
     refine .cons (lopk rfl rfl rfl rfl (fun S hA => grd1 hA rfl rfl) (by rw [hc72]; rfl) fun S hA => (iop_load_rs (d := .int _ _) rfl rfl (lb rfl) Try.underlying3 ag3 ti3 (by decide) (svaR hA rfl rfl) (agi hA rfl rfl) (nle rfl) rfl)) ?_
     refine .cons (lopk rfl rfl rfl rfl (fun S hA => grd1 hA rfl rfl) (by rw [hc72]; rfl) fun S hA => (iop_callp (r := .bool x74) rfl rfl (lb rfl) cl54 (.cons (sv (d := .osl _ _ _) (agr hA rfl rfl)) (.cons (svaI hA rfl rfl) .nil)) (.cons (FDT (eInt .i64) (agi hA rfl rfl) rfl) (.all _)) rfl rfl (p_slices_Contains_int_int _ _ _ hx74))) ?_
     refine .cons (lop rfl rfl fun S hA => (iop_pickc rfl rfl (lb rfl) (svaB hA rfl rfl) (agr hA rfl rfl) rfl hx75)) ?_
     exact .nil
    refine iwp_cond (b := _) rfl (fun hc76 => ?_) (fun hc76 => ?_)
    ·
     replace h := bif_t h hc76
     obtain ⟨x77, hx77, h⟩ := bno_e h
     obtain ⟨x78, hx78, h⟩ := bno_e h
     obtain ⟨x79, hx79, h⟩ := bno_e h
     obtain ⟨x80, hx80, h⟩ := bno_e h
     obtain ⟨x81, hx81, h⟩ := bnd_e h
     refine iwp_draw rfl [⟨[2], [], [(45, .ref 0 2)], []⟩,
      ⟨[45], [0], [(46, .osl 1000 E_ptree_Node.sz a3.length)], []⟩,
      ⟨[5], [], [(47, .int .i64 x1.1)], []⟩,
      ⟨[2], [], [(48, .ref 0 2)], []⟩,
      ⟨[48], [0], [(49, .osl 1000 E_ptree_Node.sz a3.length)], []⟩,
      ⟨[7], [], [(50, .int .i64 x9.1)], []⟩,
      ⟨[49, 50], [], [(51, .ref 1000 (((x9.1 : Int).toNat) * E_ptree_Node.sz + 0))], []⟩,
      ⟨[51], [], [(52, .ref 1000 (((x9.1 : Int).toNat) * E_ptree_Node.sz + 1))], []⟩,
      ⟨[52], [1000], [(53, .int .i64 x78.Parent)], []⟩,
      ⟨[46, 47], [], [(54, .ref 1000 (((x1.1 : Int).toNat) * E_ptree_Node.sz + 0))], []⟩,
      ⟨[54], [], [(55, .ref 1000 (((x1.1 : Int).toNat) * E_ptree_Node.sz + 1))], []⟩,
      ⟨[53, 55], [1000], [], [(1000, .blk 56 (D.flat (x81.map E_ptree_Node.d)))]⟩] rfl ?_ (by kernel_rfl) ?_
     ·refine .cons (lop rfl rfl fun S hA => (iop_fieldAddr_ref rfl rfl (lb rfl) Try.underlying32 rfl ti30 (by decide) (svaR hA rfl rfl) (off' := 2) rfl)) ?_
      refine .cons (lop rfl rfl fun S hA => (iop_load_rs (d := .osl _ _ _) rfl rfl (lb rfl) Try.underlying30 ag30 ti30 (by decide) (svaR hA rfl rfl) (agi hA rfl rfl) (nle rfl) rfl)) ?_
      refine .cons (lop rfl rfl fun S hA => (iop_move rfl rfl (lb rfl) (svaI hA rfl rfl))) ?_
      refine .cons (lop rfl rfl fun S hA => (iop_fieldAddr_ref rfl rfl (lb rfl) Try.underlying32 rfl ti30 (by decide) (svaR hA rfl rfl) (off' := 2) rfl)) ?_
      refine .cons (lop rfl rfl fun S hA => (iop_load_rs (d := .osl _ _ _) rfl rfl (lb rfl) Try.underlying30 ag30 ti30 (by decide) (svaR hA rfl rfl) (agi hA rfl rfl) (nle rfl) rfl)) ?_
      refine .cons (lop rfl rfl fun S hA => (iop_move rfl rfl (lb rfl) (svaI hA rfl rfl))) ?_
      refine .cons (lop rfl rfl fun S hA => (iop_idxO E_ptree_Node.toEnc0 rfl rfl (lb rfl) Try.underlying30 ti56 (sv (d := .osl _ _ _) (agr hA rfl rfl)) rfl (svaI hA rfl rfl) hx77)) ?_
      refine .cons (lop rfl rfl fun S hA => (iop_field_E rfl rfl (lb rfl) Try.underlying56 rfl ti3 (by decide) (svaR hA rfl rfl) (k' := 1) rfl)) ?_
      refine .cons (lop rfl rfl fun S hA => (iop_loadEs E_ptree_Node.toEnc0 (d := .int _ _) rfl rfl (lb rfl) Try.underlying3 ag3 ti3 (by decide) (svaR hA rfl rfl) (agi hA rfl rfl) hx78 (nle rfl) rfl)) ?_
      refine .cons (lop rfl rfl fun S hA => (iop_idxO E_ptree_Node.toEnc0 rfl rfl (lb rfl) Try.underlying30 ti56 (sv (d := .osl _ _ _) (agr hA rfl rfl)) rfl (svaI hA rfl rfl) hx79)) ?_
      refine .cons (lop rfl rfl fun S hA => (iop_field_E rfl rfl (lb rfl) Try.underlying56 rfl ti3 (by decide) (svaR hA rfl rfl) (k' := 1) rfl)) ?_
      refine .cons (lop rfl rfl fun S hA => (iop_storeE E_ptree_Node.toEnc0 (a' := (⟨x80.ID, x78.Parent, x80.Weight, x80.Closed⟩ : T_ptree_Node)) rfl rfl ti3 (svaR hA rfl rfl) (agi hA rfl rfl) (svaI hA rfl rfl) rfl rfl rfl hx80 (nle rfl) rfl hx81)) ?_
      exact .nil
     refine thenQ_n ⟨x81, (fun i => i), ⟨(.sames rfl rfl), (.cons (.blk rfl (by rw [← (len_set hx81 rfl)]; rfl) rfl) (.cons (.blk rfl rfl rfl) (.cons (.blk rfl rfl rfl) (.cons (EntW.lst rfl) (.cons (EntW.lst rfl) .nil))))), nd_of [0, 1, 2, 1000, 1001] rfl (by decide), fun _ _ => rfl⟩, ?_⟩
     exact h
    ·
     replace h := bif_f h hc76
     refine iwp_skip ?_
     refine thenQ_n ⟨a3, (fun i => i), ⟨(.sames rfl rfl), (.cons (.blk rfl rfl rfl) (.cons (.blk rfl rfl rfl) (.cons (.blk rfl rfl rfl) (.cons (EntW.lst rfl) (.cons (EntW.lst rfl) .nil))))), nd_of [0, 1, 2, 1000, 1001] rfl (by decide), fun _ _ => rfl⟩, ?_⟩
     exact h
   ·
    replace h := bif_f h hc72
    obtain ⟨x82, hx82, h⟩ := bnd_e h
    refine iwp_drw rfl [⟨[6], [], [(35, .bool x1.2)], []⟩,
     ⟨[35], [], [(36, .bool x1.2)], []⟩,
     ⟨[36], [], [(37, .cnd (x1.2 == true) (.bool false))], []⟩,
     ⟨[36], [], [(38, .cnd (x1.2 == true) (.bool false))], []⟩,
     ⟨[36], [], [(39, .cnd (x1.2 == true) (.bool false))], []⟩,
     ⟨[36], [], [(40, .cnd (x1.2 == true) (.bool false))], []⟩,
     ⟨[36], [], [(41, .cnd (x1.2 == true) (.bool false))], []⟩,
     ⟨[36], [], [(42, .cnd (x1.2 == true) (.bool false))], []⟩,
     ⟨[36], [], [(43, .cnd (x1.2 == true) (.bool false))], []⟩,
     ⟨[36, 43], [], [(44, .bool x82)], []⟩] rfl ?_ (by kernel_rfl) ?_
    ·refine .cons (lop rfl rfl fun S hA => (iop_move rfl rfl (lb rfl) (svaB hA rfl rfl))) ?_
     refine .cons (lop rfl rfl fun S hA => (iop_move rfl rfl (lb rfl) (svaB hA rfl rfl))) ?_
     refine .cons (lopg rfl rfl rfl rfl (by decide) (fun S hA => grd1 hA rfl rfl) (fun S hA hb => absurd hb (by rw [hc72]; decide))) ?_
     refine .cons (lopg rfl rfl rfl rfl (by decide) (fun S hA => grd1 hA rfl rfl) (fun S hA hb => absurd hb (by rw [hc72]; decide))) ?_
     refine .cons (lopg rfl rfl rfl rfl (by decide) (fun S hA => grd1 hA rfl rfl) (fun S hA hb => absurd hb (by rw [hc72]; decide))) ?_
     refine .cons (lopg rfl rfl rfl rfl (by decide) (fun S hA => grd1 hA rfl rfl) (fun S hA hb => absurd hb (by rw [hc72]; decide))) ?_
     refine .cons (lopg rfl rfl rfl rfl (by decide) (fun S hA => grd1 hA rfl rfl) (fun S hA hb => absurd hb (by rw [hc72]; decide))) ?_
     refine .cons (lopg rfl rfl rfl rfl (by decide) (fun S hA => grd1 hA rfl rfl) (fun S hA hb => absurd hb (by rw [hc72]; decide))) ?_
     refine .cons (lopg rfl rfl rfl rfl (by decide) (fun S hA => grd1 hA rfl rfl) (fun S hA hb => absurd hb (by rw [hc72]; decide))) ?_
     refine .cons (lop rfl rfl fun S hA => (iop_andx rfl rfl (lb rfl) (svaB hA rfl rfl) (agr hA rfl rfl) rfl hx82)) ?_
     exact .nil
    refine iwp_cond_f rfl (and_ff hx82) ?_
    refine iwp_skip ?_
    refine thenQ_n ⟨a3, (fun i => i), ⟨(.sames rfl rfl), (.cons (.blk rfl rfl rfl) (.cons (.blk rfl rfl rfl) (.cons (.blk rfl rfl rfl) (.cons (EntW.lst rfl) (.cons (EntW.lst rfl) .nil))))), nd_of [0, 1, 2, 1000, 1001] rfl (by decide), fun _ _ => rfl⟩, ?_⟩
    exact h
  ·
   rintro v21 h
   unfold fold_State_hang_h_J1 at h
   refine iwp_seq ?_
   refine iwp_reg (ils_cons rfl (faR 2 rfl rfl rfl Try.underlying32 rfl ti30 (lb rfl) rfl rfl) <|
    ils_cons rfl (iop_load_rs (d := .osl _ _ _) rfl rfl (lb rfl) Try.underlying30 ag30 ti30 (by decide) (svR rfl) rfl (nle rfl) rfl) <|
    ils_cons rfl (iop_lenO rfl rfl (lb rfl) Try.underlying30 (sv (d := .osl _ _ _) rfl)) <|
    ils_cons rfl (iop_move rfl rfl (lb rfl) (sv (d := .int _ 0) rfl)) <|
    ils_end ?_)
   refine iwp_block ?_
   refine iwp_loopP (α := Nat × Int × (List T_ptree_Node)) (fun z => ⟨[(2, .ref 0 0), (3, .ref 1 0), (4, .ref 2 0), (7, .int .i64 x9.1), (58, .int .i64 (v21.length : Int)), (59, .int .i64 z.2.1)], [(0, .blk 32 (w18 a0 a1 (.osl 1000 E_ptree_Node.sz z.2.2.length) (.osl 1001 (eInt .i64).sz a4.length))), (1, .blk 37 (w15 v5 a2.ID v6 v7 v8)), (2, .blk 32 (w14 0 0 ([] : List T_ptree_Node) ([] : List Int))), (1000, .blk 56 (D.flat (z.2.2.map E_ptree_Node.d))), (1001, .blk 3 (D.flat (a4.map (eInt .i64).d)))]⟩) (fun z => fold_State_hang_h_L2 a0 a1 a2 a4 v6 v7 v8 x9 v21 z.1 z.2.1 z.2.2 = some r) (fun z => z.1) (fuel, 0, v21) (fun i => i) ⟨(.sames rfl rfl), (.cons (.blk rfl rfl rfl) (.cons (.blk rfl rfl rfl) (.cons (.blk rfl rfl rfl) (.cons (EntW.lst rfl) (.cons (EntW.lst rfl) .nil))))), nd_of [0, 1, 2, 1000, 1001] rfl (by decide), fun _ _ => rfl⟩ ?_ ?_
   ·exact h
   ·
    rintro ⟨n2, v36, v37⟩ h
    cases n2 with
    | zero => exact absurd h (by unfold fold_State_hang_h_L2; exact nofun)
    | succ n2 =>
     unfold fold_State_hang_h_L2 at h
     obtain ⟨x52, hx52, h⟩ := bnd_e h
     refine iwp_reg (ils_cons rfl (iop_cmpx rfl rfl (lb rfl) (svI rfl) (svI rfl) rfl hx52) <|
      ils_end ?_)
     refine iwp_seq ?_
     refine iwp_cond (b := _) rfl (fun hc53 => ?_) (fun hc53 => ?_)
     ·
      replace h := bif_t h hc53
      refine iwp_skip ?_
      refine thenQ_n ?_
      refine iwp_seq ?_
      refine iwp_block ?_
      refine iwp_reg (ils_cons rfl (mvI rfl rfl rfl rfl) <|
       ils_cons rfl (asI rfl rfl rfl rfl) <|
       ils_end ?_)
      obtain ⟨x54, hx54, h⟩ := bno_e h
      refine iwp_reg (ils_cons rfl (faR 2 rfl rfl rfl Try.underlying32 rfl ti30 (lb rfl) rfl rfl) <|
       ils_cons rfl (iop_load_rs (d := .osl _ _ _) rfl rfl (lb rfl) Try.underlying30 ag30 ti30 (by decide) (svR rfl) rfl (nle rfl) rfl) <|
       ils_cons rfl (mvI rfl rfl rfl rfl) <|
       ils_cons rfl (iop_idxO E_ptree_Node.toEnc0 rfl rfl (lb rfl) Try.underlying30 ti56 (sv (d := .osl _ _ _) rfl) rfl (svI rfl) hx54) <|
       ils_cons rfl (iop_assign rfl rfl (lb rfl) (svR rfl)) <|
       ils_end ?_)
      obtain ⟨x55, hx55, h⟩ := bno_e h
      obtain ⟨x56, hx56, h⟩ := bnd_e h
      obtain ⟨x57, hx57, h⟩ := bnd_e h
      obtain ⟨x58, hx58, h⟩ := bno_e h
      obtain ⟨x59, hx59, h⟩ := bnd_e h
      obtain ⟨x60, hx60, h⟩ := bnd_e h
      refine iwp_drw rfl [⟨[3], [], [(66, .ref 1 4)], []⟩,
       ⟨[66], [1], [(67, .bool v8)], []⟩,
       ⟨[67], [], [(68, .bool v8)], []⟩,
       ⟨[10, 68], [], [(69, .cnd (v8 == true) (.ref 1000 (((v36 : Int).toNat) * E_ptree_Node.sz + 0)))], []⟩,
       ⟨[68, 69], [], [(70, .cnd (v8 == true) (.ref 1000 (((v36 : Int).toNat) * E_ptree_Node.sz + 0)))], []⟩,
       ⟨[68, 70], [], [(71, .cnd (v8 == true) (.ref 1000 (((v36 : Int).toNat) * E_ptree_Node.sz + 1)))], []⟩,
       ⟨[68, 71], [1000], [(72, .cnd (v8 == true) (.int .i64 x55.Parent))], []⟩,
       ⟨[3, 68], [], [(73, .cnd (v8 == true) (.ref 1 2))], []⟩,
       ⟨[68, 73], [1], [(74, .cnd (v8 == true) (.int .i64 v6))], []⟩,
       ⟨[68, 72, 74], [], [(75, .cnd (v8 == true) (.bool x56))], []⟩,
       ⟨[68, 75], [], [(76, .bool x57)], []⟩,
       ⟨[76], [], [(77, .bool x57)], []⟩,
       ⟨[10, 77], [], [(78, .cnd (x57 == true) (.ref 1000 (((v36 : Int).toNat) * E_ptree_Node.sz + 0)))], []⟩,
       ⟨[77, 78], [], [(79, .cnd (x57 == true) (.ref 1000 (((v36 : Int).toNat) * E_ptree_Node.sz + 0)))], []⟩,
       ⟨[77, 79], [], [(80, .cnd (x57 == true) (.ref 1000 (((v36 : Int).toNat) * E_ptree_Node.sz + 0)))], []⟩,
       ⟨[77, 80], [1000], [(81, .cnd (x57 == true) (.int .i64 x58.ID))], []⟩,
       ⟨[3, 77], [], [(82, .cnd (x57 == true) (.ref 1 1))], []⟩,
       ⟨[77, 82], [1], [(83, .cnd (x57 == true) (.int .i64 a2.ID))], []⟩,
       ⟨[77, 81, 83], [], [(84, .cnd (x57 == true) (.bool x59))], []⟩,
       ⟨[77, 84], [], [(85, .bool x60)], []⟩] rfl ?_ (by kernel_rfl) ?_
      ·refine .cons (lop rfl rfl fun S hA => (iop_fieldAddr_ref rfl rfl (lb rfl) Try.underlying37 rfl ti4 (by decide) (svaR hA rfl rfl) (off' := 4) rfl)) ?_
       refine .cons (lop rfl rfl fun S hA => (iop_load_rs (d := .bool _) rfl rfl (lb rfl) Try.underlying4 ag4 ti4 (by decide) (svaR hA rfl rfl) (agi hA rfl rfl) (nle rfl) rfl)) ?_
       refine .cons (lop rfl rfl fun S hA => (iop_move rfl rfl (lb rfl) (svaB hA rfl rfl))) ?_
       refine .cons (lopg rfl rfl rfl rfl (by decide) (fun S hA => grd1 hA rfl rfl) (fun S hA hb => (iop_move rfl rfl (lb rfl) (svaR hA rfl rfl)))) ?_
       refine .cons (lopg rfl rfl rfl rfl (by decide) (fun S hA => grd1 hA rfl rfl) (fun S hA hb => (iop_nilCheck_ref rfl rfl (lb rfl) (svc (d := .ref _ _) (agr hA rfl rfl) hb)))) ?_
       refine .cons (lopg rfl rfl rfl rfl (by decide) (fun S hA => grd1 hA rfl rfl) (fun S hA hb => (iop_field_E rfl rfl (lb rfl) Try.underlying56 rfl ti3 (by decide) (svc (d := .ref _ _) (agr hA rfl rfl) hb) (k' := 1) rfl))) ?_
       refine .cons (lopg rfl rfl rfl rfl (by decide) (fun S hA => grd1 hA rfl rfl) (fun S hA hb => (iop_loadEs E_ptree_Node.toEnc0 (d := .int _ _) rfl rfl (lb rfl) Try.underlying3 ag3 ti3 (by decide) (svc (d := .ref _ _) (agr hA rfl rfl) hb) (agi hA rfl rfl) (gd_t hx55 hb) (nle rfl) rfl))) ?_
       refine .cons (lopg rfl rfl rfl rfl (by decide) (fun S hA => grd1 hA rfl rfl) (fun S hA hb => (iop_fieldAddr_ref rfl rfl (lb rfl) Try.underlying37 rfl ti3 (by decide) (svaR hA rfl rfl) (off' := 2) rfl))) ?_
       refine .cons (lopg rfl rfl rfl rfl (by decide) (fun S hA => grd1 hA rfl rfl) (fun S hA hb => (iop_load_rs (d := .int _ _) rfl rfl (lb rfl) Try.underlying3 ag3 ti3 (by decide) (svc (d := .ref _ _) (agr hA rfl rfl) hb) (agi hA rfl rfl) (nle rfl) rfl))) ?_
       refine .cons (lopg rfl rfl rfl rfl (by decide) (fun S hA => grd1 hA rfl rfl) (fun S hA hb => (iop_cmpx rfl rfl (lb rfl) (svc (d := .int _ _) (agr hA rfl rfl) hb) (svc (d := .int _ _) (agr hA rfl rfl) hb) rfl hx56))) ?_
       refine .cons (lop rfl rfl fun S hA => (iop_andx rfl rfl (lb rfl) (svaB hA rfl rfl) (agr hA rfl rfl) rfl hx57)) ?_
       refine .cons (lop rfl rfl fun S hA => (iop_move rfl rfl (lb rfl) (svaB hA rfl rfl))) ?_
       refine .cons (lopg rfl rfl rfl rfl (by decide) (fun S hA => grd1 hA rfl rfl) (fun S hA hb => (iop_move rfl rfl (lb rfl) (svaR hA rfl rfl)))) ?_
       refine .cons (lopg rfl rfl rfl rfl (by decide) (fun S hA => grd1 hA rfl rfl) (fun S hA hb => (iop_nilCheck_ref rfl rfl (lb rfl) (svc (d := .ref _ _) (agr hA rfl rfl) hb)))) ?_
       refine .cons (lopg rfl rfl rfl rfl (by decide) (fun S hA => grd1 hA rfl rfl) (fun S hA hb => (iop_field_E rfl rfl (lb rfl) Try.underlying56 rfl ti3 (by decide) (svc (d := .ref _ _) (agr hA rfl rfl) hb) (k' := 0) rfl))) ?_
       refine .cons (lopg rfl rfl rfl rfl (by decide) (fun S hA => grd1 hA rfl rfl) (fun S hA hb => (iop_loadEs E_ptree_Node.toEnc0 (d := .int _ _) rfl rfl (lb rfl) Try.underlying3 ag3 ti3 (by decide) (svc (d := .ref _ _) (agr hA rfl rfl) hb) (agi hA rfl rfl) (gd_t hx58 hb) (nle rfl) rfl))) ?_
       refine .cons (lopg rfl rfl rfl rfl (by decide) (fun S hA => grd1 hA rfl rfl) (fun S hA hb => (iop_fieldAddr_ref rfl rfl (lb rfl) Try.underlying37 rfl ti3 (by decide) (svaR hA rfl rfl) (off' := 1) rfl))) ?_
       refine .cons (lopg rfl rfl rfl rfl (by decide) (fun S hA => grd1 hA rfl rfl) (fun S hA hb => (iop_load_rs (d := .int _ _) rfl rfl (lb rfl) Try.underlying3 ag3 ti3 (by decide) (svc (d := .ref _ _) (agr hA rfl rfl) hb) (agi hA rfl rfl) (nle rfl) rfl))) ?_
       refine .cons (lopg rfl rfl rfl rfl (by decide) (fun S hA => grd1 hA rfl rfl) (fun S hA hb => (iop_cmpx rfl rfl (lb rfl) (svc (d := .int _ _) (agr hA rfl rfl) hb) (svc (d := .int _ _) (agr hA rfl rfl) hb) rfl hx59))) ?_
       refine .cons (lop rfl rfl fun S hA => (iop_andx rfl rfl (lb rfl) (svaB hA rfl rfl) (agr hA rfl rfl) rfl hx60)) ?_
       exact .nil
      refine iwp_cond (b := _) rfl (fun hc61 => ?_) (fun hc61 => ?_)
      ·
       replace h := bif_t h hc61
       obtain ⟨x62, hx62, h⟩ := bno_e h
       obtain ⟨x63, hx63, h⟩ := bnd_e h
       refine iwp_region (ils_cons rfl (mvR rfl rfl rfl rfl) <|
        ils_cons rfl (faR 1 rfl rfl rfl Try.underlying37 rfl ti3 (lb rfl) rfl rfl) <|
        ils_cons rfl (iop_load_rs (d := .int _ _) rfl rfl (lb rfl) Try.underlying3 ag3 ti3 (by decide) (svR rfl) rfl (nle rfl) rfl) <|
        ils_cons rfl (iop_nilCheck_ref rfl rfl (lb rfl) (svR rfl)) <|
        ils_cons rfl (iop_field_E rfl rfl (lb rfl) Try.underlying56 rfl ti3 (by decide) (svR rfl) (k' := 1) rfl) <|
        ils_cons rfl (iop_storeE E_ptree_Node.toEnc0 (a' := (⟨x62.ID, a2.ID, x62.Weight, x62.Closed⟩ : T_ptree_Node)) rfl rfl ti3 (svR rfl) rfl (svI rfl) rfl rfl rfl hx62 (nle rfl) rfl hx63) <|
        ils_nil ?_)
       refine blockQ_n ?_
       refine thenQ_n ?_
       obtain ⟨x64, hx64, h⟩ := bnd_e h
       refine iwp_region (ils_cons rfl (iop_intx rfl rfl (lb rfl) (svI rfl) (sv (d := .int _ 1) rfl) rfl hx64) <|
        ils_cons rfl (mvI rfl rfl rfl rfl) <|
        ils_nil ?_)
       refine thenQ_n ⟨(n2, x64, x63), (fun i => i), ⟨(.sames rfl rfl), (.cons (.blk rfl (by rw [← (len_set hx63 rfl)]; rfl) rfl) (.cons (.blk rfl rfl rfl) (.cons (.blk rfl rfl rfl) (.cons (EntW.lst rfl) (.cons (EntW.lst rfl) .nil))))), nd_of [0, 1, 2, 1000, 1001] rfl (by decide), fun _ _ => rfl⟩, ?_, ?_⟩
       exact h
       exact Nat.lt_succ_self _
      ·
       replace h := bif_f h hc61
       refine iwp_skip ?_
       refine blockQ_n ?_
       refine thenQ_n ?_
       obtain ⟨x65, hx65, h⟩ := bnd_e h
       refine iwp_region (ils_cons rfl (iop_intx rfl rfl (lb rfl) (svI rfl) (sv (d := .int _ 1) rfl) rfl hx65) <|
        ils_cons rfl (mvI rfl rfl rfl rfl) <|
        ils_nil ?_)
       refine thenQ_n ⟨(n2, x65, v37), (fun i => i), ⟨(.sames rfl rfl), (.cons (.blk rfl rfl rfl) (.cons (.blk rfl rfl rfl) (.cons (.blk rfl rfl rfl) (.cons (EntW.lst rfl) (.cons (EntW.lst rfl) .nil))))), nd_of [0, 1, 2, 1000, 1001] rfl (by decide), fun _ _ => rfl⟩, ?_, ?_⟩
       exact h
       exact Nat.lt_succ_self _
     ·
      replace h := bif_f h hc53
      refine iwp_exit ?_
      refine thenQ_e ?_
      refine thenQ_e ?_
      refine blockQ_e ?_
      refine thenQ_n ?_
      obtain ⟨x66, hx66, h⟩ := bno_e h
      obtain ⟨x67, hx67, h⟩ := bno_e h
      obtain ⟨x68, hx68, h⟩ := bnd_e h
      obtain ⟨x69, hx69, h⟩ := bno_e h
      obtain ⟨x70, hx70, h⟩ := bno_e h
      obtain ⟨x71, hx71, h⟩ := bnd_e h
      refine iwp_drw rfl [⟨[2], [], [(92, .ref 0 2)], []⟩,
       ⟨[92], [0], [(93, .osl 1000 E_ptree_Node.sz v37.length)], []⟩,
       ⟨[7], [], [(94, .int .i64 x9.1)], []⟩,
       ⟨[2], [], [(95, .ref 0 2)], []⟩,
       ⟨[95], [0], [(96, .osl 1000 E_ptree_Node.sz v37.length)], []⟩,
       ⟨[7], [], [(97, .int .i64 x9.1)], []⟩,
       ⟨[3], [], [(98, .ref 1 2)], []⟩,
       ⟨[98], [1], [(99, .int .i64 v6)], []⟩,
       ⟨[3], [], [(100, .ref 1 3)], []⟩,
       ⟨[100], [1], [(101, .int .i64 v7)], []⟩,
       ⟨[93, 94], [], [(102, .ref 1000 (((x9.1 : Int).toNat) * E_ptree_Node.sz + 0))], []⟩,
       ⟨[102], [], [(103, .ref 1000 (((x9.1 : Int).toNat) * E_ptree_Node.sz + 1))], []⟩,
       ⟨[99, 103], [1000], [], [(1000, .blk 56 (D.flat (x68.map E_ptree_Node.d)))]⟩,
       ⟨[96, 97], [], [(104, .ref 1000 (((x9.1 : Int).toNat) * E_ptree_Node.sz + 0))], []⟩,
       ⟨[104], [], [(105, .ref 1000 (((x9.1 : Int).toNat) * E_ptree_Node.sz + 2))], []⟩,
       ⟨[101, 105], [1000], [], [(1000, .blk 56 (D.flat (x71.map E_ptree_Node.d)))]⟩] rfl ?_ (by kernel_rfl) ?_
      ·refine .cons (lop rfl rfl fun S hA => (iop_fieldAddr_ref rfl rfl (lb rfl) Try.underlying32 rfl ti30 (by decide) (svaR hA rfl rfl) (off' := 2) rfl)) ?_
       refine .cons (lop rfl rfl fun S hA => (iop_load_rs (d := .osl _ _ _) rfl rfl (lb rfl) Try.underlying30 ag30 ti30 (by decide) (svaR hA rfl rfl) (agi hA rfl rfl) (nle rfl) rfl)) ?_
       refine .cons (lop rfl rfl fun S hA => (iop_move rfl rfl (lb rfl) (svaI hA rfl rfl))) ?_
       refine .cons (lop rfl rfl fun S hA => (iop_fieldAddr_ref rfl rfl (lb rfl) Try.underlying32 rfl ti30 (by decide) (svaR hA rfl rfl) (off' := 2) rfl)) ?_
       refine .cons (lop rfl rfl fun S hA => (iop_load_rs (d := .osl _ _ _) rfl rfl (lb rfl) Try.underlying30 ag30 ti30 (by decide) (svaR hA rfl rfl) (agi hA rfl rfl) (nle rfl) rfl)) ?_
       refine .cons (lop rfl rfl fun S hA => (iop_move rfl rfl (lb rfl) (svaI hA rfl rfl))) ?_
       refine .cons (lop rfl rfl fun S hA => (iop_fieldAddr_ref rfl rfl (lb rfl) Try.underlying37 rfl ti3 (by decide) (svaR hA rfl rfl) (off' := 2) rfl)) ?_
       refine .cons (lop rfl rfl fun S hA => (iop_load_rs (d := .int _ _) rfl rfl (lb rfl) Try.underlying3 ag3 ti3 (by decide) (svaR hA rfl rfl) (agi hA rfl rfl) (nle rfl) rfl)) ?_
       refine .cons (lop rfl rfl fun S hA => (iop_fieldAddr_ref rfl rfl (lb rfl) Try.underlying37 rfl ti3 (by decide) (svaR hA rfl rfl) (off' := 3) rfl)) ?_
       refine .cons (lop rfl rfl fun S hA => (iop_load_rs (d := .int _ _) rfl rfl (lb rfl) Try.underlying3 ag3 ti3 (by decide) (svaR hA rfl rfl) (agi hA rfl rfl) (nle rfl) rfl)) ?_
       refine .cons (lop rfl rfl fun S hA => (iop_idxO E_ptree_Node.toEnc0 rfl rfl (lb rfl) Try.underlying30 ti56 (sv (d := .osl _ _ _) (agr hA rfl rfl)) rfl (svaI hA rfl rfl) hx66)) ?_
       refine .cons (lop rfl rfl fun S hA => (iop_field_E rfl rfl (lb rfl) Try.underlying56 rfl ti3 (by decide) (svaR hA rfl rfl) (k' := 1) rfl)) ?_
       refine .cons (lop rfl rfl fun S hA => (iop_storeE E_ptree_Node.toEnc0 (a' := (⟨x67.ID, v6, x67.Weight, x67.Closed⟩ : T_ptree_Node)) rfl rfl ti3 (svaR hA rfl rfl) (agi hA rfl rfl) (svaI hA rfl rfl) rfl rfl rfl hx67 (nle rfl) rfl hx68)) ?_
       refine .cons (lop rfl rfl fun S hA => (iop_idxO E_ptree_Node.toEnc0 rfl rfl (lb rfl) Try.underlying30 ti56 (sv (d := .osl _ _ _) (agr hA rfl rfl)) (len_set hx68 rfl) (svaI hA rfl rfl) hx69)) ?_
       refine .cons (lop rfl rfl fun S hA => (iop_field_E rfl rfl (lb rfl) Try.underlying56 rfl ti3 (by decide) (svaR hA rfl rfl) (k' := 2) rfl)) ?_
       refine .cons (lop rfl rfl fun S hA => (iop_storeE E_ptree_Node.toEnc0 (a' := (⟨x70.ID, x70.Parent, v7, x70.Closed⟩ : T_ptree_Node)) rfl rfl ti3 (svaR hA rfl rfl) (agi hA rfl rfl) (svaI hA rfl rfl) rfl rfl rfl hx70 (nle rfl) rfl hx71)) ?_
       exact .nil
      refine iwp_reg (ils_cons rfl (lra q6 la32 rfl rfl rfl rfl rfl (nle rfl) rfl) <|
       ils_cons rfl (stA q6 q6 ti32 rfl rfl rfl rfl rfl rfl rfl rfl (nle rfl) rfl) <|
       ils_end ?_)
      refine iwp_ret ?_
      obtain rfl := Option.some.inj h
      refine ⟨.inr rfl, (fun i => if i = 0 then 1000 else if i = 1 then 1001 else i), ⟨.nil, (.cons (EntW.lst rfl) (.cons (EntW.lst rfl) .nil)), nd_of [1000, 1001] rfl (by decide), (fun i hi => by first | rfl | (show (if _ then _ else _) = _; (repeat' split) <;> omega))⟩, (.cons (rva la32 rfl rfl (nle rfl) (by rw [← (len_set hx71 (len_set hx68 rfl))]; rfl)) .nil), rfl⟩

set_option maxRecDepth 8000 in
set_option maxHeartbeats 4000000 in
theorem p_slices_Delete_ptree_Node_ptree_Node_h (a0 : Int) (a1 : Int) (a2 : List T_ptree_Node) (r : List T_ptree_Node) (h : slices_Delete_ptree_Node_ptree_Node_h a0 a1 a2 = some r) : FnH Try.prog 65 [.osl 1000 E_ptree_Node.sz a2.length, .int .i64 a0, .int .i64 a1] [(1000, .blk 56 (D.flat (a2.map E_ptree_Node.d)))] (.osl 0 E_ptree_Node.sz r.length) [(0, .blk 56 (D.flat (r.map E_ptree_Node.d)))] := by
 replace h : delS a2 a0 a1 = some r := h
 obtain ⟨i, j, rfl, rfl, hij, hj, hr⟩ := delS_e h
 have hX := E_ptree_Node.toEnc0.flat_len a2
 refine fnh_of_iwp (rs := [.osl 0 E_ptree_Node.sz r.length]) Try.func65 rfl Try.ntmps65 (nle rfl) fun O hO => ?_
 show IWP _ _ _ _ ⟨[(0, .osl 1000 E_ptree_Node.sz a2.length), (1, .int .i64 (i : Int)), (2, .int .i64 (j : Int))], [(1000, .blk 56 (D.flat (a2.map E_ptree_Node.d)))]⟩ _
 refine iwp_open 0 (id := 1000) (sz := E_ptree_Node.sz) (n := a2.length) rfl rfl hX (fun hn => ?_) (fun c hc hcm => ?_)
 ·obtain rfl := List.length_eq_zero_iff.1 hn
  obtain rfl : j = 0 := by simpa using hj
  obtain rfl : i = 0 := by omega
  refine iwp_reg (ils_cons rfl (iop_assign rfl rfl (lb rfl) (sv (d := .nils) rfl)) <| ils_end ?_)
  refine iwp_reg (ils_cons rfl (iop_move rfl rfl (lb rfl) (sv (d := .nils) rfl)) <| ils_cons rfl (mvI rfl rfl rfl rfl) <| ils_cons rfl (mvI rfl rfl rfl rfl) <| ils_cons rfl (iop_move rfl rfl (lb rfl) (sv (d := .nils) rfl)) <|
   ils_cons rfl (iop_lenT E_ptree_Node (l := []) (b := false) rfl rfl (lb rfl) Try.underlying30 (svn rfl)) <|
   ils_cons rfl (iop_slice_nils3 rfl rfl (lb rfl) Try.underlying30 ti56 (sv (d := .nils) rfl) (svI rfl) (svI rfl) (svI rfl)) <| ils_end ?_)
  refine iwp_seq ?_
  refine iwp_reg (ils_cons rfl (mvI rfl rfl rfl rfl) <| ils_cons rfl (mvI rfl rfl rfl rfl) <| ils_cons rfl (iop_cmpx rfl rfl (lb rfl) (svI rfl) (svI rfl) rfl rfl) <| ils_end ?_)
  refine iwp_cond_t rfl rfl ?_
  have hr' : [] = r := by simpa using hr
  subst hr'
  refine iwp_reg (ils_cons rfl (iop_move rfl rfl (lb rfl) (sv (d := .nils) rfl)) <| ils_cons rfl (iop_assign rfl rfl (lb rfl) (sv (d := .nils) rfl)) <| ils_end ?_)
  refine iwp_ret ?_
  refine thenQ_r ?_
  refine ⟨.inr rfl, (fun i => if i = 0 then 50 else i), ⟨.nil, (.cons (.nilb rfl) .nil), nd_of [50] rfl (by decide), (fun i hi => by first | rfl | (show (if _ then _ else _) = _; (repeat' split) <;> omega))⟩, (.cons (svno rfl) .nil), rfl⟩
 ·refine iwp_reg (ils_cons rfl (iop_assign rfl rfl (lb rfl) (sv (d := .nils) rfl)) <| ils_end ?_)
  refine iwp_reg (ils_cons rfl (iop_move rfl rfl (lb rfl) (sv (d := .rsl _ _ _ _ _) rfl)) <| ils_cons rfl (mvI rfl rfl rfl rfl) <| ils_cons rfl (mvI rfl rfl rfl rfl) <| ils_cons rfl (iop_move rfl rfl (lb rfl) (sv (d := .rsl _ _ _ _ _) rfl)) <|
   ils_cons rfl (iop_len_rsl rfl rfl (lb rfl) Try.underlying30 (sv (d := .rsl _ _ _ _ _) rfl) rfl) <|
   ils_cons rfl (iop_slice_rsl (sz := E_ptree_Node.sz) (l := (i : Int)) (h := (j : Int)) (m := (a2.length : Int)) rfl rfl (lb rfl) Try.underlying30 ti56 (sv (d := .rsl _ _ _ _ _) rfl) ⟨_, (svI rfl)⟩ ⟨_, (svI rfl)⟩ ⟨_, (svI rfl)⟩ (by simp) (by omega) (by omega) (by omega) (by omega) rfl) <| ils_end ?_)
  refine iwp_seq ?_
  refine iwp_reg (ils_cons rfl (mvI rfl rfl rfl rfl) <| ils_cons rfl (mvI rfl rfl rfl rfl) <| ils_cons rfl (iop_cmpx rfl rfl (lb rfl) (svI rfl) (svI rfl) rfl rfl) <| ils_end ?_)
  refine iwp_cond (b := _) rfl (fun h1 => ?_) (fun h1 => ?_)
  ·have h2 := of_decide_eq_true h1
   obtain rfl : i = j := by omega
   have hr' : a2 = r := by simpa using hr
   subst hr'
   refine iwp_reg (ils_cons rfl (iop_move rfl rfl (lb rfl) (sv (d := .rsl _ _ _ _ _) rfl)) <| ils_cons rfl (iop_assign rfl rfl (lb rfl) (sv (d := .rsl _ _ _ _ _) rfl)) <| ils_end ?_)
   refine iwp_close 6 (id := 1000) rfl rfl hX ?_
   refine iwp_ret ?_
   refine thenQ_r ?_
   refine ⟨.inr rfl, (fun i => if i = 0 then 1000 else i), ⟨.nil, (.cons (EntW.lst rfl) .nil), nd_of [1000] rfl (by decide), (fun i hi => by first | rfl | (show (if _ then _ else _) = _; (repeat' split) <;> omega))⟩, (.cons (sv rfl) .nil), rfl⟩
  ·have h2 := of_decide_eq_false h1
   have hlt : i < j := by omega
   obtain ⟨J, hJ⟩ : ∃ J, J = List.replicate ((c - a2.length) * E_ptree_Node.sz) D.dead := ⟨_, rfl⟩
   have hXd : (D.flat ((a2.drop j).map E_ptree_Node.d)).length = (a2.length - j) * E_ptree_Node.sz := by rw [E_ptree_Node.toEnc0.flat_len, List.length_drop]
   have hXt : (D.flat ((a2.take i).map E_ptree_Node.d)).length = i * E_ptree_Node.sz := by rw [E_ptree_Node.toEnc0.flat_len, List.length_take, Nat.min_eq_left (by omega)]
   have hrl : r.length = i + (a2.length - j) := by rw [← hr, List.length_append, List.length_take, List.length_drop, Nat.min_eq_left (by omega)]
   have hR : D.flat (r.map E_ptree_Node.d) = D.flat ((a2.take i).map E_ptree_Node.d) ++ D.flat ((a2.drop j).map E_ptree_Node.d) := by rw [← hr, E_ptree_Node.toEnc0.flat_append]
   have hRl : (D.flat (r.map E_ptree_Node.d)).length = (i + (a2.length - j)) * E_ptree_Node.sz := by rw [E_ptree_Node.toEnc0.flat_len, hrl]
   have hfitj : j * E_ptree_Node.sz + (a2.length - j) * E_ptree_Node.sz = a2.length * E_ptree_Node.sz := by rw [← Nat.add_mul]; congr 1; omega
   have hfiti : (i + (a2.length - j)) * E_ptree_Node.sz ≤ a2.length * E_ptree_Node.sz := Nat.mul_le_mul_right _ (by omega)
   rw [← hJ]
   have hD0 : (D.flat (a2.map E_ptree_Node.d) ++ J).length = a2.length * E_ptree_Node.sz + J.length := by rw [List.length_append, hX]
   obtain ⟨es, hes⟩ : ∃ es, es = ((D.flat (a2.map E_ptree_Node.d) ++ J).drop (j * E_ptree_Node.sz)).take ((a2.length - j) * E_ptree_Node.sz) := ⟨_, rfl⟩
   have hes' : es = D.flat ((a2.drop j).map E_ptree_Node.d) := by
    rw [hes, List.drop_append_of_le_length (by rw [hX]; exact Nat.mul_le_mul_right _ hj), E_ptree_Node.toEnc0.flat_drop, List.take_append_of_le_length (by rw [hXd]; exact Nat.le_refl _), ← hXd, List.take_length]
   obtain ⟨Z, hZ⟩ : ∃ Z, splice (D.flat (a2.map E_ptree_Node.d) ++ J) (i * E_ptree_Node.sz) es = D.flat (r.map E_ptree_Node.d) ++ Z := by
    refine ⟨(D.flat ((a2.drop i).map E_ptree_Node.d) ++ J).drop es.length, ?_⟩
    rw [flat_split E_ptree_Node.toEnc0 a2 i, List.append_assoc, splice_pre hXt, hR, hes', List.append_assoc]
   have hZl : (D.flat (r.map E_ptree_Node.d) ++ Z).length = a2.length * E_ptree_Node.sz + J.length := by
    rw [← hZ, length_splice' (by rw [hD0, hes', hXd, ← Nat.add_mul]; omega), hD0]
   refine iwp_skip ?_
   refine thenQ_n ?_
   refine iwp_reg (ils_cons rfl (iop_move rfl rfl (lb rfl) (sv (d := .rsl _ _ _ _ _) rfl)) <| ils_cons rfl (iop_len_rsl rfl rfl (lb rfl) Try.underlying30 (sv (d := .rsl _ _ _ _ _) rfl) rfl) <| ils_cons rfl (asI rfl rfl rfl rfl) <| ils_end ?_)
   refine iwp_drw rfl [⟨[0], [], [(20, .rsl 1000 E_ptree_Node.sz 0 a2.length c)], []⟩, ⟨[1], [], [(21, .int .i64 (i : Int))], []⟩, ⟨[20, 21], [], [(22, .rsl 1000 E_ptree_Node.sz 0 i c)], []⟩, ⟨[0], [], [(23, .rsl 1000 E_ptree_Node.sz 0 a2.length c)], []⟩, ⟨[2], [], [(24, .int .i64 (j : Int))], []⟩,
    ⟨[23, 24], [], [(25, .rsl 1000 E_ptree_Node.sz (j * E_ptree_Node.sz) (a2.length - j) (c - j))], []⟩, ⟨[22, 25], [1000], [(26, .rsl 1000 E_ptree_Node.sz 0 (i + (a2.length - j)) c)], [(1000, .blk 56 (D.flat (r.map E_ptree_Node.d) ++ Z))]⟩, ⟨[26], [], [(0, .rsl 1000 E_ptree_Node.sz 0 (i + (a2.length - j)) c)], []⟩] rfl ?_ (by kernel_rfl) ?_
   ·refine .cons (lop rfl rfl fun S hA => (iop_move rfl rfl (lb rfl) (sv (d := .rsl _ _ _ _ _) (agr hA rfl rfl)))) ?_
    refine .cons (lop rfl rfl fun S hA => (iop_move rfl rfl (lb rfl) (svaI hA rfl rfl))) ?_
    refine .cons (lop rfl rfl fun S hA => (iop_slice_rsl (sz := E_ptree_Node.sz) (l := 0) (h := (i : Int)) (m := (c : Int)) (d := .rsl 1000 E_ptree_Node.sz 0 i c) rfl rfl (lb rfl) Try.underlying30 ti56 (sv (d := .rsl _ _ _ _ _) (agr hA rfl rfl)) rfl ⟨_, (svaI hA rfl rfl)⟩ rfl (by simp) (by omega) (by omega) (by omega) (by omega) (by simp only [Int.toNat_natCast, Int.toNat_zero, Nat.zero_mul, Nat.zero_add, Nat.sub_zero]))) ?_
    refine .cons (lop rfl rfl fun S hA => (iop_move rfl rfl (lb rfl) (sv (d := .rsl _ _ _ _ _) (agr hA rfl rfl)))) ?_
    refine .cons (lop rfl rfl fun S hA => (iop_move rfl rfl (lb rfl) (svaI hA rfl rfl))) ?_
    refine .cons (lop rfl rfl fun S hA => (iop_slice_rsl (sz := E_ptree_Node.sz) (l := (j : Int)) (h := (a2.length : Int)) (m := (c : Int)) (d := .rsl 1000 E_ptree_Node.sz (j * E_ptree_Node.sz) (a2.length - j) (c - j)) rfl rfl (lb rfl) Try.underlying30 ti56 (sv (d := .rsl _ _ _ _ _) (agr hA rfl rfl)) ⟨_, (svaI hA rfl rfl)⟩ rfl rfl (by simp) (by omega) (by omega) (by omega) (by omega) (by simp only [Int.toNat_natCast, Nat.zero_add]))) ?_
    refine .cons (lop rfl rfl fun S hA => (iop_app_room (sz := E_ptree_Node.sz) (m := a2.length - j) (es := es) (ds' := D.flat (r.map E_ptree_Node.d) ++ Z) (d := .rsl 1000 E_ptree_Node.sz 0 (i + (a2.length - j)) c) rfl rfl (lb rfl) Try.underlying30 ti56 (sv (d := .rsl _ _ _ _ _) (agr hA rfl rfl)) (agi hA rfl rfl) (hes ▸ src_rsl (sv (d := .rsl _ _ _ _ _) (agr hA rfl rfl)) (agi hA rfl rfl) (by rw [hD0, hfitj]; exact Nat.le_add_right _ _)) (by rw [hes', hXd]) (by rw [hes']; exact E_ptree_Node.toEnc0.one _) (by omega) (by rw [hD0]; exact Nat.le_trans hfiti (Nat.le_add_right _ _)) hZ rfl)) ?_
    refine .cons (lop rfl rfl fun S hA => (iop_assign rfl rfl (lb rfl) (sv (d := .rsl _ _ _ _ _) (agr hA rfl rfl)))) ?_
    exact .nil
   ·refine iwp_reg (ils_cons rfl (iop_move rfl rfl (lb rfl) (sv (d := .rsl _ _ _ _ _) rfl)) <| ils_cons rfl (iop_move rfl rfl (lb rfl) (sv (d := .rsl _ _ _ _ _) rfl)) <| ils_cons rfl (iop_len_rsl rfl rfl (lb rfl) Try.underlying30 (sv (d := .rsl _ _ _ _ _) rfl) rfl) <| ils_cons rfl (mvI rfl rfl rfl rfl) <|
     ils_cons rfl (iop_slice_rsl (sz := E_ptree_Node.sz) (l := ((i + (a2.length - j) : Nat) : Int)) (h := (a2.length : Int)) (m := (c : Int)) (d := .rsl 1000 E_ptree_Node.sz ((i + (a2.length - j)) * E_ptree_Node.sz) (a2.length - (i + (a2.length - j))) (c - (i + (a2.length - j)))) rfl rfl (lb rfl) Try.underlying30 ti56 (sv (d := .rsl _ _ _ _ _) rfl) ⟨_, (svI rfl)⟩ ⟨_, (svI rfl)⟩ rfl (by simp) (by omega) (by omega) (by omega) (by omega) (by simp only [Int.toNat_natCast, Nat.zero_add])) <|
     ils_cons rfl (iop_clear_rsl (sz := E_ptree_Node.sz) rfl rfl Try.underlying30 ti56 rfl rfl (sv (d := .rsl _ _ _ _ _) rfl) rfl (by rw [hZl, ← Nat.add_mul, show i + (a2.length - j) + (a2.length - (i + (a2.length - j))) = a2.length by omega]; exact Nat.le_add_right _ _) (splice_pre hRl)) <| ils_end ?_)
    refine iwp_reg (ils_cons rfl (iop_move rfl rfl (lb rfl) (sv (d := .rsl _ _ _ _ _) rfl)) <| ils_cons rfl (iop_assign rfl rfl (lb rfl) (sv (d := .rsl _ _ _ _ _) rfl)) <| ils_end ?_)
    refine iwp_close 6 (id := 1000) rfl rfl hRl ?_
    refine iwp_ret ?_
    refine ⟨.inr rfl, (fun i => if i = 0 then 1000 else i), ⟨.nil, (.cons (EntW.lst rfl) .nil), nd_of [1000] rfl (by decide), (fun i hi => by first | rfl | (show (if _ then _ else _) = _; (repeat' split) <;> omega))⟩, (.cons (sv (congrArg (D.osl _ _) hrl.symm)) .nil), rfl⟩

theorem p_fold_State_sum (a0 : T_fold_State) (a1 : Int) (r : Int) (h : fold_State_sum a0 a1 = some r) : PureAt Try.prog 58 [.agg (v0 a0), .int .i64 a1] (.int .i64 r) := by
 refine pure_of_iwp (rs := [.int .i64 r]) Try.func58 rfl Try.ntmps58 (nle rfl) rfl fun O hO => ?_
 show IWP _ _ _ _ ⟨[(0, .agg (v0 a0)), (1, .int .i64 a1)], []⟩ _
 unfold fold_State_sum at h
 refine iwp_reg (ils_cons rfl (iop_box' (cs := q5) 0 rfl rfl (lb rfl) rfl (svA q5 rfl) rfl rfl) <|
  ils_cons rfl (iop_assign rfl rfl (lb rfl) (sv (d := .int _ 0) rfl)) <|
  ils_end ?_)
 refine iwp_reg (ils_cons rfl (iop_assign rfl rfl (lb rfl) (sv (d := .int _ 0) rfl)) <|
  ils_end ?_)
 refine iwp_seq ?_
 refine iwp_reg (ils_cons rfl (faR 2 rfl rfl rfl Try.underlying32 rfl ti30 (lb rfl) rfl rfl) <|
  ils_cons rfl (lrL la30 rfl rfl rfl rfl rfl (nle rfl) rfl) <|
  ils_cons rfl (iop_lenT E_ptree_Node (l := a0.Nodes) rfl rfl (lb rfl) Try.underlying30 (svL rfl)) <|
  ils_cons rfl (iop_move rfl rfl (lb rfl) (sv (d := .int _ 0) rfl)) <|
  ils_end ?_)
 refine iwp_block ?_
 refine iwp_loopP (α := Nat × Int × Int) (fun z => ⟨[(1, .int .i64 a1), (5, .int .i64 z.2.1), (9, .slice false (a0.Nodes.map E_ptree_Node.d)), (10, .int .i64 (a0.Nodes.length : Int)), (11, .int .i64 z.2.2)], []⟩) (fun z => fold_State_sum_L0 a0 a1 z.1 z.2.1 z.2.2 = some r) (fun z => z.1) (fuel, 0, 0) (fun i => i) ⟨(.sames rfl rfl), .nil, nd_of [] rfl (by decide), fun _ _ => rfl⟩ ?_ ?_
 ·exact h
 ·
  rintro ⟨n0, v9, v10⟩ h
  cases n0 with
  | zero => exact absurd h (by unfold fold_State_sum_L0; exact nofun)
  | succ n0 =>
   unfold fold_State_sum_L0 at h
   obtain ⟨x19, hx19, h⟩ := bnd_e h
   refine iwp_reg (ils_cons rfl (iop_cmpx rfl rfl (lb rfl) (svI rfl) (svI rfl) rfl hx19) <|
    ils_end ?_)
   refine iwp_seq ?_
   refine iwp_cond (b := _) rfl (fun hc20 => ?_) (fun hc20 => ?_)
   ·
    replace h := bif_t h hc20
    refine iwp_skip ?_
    refine thenQ_n ?_
    refine iwp_seq ?_
    refine iwp_block ?_
    obtain ⟨x21, hx21, h⟩ := bno_e h
    refine iwp_reg (ils_cons rfl (iop_idxT E_ptree_Node (cs := q8) rfl rfl (lb rfl) Try.underlying30 ti56 (svL rfl) (svI rfl) hx21 rfl rfl) <|
     ils_cons rfl (iop_load_fa (cs := q8) rfl rfl (lb rfl) Try.underlying56 ag56 ti56 (by decide) (sv (d := .fptr q8) rfl) (nle rfl) rfl) <|
     ils_cons rfl (iop_allocS (cs := q8) (cs' := (w16 0 0 0 false)) 0 rfl rfl (lb rfl) rfl ti56 rfl rfl (.all _)) <|
     ils_cons rfl (stA q8 q8 ti56 rfl rfl rfl rfl rfl rfl rfl rfl (nle rfl) rfl) <|
     ils_end ?_)
    obtain ⟨x22, hx22, h⟩ := bnd_e h
    refine iwp_reg (ils_cons rfl (faR 1 rfl rfl rfl Try.underlying56 rfl ti3 (lb rfl) rfl rfl) <|
     ils_cons rfl (iop_load_rs (d := .int _ _) rfl rfl (lb rfl) Try.underlying3 ag3 ti3 (by decide) (svR rfl) rfl (nle rfl) rfl) <|
     ils_cons rfl (mvI rfl rfl rfl rfl) <|
     ils_cons rfl (iop_cmpx rfl rfl (lb rfl) (svI rfl) (svI rfl) rfl hx22) <|
     ils_end ?_)
    refine iwp_cond (b := _) rfl (fun hc23 => ?_) (fun hc23 => ?_)
    ·
     replace h := bif_t h hc23
     obtain ⟨x24, hx24, h⟩ := bnd_e h
     refine iwp_region (ils_cons rfl (mvI rfl rfl rfl rfl) <|
      ils_cons rfl (faR 2 rfl rfl rfl Try.underlying56 rfl ti3 (lb rfl) rfl rfl) <|
      ils_cons rfl (iop_load_rs (d := .int _ _) rfl rfl (lb rfl) Try.underlying3 ag3 ti3 (by decide) (svR rfl) rfl (nle rfl) rfl) <|
      ils_cons rfl (iop_intx rfl rfl (lb rfl) (svI rfl) (svI rfl) rfl hx24) <|
      ils_cons rfl (asI rfl rfl rfl rfl) <|
      ils_nil ?_)
     refine blockQ_n ?_
     refine thenQ_n ?_
     obtain ⟨x25, hx25, h⟩ := bnd_e h
     refine iwp_region (ils_cons rfl (iop_intx rfl rfl (lb rfl) (svI rfl) (sv (d := .int _ 1) rfl) rfl hx25) <|
      ils_cons rfl (mvI rfl rfl rfl rfl) <|
      ils_nil ?_)
     refine thenQ_n ⟨(n0, x24, x25), (fun i => i), ⟨(.sames rfl rfl), .nil, nd_of [] rfl (by decide), fun _ _ => rfl⟩, ?_, ?_⟩
     exact h
     exact Nat.lt_succ_self _
    ·
     replace h := bif_f h hc23
     refine iwp_skip ?_
     refine blockQ_n ?_
     refine thenQ_n ?_
     obtain ⟨x26, hx26, h⟩ := bnd_e h
     refine iwp_region (ils_cons rfl (iop_intx rfl rfl (lb rfl) (svI rfl) (sv (d := .int _ 1) rfl) rfl hx26) <|
      ils_cons rfl (mvI rfl rfl rfl rfl) <|
      ils_nil ?_)
     refine thenQ_n ⟨(n0, v9, x26), (fun i => i), ⟨(.sames rfl rfl), .nil, nd_of [] rfl (by decide), fun _ _ => rfl⟩, ?_, ?_⟩
     exact h
     exact Nat.lt_succ_self _
   ·
    replace h := bif_f h hc20
    refine iwp_exit ?_
    refine thenQ_e ?_
    refine thenQ_e ?_
    refine blockQ_e ?_
    refine thenQ_n ?_
    refine iwp_reg (ils_cons rfl (mvI rfl rfl rfl rfl) <|
     ils_cons rfl (asI rfl rfl rfl rfl) <|
     ils_end ?_)
    refine iwp_ret ?_
    obtain rfl := Option.some.inj h
    refine ⟨.inr rfl, (.cons (sv rfl) .nil)⟩

theorem p_fold_State_off_1 (a0 : Int) (a1 : Int) (r : Bool) (h : fold_State_off_1 a0 a1 = some r) : PureAt Try.prog 67 [.int .i64 a0, .fptr [.int .i64 a1]] (.bool r) := by
 refine pure_of_iwp (rs := [.bool r]) Try.func67 rfl Try.ntmps67 (nle rfl) rfl fun O hO => ?_
 show IWP _ _ _ _ ⟨[(0, .int .i64 a0), (1, .fptr [.int .i64 a1])], []⟩ _
 unfold fold_State_off_1 at h
 refine iwp_reg (ils_cons rfl (iop_assign rfl rfl (lb rfl) (sv (d := .bool false) rfl)) <|
  ils_end ?_)
 obtain ⟨x1, hx1, h⟩ := bnd_e h
 refine iwp_reg (ils_cons rfl (mvI rfl rfl rfl rfl) <|
  ils_cons rfl (iop_load_fs rfl rfl (lb rfl) Try.underlying3 ag3 ti3 (by decide) (sv (d := .fptr [.int _ _]) rfl) (nle rfl)) <|
  ils_cons rfl (iop_cmpx rfl rfl (lb rfl) (svI rfl) (svI rfl) rfl hx1) <|
  ils_cons rfl (asB rfl rfl rfl rfl) <|
  ils_end ?_)
 refine iwp_ret ?_
 obtain rfl := Option.some.inj h
 refine ⟨.inr rfl, (.cons (sv rfl) .nil)⟩

theorem p_slices_IndexFunc_int_int_off_1 (a0 : (List Int)) (a1 : Int) (r : Int) (h : slices_IndexFunc_int_int_off_1 a0 a1 = some r) : PureAt Try.prog 78 [.slice false (a0.map (eInt .i64).d), .fn 67 [.fptr [.int .i64 a1]]] (.int .i64 r) := by
 refine pure_of_iwp (rs := [.int .i64 r]) Try.func78 rfl Try.ntmps78 (nle rfl) rfl fun O hO => ?_
 show IWP _ _ _ _ ⟨[(0, .slice false (a0.map (eInt .i64).d)), (1, .fn 67 [.fptr [.int .i64 a1]])], []⟩ _
 unfold slices_IndexFunc_int_int_off_1 at h
 refine iwp_reg (ils_cons rfl (iop_assign rfl rfl (lb rfl) (sv (d := .int _ 0) rfl)) <|
  ils_end ?_)
 refine iwp_seq ?_
 refine iwp_reg (ils_cons rfl (mvL rfl rfl rfl rfl) <|
  ils_cons rfl (iop_lenT (eInt .i64) (l := a0) rfl rfl (lb rfl) Try.underlying23 (svL rfl)) <|
  ils_cons rfl (iop_move rfl rfl (lb rfl) (sv (d := .int _ 0) rfl)) <|
  ils_end ?_)
 refine iwp_block ?_
 refine iwp_loopP (α := Nat × Int) (fun z => ⟨[(0, .slice false (a0.map (eInt .i64).d)), (1, .fn 67 [.fptr [.int .i64 a1]]), (7, .int .i64 (a0.length : Int)), (8, .int .i64 z.2)], []⟩) (fun z => slices_IndexFunc_int_int_off_1_L0 a0 a1 z.1 z.2 = some r) (fun z => z.1) (fuel, 0) (fun i => i) ⟨(.sames rfl rfl), .nil, nd_of [] rfl (by decide), fun _ _ => rfl⟩ ?_ ?_
 ·exact h
 ·
  rintro ⟨n0, v7⟩ h
  cases n0 with
  | zero => exact absurd h (by unfold slices_IndexFunc_int_int_off_1_L0; exact nofun)
  | succ n0 =>
   unfold slices_IndexFunc_int_int_off_1_L0 at h
   obtain ⟨x14, hx14, h⟩ := bnd_e h
   refine iwp_reg (ils_cons rfl (iop_cmpx rfl rfl (lb rfl) (svI rfl) (svI rfl) rfl hx14) <|
    ils_end ?_)
   refine iwp_seq ?_
   refine iwp_cond (b := _) rfl (fun hc15 => ?_) (fun hc15 => ?_)
   ·
    replace h := bif_t h hc15
    refine iwp_skip ?_
    refine thenQ_n ?_
    refine iwp_seq ?_
    refine iwp_block ?_
    refine iwp_reg (ils_cons rfl (mvI rfl rfl rfl rfl) <|
     ils_cons rfl (asI rfl rfl rfl rfl) <|
     ils_end ?_)
    obtain ⟨x16, hx16, h⟩ := bno_e h
    obtain ⟨x17, hx17, h⟩ := bno_e h
    refine iwp_reg (ils_cons rfl (iop_move rfl rfl (lb rfl) (sv (d := .fn 67 [.fptr [.int _ _]]) rfl)) <|
     ils_cons rfl (mvL rfl rfl rfl rfl) <|
     ils_cons rfl (mvI rfl rfl rfl rfl) <|
     ils_cons rfl (iop_idxT (eInt .i64) (cs := [.int _ _]) rfl rfl (lb rfl) Try.underlying23 ti3 (svL rfl) (svI rfl) hx16 rfl rfl) <|
     ils_cons rfl (iop_load_fs rfl rfl (lb rfl) Try.underlying3 ag3 ti3 (by decide) (sv (d := .fptr [.int _ _]) rfl) (nle rfl)) <|
     ils_cons rfl (iop_callv (r := .bool _) rfl rfl (lb rfl) cl67 (sv (d := .fn 67 [.fptr [.int _ _]]) rfl) (.cons (svI rfl) .nil) rfl (p_fold_State_off_1 _ _ _ hx17)) <|
     ils_end ?_)
    refine iwp_cond (b := _) rfl (fun hc18 => ?_) (fun hc18 => ?_)
    ·
     replace h := bif_t h hc18
     refine iwp_reg (ils_cons rfl (mvI rfl rfl rfl rfl) <|
      ils_cons rfl (asI rfl rfl rfl rfl) <|
      ils_end ?_)
     refine iwp_ret ?_
     refine blockQ_r ?_
     refine thenQ_r ?_
     refine thenQ_r ?_
     refine blockQ_r ?_
     refine thenQ_r ?_
     obtain rfl := Option.some.inj h
     refine ⟨.inr rfl, (.cons (sv rfl) .nil)⟩
    ·
     replace h := bif_f h hc18
     refine iwp_skip ?_
     refine blockQ_n ?_
     refine thenQ_n ?_
     obtain ⟨x19, hx19, h⟩ := bnd_e h
     refine iwp_region (ils_cons rfl (iop_intx rfl rfl (lb rfl) (svI rfl) (sv (d := .int _ 1) rfl) rfl hx19) <|
      ils_cons rfl (mvI rfl rfl rfl rfl) <|
      ils_nil ?_)
     refine thenQ_n ⟨(n0, x19), (fun i => i), ⟨(.sames rfl rfl), .nil, nd_of [] rfl (by decide), fun _ _ => rfl⟩, ?_, ?_⟩
     exact h
     exact Nat.lt_succ_self _
   ·
    replace h := bif_f h hc15
    refine iwp_exit ?_
    refine thenQ_e ?_
    refine thenQ_e ?_
    refine blockQ_e ?_
    refine thenQ_n ?_
    refine iwp_reg (ils_cons rfl (iop_assign rfl rfl (lb rfl) (sv (d := .int _ (-1)) rfl)) <|
     ils_end ?_)
    refine iwp_ret ?_
    obtain rfl := Option.some.inj h
    refine ⟨.inr rfl, (.cons (sv rfl) .nil)⟩

theorem p_slices_DeleteFunc_int_int_h_off_1 (a0 : (List Int)) (a1 : Int) (r : (List Int)) (h : slices_DeleteFunc_int_int_h_off_1 a0 a1 = some r) : FnH Try.prog 66 [.osl 1000 (eInt .i64).sz a0.length, .fn 67 [.ref 1001 0]] [(1000, .blk 3 (D.flat (a0.map (eInt .i64).d))), (1001, .blk 3 [.int .i64 a1])] (.osl 0 (eInt .i64).sz r.length) [(1001, .blk 3 [.int .i64 a1]), (0, .blk 3 (D.flat (r.map (eInt .i64).d)))] := by
 refine fnh_of_iwp (rs := [.osl 0 (eInt .i64).sz r.length]) Try.func66 rfl Try.ntmps66 (nle rfl) fun O hO => ?_
 show IWP _ _ _ _ ⟨[(0, .osl 1000 (eInt .i64).sz a0.length), (1, .fn 67 [.ref 1001 0])], [(1000, .blk 3 (D.flat (a0.map (eInt .i64).d))), (1001, .blk 3 [.int .i64 a1])]⟩ _
 unfold slices_DeleteFunc_int_int_h_off_1 at h
 refine iwp_reg (ils_cons rfl (iop_assign rfl rfl (lb rfl) (sv (d := .nils) rfl)) <|
  ils_end ?_)
 obtain ⟨x1, hx1, h⟩ := bno_e h
 refine iwp_reg (ils_cons rfl (iop_move rfl rfl (lb rfl) (sv (d := .osl _ _ _) rfl)) <|
  ils_cons rfl (iop_move rfl rfl (lb rfl) (sv (d := .fn 67 [.ref _ _]) rfl)) <|
  ils_cons rfl (iop_callp (r := .int .i64 x1) rfl rfl (lb rfl) cl78 (.cons (sv (d := .osl _ _ _) rfl) (.cons (sv (d := .fn 67 [.ref _ _]) rfl) .nil)) (.cons (FDT (eInt .i64) rfl rfl) (.cons (.fn (.cons (.ref rfl rfl (fdl_refl _) rfl) .nil)) .nil)) rfl rfl (p_slices_IndexFunc_int_int_off_1 _ _ _ hx1)) <|
  ils_cons rfl (asI rfl rfl rfl rfl) <|
  ils_end ?_)
 refine iwp_seq ?_
 obtain ⟨x2, hx2, h⟩ := bnd_e h
 refine iwp_reg (ils_cons rfl (mvI rfl rfl rfl rfl) <|
  ils_cons rfl (iop_cmpx rfl rfl (lb rfl) (svI rfl) (sv (d := .int _ (-1)) rfl) rfl hx2) <|
  ils_end ?_)
 refine iwp_cond (b := _) rfl (fun hc3 => ?_) (fun hc3 => ?_)
 ·
  replace h := bif_t h hc3
  refine iwp_reg (ils_cons rfl (iop_move rfl rfl (lb rfl) (sv (d := .osl _ _ _) rfl)) <|
   ils_cons rfl (iop_assign rfl rfl (lb rfl) (sv (d := .osl _ _ _) rfl)) <|
   ils_end ?_)
  refine iwp_ret ?_
  refine thenQ_r ?_
  obtain rfl := Option.some.inj h
  refine ⟨.inr rfl, (fun i => if i = 0 then 1000 else i), ⟨.nil, (.cons (.blk rfl rfl rfl) (.cons (EntW.lst rfl) .nil)), nd_of [1001, 1000] rfl (by decide), (fun i hi => by first | rfl | (show (if _ then _ else _) = _; (repeat' split) <;> omega))⟩, (.cons (sv rfl) .nil), rfl⟩
 ·
  replace h := bif_f h hc3
  refine iwp_skip ?_
  refine thenQ_n ?_
  refine iwp_seq ?_
  obtain ⟨x4, hx4, h⟩ := bnd_e h
  refine iwp_reg (ils_cons rfl (mvI rfl rfl rfl rfl) <|
   ils_cons rfl (iop_intx rfl rfl (lb rfl) (svI rfl) (sv (d := .int _ 1) rfl) rfl hx4) <|
   ils_cons rfl (asI rfl rfl rfl rfl) <|
   ils_end ?_)
  refine iwp_block ?_
  refine iwp_loopP (α := Nat × (List Int) × Int × Int) (fun z => ⟨[(0, .osl 1000 (eInt .i64).sz z.2.1.length), (1, .fn 67 [.ref 1001 0]), (5, .int .i64 z.2.2.1), (6, .int .i64 z.2.2.2)], [(1000, .blk 3 (D.flat (z.2.1.map (eInt .i64).d))), (1001, .blk 3 [.int .i64 a1])]⟩) (fun z => slices_DeleteFunc_int_int_h_off_1_L0 a1 z.1 z.2.1 z.2.2.1 z.2.2.2 = some r) (fun z => z.1) (fuel, a0, x1, x4) (fun i => i) ⟨(.sames rfl rfl), (.cons (EntW.lst rfl) (.cons (.blk rfl rfl rfl) .nil)), nd_of [1000, 1001] rfl (by decide), fun _ _ => rfl⟩ ?_ ?_
  ·exact h
  ·
   rintro ⟨n0, v17, v18, v19⟩ h
   cases n0 with
   | zero => exact absurd h (by unfold slices_DeleteFunc_int_int_h_off_1_L0; exact nofun)
   | succ n0 =>
    unfold slices_DeleteFunc_int_int_h_off_1_L0 at h
    refine iwp_seq ?_
    obtain ⟨x32, hx32, h⟩ := bnd_e h
    refine iwp_reg (ils_cons rfl (mvI rfl rfl rfl rfl) <|
     ils_cons rfl (iop_move rfl rfl (lb rfl) (sv (d := .osl _ _ _) rfl)) <|
     ils_cons rfl (iop_lenO rfl rfl (lb rfl) Try.underlying23 (sv (d := .osl _ _ _) rfl)) <|
     ils_cons rfl (iop_cmpx rfl rfl (lb rfl) (svI rfl) (svI rfl) rfl hx32) <|
     ils_end ?_)
    refine iwp_cond (b := _) rfl (fun hc33 => ?_) (fun hc33 => ?_)
    ·
     replace h := bif_t h hc33
     refine iwp_skip ?_
     refine thenQ_n ?_
     refine iwp_seq ?_
     refine iwp_block ?_
     obtain ⟨x34, hx34, h⟩ := bno_e h
     obtain ⟨x35, hx35, h⟩ := bno_e h
     refine iwp_reg (ils_cons rfl (iop_move rfl rfl (lb rfl) (sv (d := .osl _ _ _) rfl)) <|
      ils_cons rfl (mvI rfl rfl rfl rfl) <|
      ils_cons rfl (iop_idxO (eInt .i64).toEnc0 rfl rfl (lb rfl) Try.underlying23 ti3 (sv (d := .osl _ _ _) rfl) rfl (svI rfl) hx34) <|
      ils_cons rfl (iop_loadEs (eInt .i64).toEnc0 (d := .int _ _) rfl rfl (lb rfl) Try.underlying3 ag3 ti3 (by decide) (svR rfl) rfl hx35 (nle rfl) rfl) <|
      ils_cons rfl (asI rfl rfl rfl rfl) <|
      ils_end ?_)
     obtain ⟨x36, hx36, h⟩ := bno_e h
     refine iwp_reg (ils_cons rfl (iop_move rfl rfl (lb rfl) (sv (d := .fn 67 [.ref _ _]) rfl)) <|
      ils_cons rfl (mvI rfl rfl rfl rfl) <|
      ils_cons rfl (iop_callvp (r := .bool x36) rfl rfl (lb rfl) cl67 (sv (d := .fn 67 [.ref _ _]) rfl) (.cons (svI rfl) .nil) (.k (.cons (.ref rfl rfl (fdl_refl _) rfl) .nil)) rfl rfl (p_fold_State_off_1 _ _ _ hx36)) <|
      ils_cons rfl (iop_not rfl rfl (lb rfl) (svB rfl)) <|
      ils_end ?_)
     refine iwp_cond (b := _) rfl (fun hc37 => ?_) (fun hc37 => ?_)
     ·
      replace h := bif_t h hc37
      obtain ⟨x38, hx38, h⟩ := bno_e h
      obtain ⟨x39, hx39, h⟩ := bno_e h
      obtain ⟨x40, hx40, h⟩ := bnd_e h
      refine iwp_reg (ils_cons rfl (iop_move rfl rfl (lb rfl) (sv (d := .osl _ _ _) rfl)) <|
       ils_cons rfl (mvI rfl rfl rfl rfl) <|
       ils_cons rfl (mvI rfl rfl rfl rfl) <|
       ils_cons rfl (iop_idxO (eInt .i64).toEnc0 rfl rfl (lb rfl) Try.underlying23 ti3 (sv (d := .osl _ _ _) rfl) rfl (svI rfl) hx38) <|
       ils_cons rfl (iop_storeE (eInt .i64).toEnc0 (a' := x35) rfl rfl ti3 (svR rfl) rfl (svI rfl) rfl rfl rfl hx39 (nle rfl) rfl hx40) <|
       ils_end ?_)
      obtain ⟨x41, hx41, h⟩ := bnd_e h
      refine iwp_region (ils_cons rfl (mvI rfl rfl rfl rfl) <|
       ils_cons rfl (iop_intx rfl rfl (lb rfl) (svI rfl) (sv (d := .int _ 1) rfl) rfl hx41) <|
       ils_cons rfl (asI rfl rfl rfl rfl) <|
       ils_nil ?_)
      refine blockQ_n ?_
      refine thenQ_n ?_
      obtain ⟨x42, hx42, h⟩ := bnd_e h
      refine iwp_region (ils_cons rfl (mvI rfl rfl rfl rfl) <|
       ils_cons rfl (iop_intx rfl rfl (lb rfl) (svI rfl) (sv (d := .int _ 1) rfl) rfl hx42) <|
       ils_cons rfl (asI rfl rfl rfl rfl) <|
       ils_nil ?_)
      refine thenQ_n ⟨(n0, x40, x41, x42), (fun i => i), ⟨(.cons (.same (congrArg (D.osl _ _) (len_set hx40 rfl).symm) rfl) (.sames rfl rfl)), (.cons (EntW.lst rfl) (.cons (.blk rfl rfl rfl) .nil)), nd_of [1000, 1001] rfl (by decide), fun _ _ => rfl⟩, ?_, ?_⟩
      exact h
      exact Nat.lt_succ_self _
     ·
      replace h := bif_f h hc37
      refine iwp_skip ?_
      refine blockQ_n ?_
      refine thenQ_n ?_
      obtain ⟨x43, hx43, h⟩ := bnd_e h
      refine iwp_region (ils_cons rfl (mvI rfl rfl rfl rfl) <|
       ils_cons rfl (iop_intx rfl rfl (lb rfl) (svI rfl) (sv (d := .int _ 1) rfl) rfl hx43) <|
       ils_cons rfl (asI rfl rfl rfl rfl) <|
       ils_nil ?_)
      refine thenQ_n ⟨(n0, v17, v18, x43), (fun i => i), ⟨(.sames rfl rfl), (.cons (EntW.lst rfl) (.cons (.blk rfl rfl rfl) .nil)), nd_of [1000, 1001] rfl (by decide), fun _ _ => rfl⟩, ?_, ?_⟩
      exact h
      exact Nat.lt_succ_self _
    ·
     replace h := bif_f h hc33
     refine iwp_exit ?_
     refine thenQ_e ?_
     refine thenQ_e ?_
     refine blockQ_e ?_
     refine thenQ_n ?_
     obtain ⟨x44, hx44, h⟩ := bno_e h
     refine iwp_reg (ils_cons rfl (iop_move rfl rfl (lb rfl) (sv (d := .osl _ _ _) rfl)) <|
      ils_cons rfl (mvI rfl rfl rfl rfl) <|
      ils_clrtail (eInt .i64).toEnc0 rfl rfl rfl rfl (by decide) rfl rfl Try.underlying23 ti3 rfl rfl rfl rfl rfl (fun S1 h9 => sv ((h9 37 (by decide)).trans rfl)) hx44 <|
      ils_end ?_)
     obtain ⟨x45, hx45, h⟩ := bno_e h
     refine iwp_reg (ils_cons rfl (iop_move rfl rfl (lb rfl) (sv (d := .osl _ _ _) rfl)) <|
      ils_cons rfl (mvI rfl rfl rfl rfl) <|
      ils_cons rfl (iop_truncO (eInt .i64).toEnc0 rfl rfl (lb rfl) Try.underlying23 ti3 (sv (d := .osl _ _ _) rfl) rfl (Nat.le_trans (cut_le hx44) (Nat.le_of_eq rfl)) (svI rfl) hx45) <|
      ils_cons rfl (iop_assign rfl rfl (lb rfl) (sv (d := .osl _ _ _) rfl)) <|
      ils_end ?_)
     refine iwp_ret ?_
     obtain rfl := Option.some.inj h
     refine ⟨.inr rfl, (fun i => if i = 0 then 1000 else i), ⟨.nil, (.cons (.blk rfl rfl rfl) (.cons (EntW.lst rfl) .nil)), nd_of [1001, 1000] rfl (by decide), (fun i hi => by first | rfl | (show (if _ then _ else _) = _; (repeat' split) <;> omega))⟩, (.cons (sv rfl) .nil), rfl⟩

theorem p_fold_State_off_h (a0 : Int) (a1 : Int) (a2 : Int) (a3 : (List T_ptree_Node)) (a4 : (List Int)) (r : (Int × Int × (List T_ptree_Node) × (List Int))) (h : fold_State_off_h a0 a1 a2 a3 a4 = some r) : FnH Try.prog 31 [.agg (w18 a0 a1 (.osl 1000 E_ptree_Node.sz a3.length) (.osl 1001 (eInt .i64).sz a4.length)), .int .i64 a2] [(1000, .blk 56 (D.flat (a3.map E_ptree_Node.d))), (1001, .blk 3 (D.flat (a4.map (eInt .i64).d)))] (.agg (w18 r.1 r.2.1 (.osl 0 E_ptree_Node.sz r.2.2.1.length) (.osl 1 (eInt .i64).sz r.2.2.2.length))) [(0, .blk 56 (D.flat (r.2.2.1.map E_ptree_Node.d))), (1, .blk 3 (D.flat (r.2.2.2.map (eInt .i64).d)))] := by
 refine fnh_of_iwp (rs := [.agg (w18 r.1 r.2.1 (.osl 0 E_ptree_Node.sz r.2.2.1.length) (.osl 1 (eInt .i64).sz r.2.2.2.length))]) Try.func31 rfl Try.ntmps31 (nle rfl) fun O hO => ?_
 show IWP _ _ _ _ ⟨[(0, .agg (w18 a0 a1 (.osl 1000 E_ptree_Node.sz a3.length) (.osl 1001 (eInt .i64).sz a4.length))), (1, .int .i64 a2)], [(1000, .blk 56 (D.flat (a3.map E_ptree_Node.d))), (1001, .blk 3 (D.flat (a4.map (eInt .i64).d)))]⟩ _
 unfold fold_State_off_h at h
 refine iwp_reg (ils_cons rfl (iop_box' (cs := q6) 0 rfl rfl (lb rfl) rfl (svA q6 rfl) rfl rfl) <|
  ils_cons rfl (iop_box' (cs := [.int _ _]) 1 rfl rfl (lb rfl) rfl (svI rfl) rfl rfl) <|
  ils_cons rfl (iop_allocS (cs := q10) (cs' := (w14 0 0 ([] : List T_ptree_Node) ([] : List Int))) 2 rfl rfl (lb rfl) rfl ti32 rfl rfl (.k (.k (.cons (.nils _) (.cons (.nils _) .nil))))) <|
  ils_end ?_)
 obtain ⟨x1, hx1, h⟩ := bno_e h
 refine iwp_reg (ils_cons rfl (lra q6 la32 rfl rfl rfl rfl rfl (nle rfl) rfl) <|
  ils_cons rfl (iop_load_rs (d := .int _ _) rfl rfl (lb rfl) Try.underlying3 ag3 ti3 (by decide) (svR rfl) rfl (nle rfl) rfl) <|
  ils_cons rfl (iop_callp (r := .tuple [.int .i64 x1.1, .bool x1.2]) rfl rfl (lb rfl) cl30 (.cons (svA q6 rfl) (.cons (svI rfl) .nil)) (.cons (.agg (.k (.k (.cons (FDT E_ptree_Node rfl rfl) (.cons (FDT (eInt .i64) rfl rfl) .nil))))) (.all _)) rfl rfl (p_fold_State_find _ _ _ hx1)) <|
  ils_cons rfl (iop_move rfl rfl (lb rfl) (sv (d := .tuple q13) rfl)) <|
  ils_cons rfl (iop_extract (d := .int _ _) rfl rfl (lb rfl) (sv (d := .tuple q13) rfl) rfl) <|
  ils_cons rfl (iop_extract (d := .bool _) rfl rfl (lb rfl) (sv (d := .tuple q13) rfl) rfl) <|
  ils_cons rfl (asI rfl rfl rfl rfl) <|
  ils_cons rfl (asB rfl rfl rfl rfl) <|
  ils_end ?_)
 obtain ⟨x2, hx2, h⟩ := bno_e h
 obtain ⟨x3, hx3, h⟩ := bno_e h
 refine iwp_reg (ils_cons rfl (faR 2 rfl rfl rfl Try.underlying32 rfl ti30 (lb rfl) rfl rfl) <|
  ils_cons rfl (iop_load_rs (d := .osl _ _ _) rfl rfl (lb rfl) Try.underlying30 ag30 ti30 (by decide) (svR rfl) rfl (nle rfl) rfl) <|
  ils_cons rfl (mvI rfl rfl rfl rfl) <|
  ils_cons rfl (iop_idxO E_ptree_Node.toEnc0 rfl rfl (lb rfl) Try.underlying30 ti56 (sv (d := .osl _ _ _) rfl) rfl (svI rfl) hx2) <|
  ils_cons rfl (iop_loadEa E_ptree_Node.toEnc0 (cs := q8) rfl rfl (lb rfl) Try.underlying56 ag56 ti56 (by decide) (svR rfl) rfl hx3 (nle rfl) rfl) <|
  ils_cons rfl (iop_allocS (cs := q8) (cs' := (w16 0 0 0 false)) 3 rfl rfl (lb rfl) rfl ti56 rfl rfl (.all _)) <|
  ils_cons rfl (stA q8 q8 ti56 rfl rfl rfl rfl rfl rfl rfl rfl (nle rfl) rfl) <|
  ils_end ?_)
 obtain ⟨x4, hx4, h⟩ := bnd_e h
 obtain ⟨x5, hx5, h⟩ := bno_e h
 refine iwp_reg (ils_cons rfl (faR 2 rfl rfl rfl Try.underlying32 rfl ti30 (lb rfl) rfl rfl) <|
  ils_cons rfl (iop_load_rs (d := .osl _ _ _) rfl rfl (lb rfl) Try.underlying30 ag30 ti30 (by decide) (svR rfl) rfl (nle rfl) rfl) <|
  ils_cons rfl (mvI rfl rfl rfl rfl) <|
  ils_cons rfl (mvI rfl rfl rfl rfl) <|
  ils_cons rfl (iop_intx rfl rfl (lb rfl) (svI rfl) (sv (d := .int _ 1) rfl) rfl hx4) <|
  ils_cons rfl (iop_callh2 (r' := .osl 4 E_ptree_Node.sz x5.length) (H1' := [(4, .blk 56 (D.flat (x5.map E_ptree_Node.d)))]) 4 [1000] rfl rfl (lb rfl) cl65 (.cons (sv (d := .osl _ _ _) rfl) (.cons (svI rfl) (.cons (svI rfl) .nil))) rfl rfl ⟨rfl, rfl, by decide, rfl, List.forall_mem_cons.2 ⟨⟨rfl, rfl, (handL E_ptree_Node rfl), (handLr E_ptree_Node)⟩, List.forall_mem_nil _⟩⟩ (p_slices_Delete_ptree_Node_ptree_Node_h _ _ _ _ hx5) rfl rfl (List.forall_mem_cons.2 ⟨⟨rfl, (handLr E_ptree_Node)⟩, List.forall_mem_nil _⟩) (by simp only [List.map_cons, List.map_nil, Ent.ren, renL_flat, renL_ref]; rfl)) <|
  ils_cons rfl (faR 2 rfl rfl rfl Try.underlying32 rfl ti30 (lb rfl) rfl rfl) <|
  ils_cons rfl (iop_store (ds' := q6) rfl rfl ti30 (svR rfl) rfl (sv (d := .osl _ _ _) rfl) rfl rfl rfl (nle rfl) rfl) <|
  ils_end ?_)
 obtain ⟨x6, hx6, h⟩ := bno_e h
 refine iwp_reg (ils_cons rfl (lra q6 la32 rfl rfl rfl rfl rfl (nle rfl) rfl) <|
  ils_cons rfl (iop_load_rs (d := .int _ _) rfl rfl (lb rfl) Try.underlying3 ag3 ti3 (by decide) (svR rfl) rfl (nle rfl) rfl) <|
  ils_cons rfl (iop_callp (r := .int .i64 x6) rfl rfl (lb rfl) cl58 (.cons (svA q6 rfl) (.cons (svI rfl) .nil)) (.cons (.agg (.k (.k (.cons (FDT E_ptree_Node rfl rfl) (.cons (FDT (eInt .i64) rfl rfl) .nil))))) (.all _)) rfl rfl (p_fold_State_sum _ _ _ hx6)) <|
  ils_cons rfl (asI rfl rfl rfl rfl) <|
  ils_end ?_)
 refine iwp_seq ?_
 refine iwp_reg (ils_cons rfl (faR 2 rfl rfl rfl Try.underlying32 rfl ti30 (lb rfl) rfl rfl) <|
  ils_cons rfl (iop_load_rs (d := .osl _ _ _) rfl rfl (lb rfl) Try.underlying30 ag30 ti30 (by decide) (svR rfl) rfl (nle rfl) rfl) <|
  ils_cons rfl (iop_lenO rfl rfl (lb rfl) Try.underlying30 (sv (d := .osl _ _ _) rfl)) <|
  ils_cons rfl (iop_move rfl rfl (lb rfl) (sv (d := .int _ 0) rfl)) <|
  ils_end ?_)
 refine iwp_block ?_
 refine iwp_loopP (α := Nat × Int × (List T_ptree_Node)) (fun z => ⟨[(2, .ref 0 0), (3, .ref 1 0), (4, .ref 2 0), (7, .ref 3 0), (8, .int .i64 x6), (34, .int .i64 (x5.length : Int)), (35, .int .i64 z.2.1)], [(0, .blk 32 (w18 a0 a1 (.osl 4 E_ptree_Node.sz z.2.2.length) (.osl 1001 (eInt .i64).sz a4.length))), (1, .blk 3 [.int .i64 a2]), (2, .blk 32 (w14 0 0 ([] : List T_ptree_Node) ([] : List Int))), (3, .blk 56 (v3 x3)), (1001, .blk 3 (D.flat (a4.map (eInt .i64).d))), (4, .blk 56 (D.flat (z.2.2.map E_ptree_Node.d)))]⟩) (fun z => fold_State_off_h_L0 a0 a1 a2 a4 x3 x5 x6 z.1 z.2.1 z.2.2 = some r) (fun z => z.1) (fuel, 0, x5) (fun i => i) ⟨(.sames rfl rfl), (.cons (.blk rfl rfl rfl) (.cons (.blk rfl rfl rfl) (.cons (.blk rfl rfl rfl) (.cons (.blk rfl rfl rfl) (.cons (EntW.lst rfl) (.cons (EntW.lst rfl) .nil)))))), nd_of [0, 1, 2, 3, 1001, 4] rfl (by decide), fun _ _ => rfl⟩ ?_ ?_
 ·exact h
 ·
  rintro ⟨n0, v23, v24⟩ h
  cases n0 with
  | zero => exact absurd h (by unfold fold_State_off_h_L0; exact nofun)
  | succ n0 =>
   unfold fold_State_off_h_L0 at h
   obtain ⟨x41, hx41, h⟩ := bnd_e h
   refine iwp_reg (ils_cons rfl (iop_cmpx rfl rfl (lb rfl) (svI rfl) (svI rfl) rfl hx41) <|
    ils_end ?_)
   refine iwp_seq ?_
   refine iwp_cond (b := _) rfl (fun hc42 => ?_) (fun hc42 => ?_)
   ·
    replace h := bif_t h hc42
    refine iwp_skip ?_
    refine thenQ_n ?_
    refine iwp_seq ?_
    refine iwp_block ?_
    refine iwp_reg (ils_cons rfl (mvI rfl rfl rfl rfl) <|
     ils_cons rfl (asI rfl rfl rfl rfl) <|
     ils_end ?_)
    obtain ⟨x43, hx43, h⟩ := bno_e h
    refine iwp_reg (ils_cons rfl (faR 2 rfl rfl rfl Try.underlying32 rfl ti30 (lb rfl) rfl rfl) <|
     ils_cons rfl (iop_load_rs (d := .osl _ _ _) rfl rfl (lb rfl) Try.underlying30 ag30 ti30 (by decide) (svR rfl) rfl (nle rfl) rfl) <|
     ils_cons rfl (mvI rfl rfl rfl rfl) <|
     ils_cons rfl (iop_idxO E_ptree_Node.toEnc0 rfl rfl (lb rfl) Try.underlying30 ti56 (sv (d := .osl _ _ _) rfl) rfl (svI rfl) hx43) <|
     ils_cons rfl (iop_assign rfl rfl (lb rfl) (svR rfl)) <|
     ils_end ?_)
    obtain ⟨x44, hx44, h⟩ := bno_e h
    obtain ⟨x45, hx45, h⟩ := bnd_e h
    refine iwp_drw rfl [⟨[10], [], [(42, .ref 4 (((v23 : Int).toNat) * E_ptree_Node.sz + 0))], []⟩,
     ⟨[42], [], [(43, .ref 4 (((v23 : Int).toNat) * E_ptree_Node.sz + 0))], []⟩,
     ⟨[43], [], [(44, .ref 4 (((v23 : Int).toNat) * E_ptree_Node.sz + 1))], []⟩,
     ⟨[44], [4], [(45, .int .i64 x44.Parent)], []⟩,
     ⟨[3], [1], [(46, .int .i64 a2)], []⟩,
     ⟨[45, 46], [], [(47, .bool x45)], []⟩] rfl ?_ (by kernel_rfl) ?_
    ·refine .cons (lop rfl rfl fun S hA => (iop_move rfl rfl (lb rfl) (svaR hA rfl rfl))) ?_
     refine .cons (lop rfl rfl fun S hA => (iop_nilCheck_ref rfl rfl (lb rfl) (svaR hA rfl rfl))) ?_
     refine .cons (lop rfl rfl fun S hA => (iop_field_E rfl rfl (lb rfl) Try.underlying56 rfl ti3 (by decide) (svaR hA rfl rfl) (k' := 1) rfl)) ?_
     refine .cons (lop rfl rfl fun S hA => (iop_loadEs E_ptree_Node.toEnc0 (d := .int _ _) rfl rfl (lb rfl) Try.underlying3 ag3 ti3 (by decide) (svaR hA rfl rfl) (agi hA rfl rfl) hx44 (nle rfl) rfl)) ?_
     refine .cons (lop rfl rfl fun S hA => (iop_load_rs (d := .int _ _) rfl rfl (lb rfl) Try.underlying3 ag3 ti3 (by decide) (svaR hA rfl rfl) (agi hA rfl rfl) (nle rfl) rfl)) ?_
     refine .cons (lop rfl rfl fun S hA => (iop_cmpx rfl rfl (lb rfl) (svaI hA rfl rfl) (svaI hA rfl rfl) rfl hx45)) ?_
     exact .nil
    refine iwp_cond (b := _) rfl (fun hc46 => ?_) (fun hc46 => ?_)
    ·
     replace h := bif_t h hc46
     obtain ⟨x47, hx47, h⟩ := bno_e h
     obtain ⟨x48, hx48, h⟩ := bnd_e h
     obtain ⟨x49, hx49, h⟩ := bno_e h
     obtain ⟨x50, hx50, h⟩ := bnd_e h
     obtain ⟨x51, hx51, h⟩ := bno_e h
     obtain ⟨x52, hx52, h⟩ := bnd_e h
     obtain ⟨x53, hx53, h⟩ := bno_e h
     obtain ⟨x54, hx54, h⟩ := bnd_e h
     refine iwp_draw rfl [⟨[10], [], [(48, .ref 4 (((v23 : Int).toNat) * E_ptree_Node.sz + 0))], []⟩,
      ⟨[10], [], [(49, .ref 4 (((v23 : Int).toNat) * E_ptree_Node.sz + 0))], []⟩,
      ⟨[7], [], [(50, .ref 3 1)], []⟩,
      ⟨[50], [3], [(51, .int .i64 x3.Parent)], []⟩,
      ⟨[7], [], [(52, .ref 3 2)], []⟩,
      ⟨[52], [3], [(53, .int .i64 x3.Weight)], []⟩,
      ⟨[10], [], [(54, .ref 4 (((v23 : Int).toNat) * E_ptree_Node.sz + 0))], []⟩,
      ⟨[54], [], [(55, .ref 4 (((v23 : Int).toNat) * E_ptree_Node.sz + 0))], []⟩,
      ⟨[55], [], [(56, .ref 4 (((v23 : Int).toNat) * E_ptree_Node.sz + 2))], []⟩,
      ⟨[56], [4], [(57, .int .i64 x47.Weight)], []⟩,
      ⟨[53, 57], [], [(58, .int .i64 x48)], []⟩,
      ⟨[8], [], [(59, .int .i64 x6)], []⟩,
      ⟨[58, 59], [], [(60, .int .i64 x49)], []⟩,
      ⟨[60], [], [(61, .int .i64 x50)], []⟩,
      ⟨[48], [], [(62, .ref 4 (((v23 : Int).toNat) * E_ptree_Node.sz + 0))], []⟩,
      ⟨[62], [], [(63, .ref 4 (((v23 : Int).toNat) * E_ptree_Node.sz + 1))], []⟩,
      ⟨[51, 63], [4], [], [(4, .blk 56 (D.flat (x52.map E_ptree_Node.d)))]⟩,
      ⟨[49], [], [(64, .ref 4 (((v23 : Int).toNat) * E_ptree_Node.sz + 0))], []⟩,
      ⟨[64], [], [(65, .ref 4 (((v23 : Int).toNat) * E_ptree_Node.sz + 2))], []⟩,
      ⟨[61, 65], [4], [], [(4, .blk 56 (D.flat (x54.map E_ptree_Node.d)))]⟩] rfl ?_ (by kernel_rfl) ?_
     ·refine .cons (lop rfl rfl fun S hA => (iop_move rfl rfl (lb rfl) (svaR hA rfl rfl))) ?_
      refine .cons (lop rfl rfl fun S hA => (iop_move rfl rfl (lb rfl) (svaR hA rfl rfl))) ?_
      refine .cons (lop rfl rfl fun S hA => (iop_fieldAddr_ref rfl rfl (lb rfl) Try.underlying56 rfl ti3 (by decide) (svaR hA rfl rfl) (off' := 1) rfl)) ?_
      refine .cons (lop rfl rfl fun S hA => (iop_load_rs (d := .int _ _) rfl rfl (lb rfl) Try.underlying3 ag3 ti3 (by decide) (svaR hA rfl rfl) (agi hA rfl rfl) (nle rfl) rfl)) ?_
      refine .cons (lop rfl rfl fun S hA => (iop_fieldAddr_ref rfl rfl (lb rfl) Try.underlying56 rfl ti3 (by decide) (svaR hA rfl rfl) (off' := 2) rfl)) ?_
      refine .cons (lop rfl rfl fun S hA => (iop_load_rs (d := .int _ _) rfl rfl (lb rfl) Try.underlying3 ag3 ti3 (by decide) (svaR hA rfl rfl) (agi hA rfl rfl) (nle rfl) rfl)) ?_
      refine .cons (lop rfl rfl fun S hA => (iop_move rfl rfl (lb rfl) (svaR hA rfl rfl))) ?_
      refine .cons (lop rfl rfl fun S hA => (iop_nilCheck_ref rfl rfl (lb rfl) (svaR hA rfl rfl))) ?_
      refine .cons (lop rfl rfl fun S hA => (iop_field_E rfl rfl (lb rfl) Try.underlying56 rfl ti3 (by decide) (svaR hA rfl rfl) (k' := 2) rfl)) ?_
      refine .cons (lop rfl rfl fun S hA => (iop_loadEs E_ptree_Node.toEnc0 (d := .int _ _) rfl rfl (lb rfl) Try.underlying3 ag3 ti3 (by decide) (svaR hA rfl rfl) (agi hA rfl rfl) hx47 (nle rfl) rfl)) ?_
      refine .cons (lop rfl rfl fun S hA => (iop_intx rfl rfl (lb rfl) (svaI hA rfl rfl) (svaI hA rfl rfl) rfl hx48)) ?_
      refine .cons (lop rfl rfl fun S hA => (iop_move rfl rfl (lb rfl) (svaI hA rfl rfl))) ?_
      refine .cons (lop rfl rfl fun S hA => (iop_quox rfl rfl (lb rfl) (svaI hA rfl rfl) (svaI hA rfl rfl) hx49)) ?_
      refine .cons (lop rfl rfl fun S hA => (iop_max2 rfl rfl (lb rfl) (svaI hA rfl rfl) (sv (d := .int _ 1) rfl) hx50)) ?_
      refine .cons (lop rfl rfl fun S hA => (iop_nilCheck_ref rfl rfl (lb rfl) (svaR hA rfl rfl))) ?_
      refine .cons (lop rfl rfl fun S hA => (iop_field_E rfl rfl (lb rfl) Try.underlying56 rfl ti3 (by decide) (svaR hA rfl rfl) (k' := 1) rfl)) ?_
      refine .cons (lop rfl rfl fun S hA => (iop_storeE E_ptree_Node.toEnc0 (a' := (⟨x51.ID, x3.Parent, x51.Weight, x51.Closed⟩ : T_ptree_Node)) rfl rfl ti3 (svaR hA rfl rfl) (agi hA rfl rfl) (svaI hA rfl rfl) rfl rfl rfl hx51 (nle rfl) rfl hx52)) ?_
      refine .cons (lop rfl rfl fun S hA => (iop_nilCheck_ref rfl rfl (lb rfl) (svaR hA rfl rfl))) ?_
      refine .cons (lop rfl rfl fun S hA => (iop_field_E rfl rfl (lb rfl) Try.underlying56 rfl ti3 (by decide) (svaR hA rfl rfl) (k' := 2) rfl)) ?_
      refine .cons (lop rfl rfl fun S hA => (iop_storeE E_ptree_Node.toEnc0 (a' := (⟨x53.ID, x53.Parent, x50, x53.Closed⟩ : T_ptree_Node)) rfl rfl ti3 (svaR hA rfl rfl) (agi hA rfl rfl) (svaI hA rfl rfl) rfl rfl rfl hx53 (nle rfl) rfl hx54)) ?_
      exact .nil
     refine blockQ_n ?_
     refine thenQ_n ?_
     obtain ⟨x55, hx55, h⟩ := bnd_e h
     refine iwp_region (ils_cons rfl (iop_intx rfl rfl (lb rfl) (svI rfl) (sv (d := .int _ 1) rfl) rfl hx55) <|
      ils_cons rfl (mvI rfl rfl rfl rfl) <|
      ils_nil ?_)
     refine thenQ_n ⟨(n0, x55, x54), (fun i => i), ⟨(.sames rfl rfl), (.cons (.blk rfl (by rw [← (len_set hx54 (len_set hx52 rfl))]; rfl) rfl) (.cons (.blk rfl rfl rfl) (.cons (.blk rfl rfl rfl) (.cons (.blk rfl rfl rfl) (.cons (EntW.lst rfl) (.cons (EntW.lst rfl) .nil)))))), nd_of [0, 1, 2, 3, 1001, 4] rfl (by decide), fun _ _ => rfl⟩, ?_, ?_⟩
     exact h
     exact Nat.lt_succ_self _
    ·
     replace h := bif_f h hc46
     refine iwp_skip ?_
     refine blockQ_n ?_
     refine thenQ_n ?_
     obtain ⟨x56, hx56, h⟩ := bnd_e h
     refine iwp_region (ils_cons rfl (iop_intx rfl rfl (lb rfl) (svI rfl) (sv (d := .int _ 1) rfl) rfl hx56) <|
      ils_cons rfl (mvI rfl rfl rfl rfl) <|
      ils_nil ?_)
     refine thenQ_n ⟨(n0, x56, v24), (fun i => i), ⟨(.sames rfl rfl), (.cons (.blk rfl rfl rfl) (.cons (.blk rfl rfl rfl) (.cons (.blk rfl rfl rfl) (.cons (.blk rfl rfl rfl) (.cons (EntW.lst rfl) (.cons (EntW.lst rfl) .nil)))))), nd_of [0, 1, 2, 3, 1001, 4] rfl (by decide), fun _ _ => rfl⟩, ?_, ?_⟩
     exact h
     exact Nat.lt_succ_self _
   ·
    replace h := bif_f h hc42
    refine iwp_exit ?_
    refine thenQ_e ?_
    refine thenQ_e ?_
    refine blockQ_e ?_
    refine thenQ_n ?_
    obtain ⟨x57, hx57, h⟩ := bno_e h
    refine iwp_reg (ils_cons rfl (faR 3 rfl rfl rfl Try.underlying32 rfl ti23 (lb rfl) rfl rfl) <|
     ils_cons rfl (iop_load_rs (d := .osl _ _ _) rfl rfl (lb rfl) Try.underlying23 ag23 ti23 (by decide) (svR rfl) rfl (nle rfl) rfl) <|
     ils_cons rfl (iop_makeFunc rfl rfl (lb rfl) (.cons (svR rfl) .nil)) <|
     ils_cons rfl (iop_callh2 (r' := .osl 5 (eInt .i64).sz x57.length) (H1' := [(1, .blk 3 [.int .i64 a2]), (5, .blk 3 (D.flat (x57.map (eInt .i64).d)))]) 5 [1001, 1] rfl rfl (lb rfl) cl66 (.cons (sv (d := .osl _ _ _) rfl) (.cons (sv (d := .fn 67 [.ref _ _]) rfl) .nil)) rfl rfl ⟨rfl, rfl, by decide, rfl, List.forall_mem_cons.2 ⟨⟨rfl, rfl, (handL (eInt .i64) rfl), (handLr (eInt .i64))⟩, List.forall_mem_cons.2 ⟨⟨rfl, rfl, rfl, rfl⟩, List.forall_mem_nil _⟩⟩⟩ (p_slices_DeleteFunc_int_int_h_off_1 _ _ _ hx57) rfl rfl (List.forall_mem_cons.2 ⟨⟨rfl, rfl⟩, List.forall_mem_cons.2 ⟨⟨rfl, (handLr (eInt .i64))⟩, List.forall_mem_nil _⟩⟩) (by simp only [List.map_cons, List.map_nil, Ent.ren, renL_flat, renL_ref]; rfl)) <|
     ils_cons rfl (faR 3 rfl rfl rfl Try.underlying32 rfl ti23 (lb rfl) rfl rfl) <|
     ils_cons rfl (iop_store (ds' := q6) rfl rfl ti23 (svR rfl) rfl (sv (d := .osl _ _ _) rfl) rfl rfl rfl (nle rfl) rfl) <|
     ils_end ?_)
    refine iwp_reg (ils_cons rfl (lra q6 la32 rfl rfl rfl rfl rfl (nle rfl) rfl) <|
     ils_cons rfl (stA q6 q6 ti32 rfl rfl rfl rfl rfl rfl rfl rfl (nle rfl) rfl) <|
     ils_end ?_)
    refine iwp_ret ?_
    obtain rfl := Option.some.inj h
    refine ⟨.inr rfl, (fun i => if i = 0 then 4 else if i = 1 then 5 else i), ⟨.nil, (.cons (EntW.lst rfl) (.cons (EntW.lst rfl) .nil)), nd_of [4, 5] rfl (by decide), (fun i hi => by first | rfl | (show (if _ then _ else _) = _; (repeat' split) <;> omega))⟩, (.cons (rva la32 rfl rfl (nle rfl) rfl) .nil), rfl⟩

set_option maxRecDepth 8000 in
set_option maxHeartbeats 4000000 in
theorem p_slices_Insert_ptree_Node_ptree_Node_h (a0 : Int) (a1 : List T_ptree_Node) (a2 : List T_ptree_Node) (r : List T_ptree_Node) (h : slices_Insert_ptree_Node_ptree_Node_h a0 a1 a2 = some r) : FnH Try.prog 62 [.osl 1000 E_ptree_Node.sz a2.length, .int .i64 a0, .slice false (a1.map E_ptree_Node.d)] [(1000, .blk 56 (D.flat (a2.map E_ptree_Node.d)))] (.osl 0 E_ptree_Node.sz r.length) [(0, .blk 56 (D.flat (r.map E_ptree_Node.d)))] := by
 replace h : insS 32 a2 a0 a1 = some r := h
 obtain ⟨i, rfl, hi, hm, hb, hr⟩ := insS_e h
 have hX := E_ptree_Node.toEnc0.flat_len a2
 have hV := E_ptree_Node.toEnc0.flat_len a1
 have hp := E_ptree_Node.pos
 have hvt : ∀ k, a1.length ≤ k → (D.flat (a1.map E_ptree_Node.d)).take (min a1.length k * E_ptree_Node.sz) = D.flat (a1.map E_ptree_Node.d) := fun k hk => by
  rw [Nat.min_eq_left hk, ← hV, List.take_length]
 refine fnh_of_iwp (rs := [.osl 0 E_ptree_Node.sz r.length]) Try.func62 rfl Try.ntmps62 (nle rfl) fun O hO => ?_
 show IWP _ _ _ _ ⟨[(0, .osl 1000 E_ptree_Node.sz a2.length), (1, .int .i64 (i : Int)), (2, .slice false (a1.map E_ptree_Node.d))], [(1000, .blk 56 (D.flat (a2.map E_ptree_Node.d)))]⟩ _
 refine iwp_open 0 (id := 1000) (sz := E_ptree_Node.sz) (n := a2.length) rfl rfl hX (fun hn => ?_) (fun c hc hcm => ?_)
 ·
  obtain rfl := List.length_eq_zero_iff.1 hn
  obtain rfl : i = 0 := by simpa using hi
  refine iwp_reg (ils_cons rfl (iop_assign rfl rfl (lb rfl) (sv (d := .nils) rfl)) <| ils_end ?_)
  refine iwp_reg (ils_cons rfl (iop_move rfl rfl (lb rfl) (sv (d := .nils) rfl)) <| ils_cons rfl (mvI rfl rfl rfl rfl) <|
   ils_cons rfl (iop_cutT E_ptree_Node (s := []) (r := []) (b := false) rfl rfl (lb rfl) Try.underlying30 ti56 (svn rfl) ⟨_, (svI rfl)⟩ rfl rfl) <| ils_end ?_)
  refine iwp_reg (ils_cons rfl (mvL rfl rfl rfl rfl) <| ils_cons rfl (iop_lenT E_ptree_Node (l := a1) rfl rfl (lb rfl) Try.underlying30 (svL rfl)) <|
   ils_cons rfl (asI rfl rfl rfl rfl) <| ils_end ?_)
  refine iwp_seq ?_
  refine iwp_reg (ils_cons rfl (mvI rfl rfl rfl rfl) <| ils_cons rfl (iop_cmpx rfl rfl (lb rfl) (svI rfl) (sv (d := .int _ 0) rfl) rfl rfl) <| ils_end ?_)
  refine iwp_cond (b := _) rfl (fun h1 => ?_) (fun h1 => ?_)
  ·have h2 := of_decide_eq_true h1
   obtain rfl := List.length_eq_zero_iff.1 (show a1.length = 0 by omega)
   have hr' : [] = r := by simpa using hr
   subst hr'
   refine iwp_reg (ils_cons rfl (iop_move rfl rfl (lb rfl) (sv (d := .nils) rfl)) <| ils_cons rfl (iop_assign rfl rfl (lb rfl) (sv (d := .nils) rfl)) <| ils_end ?_)
   refine iwp_ret ?_
   refine thenQ_r ?_
   refine ⟨.inr rfl, (fun i => if i = 0 then 50 else i), ⟨.nil, (.cons (.nilb rfl) .nil), nd_of [50] rfl (by decide), (fun i hi => by first | rfl | (show (if _ then _ else _) = _; (repeat' split) <;> omega))⟩, (.cons (svno rfl) .nil), rfl⟩
  ·refine iwp_skip ?_
   refine thenQ_n ?_
   refine iwp_reg (ils_cons rfl (iop_move rfl rfl (lb rfl) (sv (d := .nils) rfl)) <| ils_cons rfl (iop_lenT E_ptree_Node (l := []) (b := false) rfl rfl (lb rfl) Try.underlying30 (svn rfl)) <|
    ils_cons rfl (asI rfl rfl rfl rfl) <| ils_end ?_)
   refine iwp_seq ?_
   refine iwp_reg (ils_cons rfl (mvI rfl rfl rfl rfl) <| ils_cons rfl (mvI rfl rfl rfl rfl) <| ils_cons rfl (iop_cmpx rfl rfl (lb rfl) (svI rfl) (svI rfl) rfl rfl) <| ils_end ?_)
   refine iwp_cond_t rfl rfl ?_
   have ha : app 32 ([] : List T_ptree_Node) a1 = some r := by
    rw [← hr]; unfold maxLen at hm; simpa using app_ok hm hb
   refine iwp_reg (ils_cons rfl (iop_move rfl rfl (lb rfl) (sv (d := .nils) rfl)) <| ils_cons rfl (mvL rfl rfl rfl rfl) <|
    ils_cons rfl (iop_appOn E_ptree_Node.toEnc0 0 rfl rfl (lb rfl) Try.underlying30 ti56 rfl rfl rfl (src_T E_ptree_Node (ys := a1) (svL rfl)) ha) <|
    ils_cons rfl (iop_assign rfl rfl (lb rfl) (sv (d := .osl _ _ _) rfl)) <| ils_end ?_)
   refine iwp_ret ?_
   refine thenQ_r ?_
   refine ⟨.inr rfl, (fun i => i), ⟨.nil, (.cons (EntW.lst rfl) .nil), nd_of [0] rfl (by decide), fun _ _ => rfl⟩, (.cons (sv rfl) .nil), rfl⟩
 ·refine iwp_reg (ils_cons rfl (iop_assign rfl rfl (lb rfl) (sv (d := .nils) rfl)) <| ils_end ?_)
  refine iwp_reg (ils_cons rfl (iop_move rfl rfl (lb rfl) (sv (d := .rsl _ _ _ _ _) rfl)) <| ils_cons rfl (mvI rfl rfl rfl rfl) <|
   ils_cons rfl (iop_slice_rsl (sz := E_ptree_Node.sz) (l := (i : Int)) (h := (a2.length : Int)) (m := (c : Int)) rfl rfl (lb rfl) Try.underlying30 ti56 (sv (d := .rsl _ _ _ _ _) rfl) ⟨_, (svI rfl)⟩ rfl rfl (by simp) (by omega) (by omega) (by omega) (by omega) rfl) <| ils_end ?_)
  refine iwp_reg (ils_cons rfl (mvL rfl rfl rfl rfl) <| ils_cons rfl (iop_lenT E_ptree_Node (l := a1) rfl rfl (lb rfl) Try.underlying30 (svL rfl)) <|
   ils_cons rfl (asI rfl rfl rfl rfl) <| ils_end ?_)
  refine iwp_seq ?_
  refine iwp_reg (ils_cons rfl (mvI rfl rfl rfl rfl) <| ils_cons rfl (iop_cmpx rfl rfl (lb rfl) (svI rfl) (sv (d := .int _ 0) rfl) rfl rfl) <| ils_end ?_)
  refine iwp_cond (b := _) rfl (fun h1 => ?_) (fun h1 => ?_)
  ·have h2 := of_decide_eq_true h1
   obtain rfl := List.length_eq_zero_iff.1 (show a1.length = 0 by omega)
   have hr' : a2 = r := by simpa using hr
   subst hr'
   refine iwp_reg (ils_cons rfl (iop_move rfl rfl (lb rfl) (sv (d := .rsl _ _ _ _ _) rfl)) <| ils_cons rfl (iop_assign rfl rfl (lb rfl) (sv (d := .rsl _ _ _ _ _) rfl)) <| ils_end ?_)
   refine iwp_close 6 (id := 1000) rfl rfl hX ?_
   refine iwp_ret ?_
   refine thenQ_r ?_
   refine ⟨.inr rfl, (fun i => if i = 0 then 1000 else i), ⟨.nil, (.cons (EntW.lst rfl) .nil), nd_of [1000] rfl (by decide), (fun i hi => by first | rfl | (show (if _ then _ else _) = _; (repeat' split) <;> omega))⟩, (.cons (sv rfl) .nil), rfl⟩
  ·have h2 := of_decide_eq_false h1
   have hm0 : 0 < a1.length := by omega
   refine iwp_skip ?_
   refine thenQ_n ?_
   refine iwp_reg (ils_cons rfl (iop_move rfl rfl (lb rfl) (sv (d := .rsl _ _ _ _ _) rfl)) <| ils_cons rfl (iop_len_rsl rfl rfl (lb rfl) Try.underlying30 (sv (d := .rsl _ _ _ _ _) rfl) rfl) <|
    ils_cons rfl (asI rfl rfl rfl rfl) <| ils_end ?_)
   refine iwp_seq ?_
   refine iwp_reg (ils_cons rfl (mvI rfl rfl rfl rfl) <| ils_cons rfl (mvI rfl rfl rfl rfl) <| ils_cons rfl (iop_cmpx rfl rfl (lb rfl) (svI rfl) (svI rfl) rfl rfl) <| ils_end ?_)
   refine iwp_cond (b := _) rfl (fun h3 => ?_) (fun h3 => ?_)
   ·have h4 := of_decide_eq_true h3
    obtain rfl : i = a2.length := by omega
    have hr' : a2 ++ a1 = r := by simpa using hr
    have ha : app 32 a2 a1 = some r := by
     rw [← hr']; unfold maxLen at hm; exact app_ok hm hb
    refine iwp_reg (ils_cons rfl (iop_move rfl rfl (lb rfl) (sv (d := .rsl _ _ _ _ _) rfl)) <| ils_cons rfl (mvL rfl rfl rfl rfl) <|
     ils_close 23 (id := 1000) rfl rfl hX <|
     ils_cons rfl (iop_appO E_ptree_Node.toEnc0 0 rfl rfl (lb rfl) Try.underlying30 ti56 rfl rfl rfl rfl rfl (src_T E_ptree_Node (ys := a1) (svL rfl)) ha) <|
     ils_cons rfl (iop_assign rfl rfl (lb rfl) (sv (d := .osl _ _ _) rfl)) <| ils_end ?_)
    refine iwp_ret ?_
    refine thenQ_r ?_
    refine ⟨.inr rfl, (fun i => i), ⟨.nil, (.cons (EntW.lst rfl) .nil), nd_of [0] rfl (by decide), fun _ _ => rfl⟩, (.cons (sv rfl) .nil), rfl⟩
   ·have h4 := of_decide_eq_false h3
    have hin : i < a2.length := by omega
    have hXt : (D.flat ((a2.take i).map E_ptree_Node.d)).length = i * E_ptree_Node.sz := by rw [E_ptree_Node.toEnc0.flat_len, List.length_take, Nat.min_eq_left hi]
    have hXd : (D.flat ((a2.drop i).map E_ptree_Node.d)).length = (a2.length - i) * E_ptree_Node.sz := by rw [E_ptree_Node.toEnc0.flat_len, List.length_drop]
    have hXs : D.flat (a2.map E_ptree_Node.d) = D.flat ((a2.take i).map E_ptree_Node.d) ++ D.flat ((a2.drop i).map E_ptree_Node.d) := by
     rw [E_ptree_Node.toEnc0.flat_append, List.take_append_drop]
    have hR : D.flat (r.map E_ptree_Node.d) = D.flat ((a2.take i).map E_ptree_Node.d) ++ D.flat (a1.map E_ptree_Node.d) ++ D.flat ((a2.drop i).map E_ptree_Node.d) := by
     rw [← hr, E_ptree_Node.toEnc0.flat_append, E_ptree_Node.toEnc0.flat_append]
    have hRl : (D.flat (r.map E_ptree_Node.d)).length = r.length * E_ptree_Node.sz := E_ptree_Node.toEnc0.flat_len r
    have hrl : r.length = a2.length + a1.length := by rw [← hr]; simp; omega
    refine iwp_skip ?_
    refine thenQ_n ?_
    refine iwp_seq ?_
    refine iwp_reg (ils_cons rfl (mvI rfl rfl rfl rfl) <| ils_cons rfl (mvI rfl rfl rfl rfl) <| ils_cons rfl (iop_intx rfl rfl (lb rfl) (svI rfl) (svI rfl) rfl (wN hm)) <|
     ils_cons rfl (iop_move rfl rfl (lb rfl) (sv (d := .rsl _ _ _ _ _) rfl)) <| ils_cons rfl (iop_cap_rsl rfl rfl (lb rfl) Try.underlying30 (sv (d := .rsl _ _ _ _ _) rfl) rfl) <| ils_cons rfl (iop_cmpx rfl rfl (lb rfl) (svI rfl) (svI rfl) rfl rfl) <| ils_end ?_)
    refine iwp_cond (b := _) rfl (fun h5 => ?_) (fun h5 => ?_)
    ·have h6 := of_decide_eq_true h5
     have hcn : c < a2.length + a1.length := by omega
     obtain ⟨K, hK⟩ : ∃ K, K = a2.length + a1.length - i := ⟨_, rfl⟩
     have hKm : i + K = a2.length + a1.length := by omega
     have w1 : IntKind.wrap .i64 (((a2.length + a1.length : Nat) : Int) - (i : Int)) = (K : Int) := by rw [hK]; exact wS (by omega) hm
     have hD0 : i * E_ptree_Node.sz ≤ (D.flat (a2.map E_ptree_Node.d) ++ List.replicate ((c - a2.length) * E_ptree_Node.sz) D.dead).length := by
      rw [List.length_append, hX]; exact Nat.le_trans (Nat.mul_le_mul_right _ hi) (Nat.le_add_right _ _)
     have hT0 : (D.flat (a2.map E_ptree_Node.d) ++ List.replicate ((c - a2.length) * E_ptree_Node.sz) D.dead).take (i * E_ptree_Node.sz) = D.flat ((a2.take i).map E_ptree_Node.d) := by
      rw [List.take_append_of_le_length (by rw [hX]; exact Nat.mul_le_mul_right _ hi), E_ptree_Node.toEnc0.flat_take]
     refine iwp_reg (ils_cons rfl (iop_move rfl rfl (lb rfl) (sv (d := .rsl _ _ _ _ _) rfl)) <| ils_cons rfl (mvI rfl rfl rfl rfl) <|
      ils_cons rfl (iop_slice_rsl (sz := E_ptree_Node.sz) (l := 0) (h := (i : Int)) (m := (c : Int)) (d := .rsl 1000 E_ptree_Node.sz 0 i c) rfl rfl (lb rfl) Try.underlying30 ti56 (sv (d := .rsl _ _ _ _ _) rfl) rfl ⟨_, (svI rfl)⟩ rfl (by simp) (by omega) (by omega) (by omega) (by omega) (by simp only [Int.toNat_natCast, Int.toNat_zero, Nat.zero_mul, Nat.zero_add, Nat.sub_zero])) <|
      ils_cons rfl (mvI rfl rfl rfl rfl) <| ils_cons rfl (mvI rfl rfl rfl rfl) <| ils_cons rfl (iop_intx rfl rfl (lb rfl) (svI rfl) (svI rfl) rfl (wN hm)) <|
      ils_cons rfl (mvI rfl rfl rfl rfl) <| ils_cons rfl (iop_intx rfl rfl (lb rfl) (svI rfl) (svI rfl) rfl w1) <|
      ils_cons rfl (iop_app_made (sz := E_ptree_Node.sz) (k := K) 0 rfl rfl (lb rfl) Try.underlying30 Try.underlying3 ti56 rfl (sv (d := .rsl _ _ _ _ _) rfl) rfl rfl (svI rfl) rfl (by omega) hD0 (by omega) (by rw [hKm]; exact hm) (by rw [hKm]; exact hb)) <|
      ils_cons rfl (iop_assign rfl rfl (lb rfl) (sv (d := .osl _ _ _) rfl)) <| ils_end ?_)
     have hY0 : ((D.flat (a2.map E_ptree_Node.d) ++ List.replicate ((c - a2.length) * E_ptree_Node.sz) D.dead).take (i * E_ptree_Node.sz) ++ List.replicate (K * E_ptree_Node.sz) D.dead).length = (i + K) * E_ptree_Node.sz := by
      rw [List.length_append, List.length_take, List.length_replicate, Nat.min_eq_left hD0, Nat.add_mul]
     refine iwp_open 9 (id := 0) rfl rfl hY0 (fun h0 => absurd h0 (by omega)) (fun c1 hc1 hcm1 => ?_)
     rw [hT0]
     rw [hT0] at hY0
     have w2 : IntKind.wrap .i64 ((i : Int) + (a1.length : Int)) = ((i + a1.length : Nat) : Int) := wN (by omega)
     have hKs : (K - a1.length) * E_ptree_Node.sz = (a2.length - i) * E_ptree_Node.sz := by congr 1; omega
     obtain ⟨J, hJ⟩ : ∃ J, J = List.replicate ((c1 - (i + K)) * E_ptree_Node.sz) D.dead := ⟨_, rfl⟩
     obtain ⟨Z, hZ⟩ : ∃ Z, Z = List.replicate (K * E_ptree_Node.sz) D.dead := ⟨_, rfl⟩
     have hZl : Z.length = K * E_ptree_Node.sz := by rw [hZ, List.length_replicate]
     have hKsp : K * E_ptree_Node.sz = a1.length * E_ptree_Node.sz + (a2.length - i) * E_ptree_Node.sz := by rw [← Nat.add_mul]; congr 1; omega
     rw [← hJ, ← hZ]
     have hYl : (D.flat ((a2.take i).map E_ptree_Node.d) ++ Z ++ J).length = i * E_ptree_Node.sz + K * E_ptree_Node.sz + J.length := by simp only [List.length_append, hXt, hZl]
     refine iwp_reg (ils_cons rfl (iop_move rfl rfl (lb rfl) (sv (d := .rsl _ _ _ _ _) rfl)) <| ils_cons rfl (mvI rfl rfl rfl rfl) <|
      ils_cons rfl (iop_slice_rsl (sz := E_ptree_Node.sz) (l := (i : Int)) (h := ((i + K : Nat) : Int)) (m := (c1 : Int)) (d := .rsl 0 E_ptree_Node.sz (i * E_ptree_Node.sz) K (c1 - i)) rfl rfl (lb rfl) Try.underlying30 ti56 (sv (d := .rsl _ _ _ _ _) rfl) ⟨_, (svI rfl)⟩ rfl rfl (by simp) (by omega) (by omega) (by omega) (by omega) (by simp only [Int.toNat_natCast, Nat.zero_add]; congr 1; omega)) <|
      ils_cons rfl (mvL rfl rfl rfl rfl) <|
      ils_cons rfl (iop_copy_rsl (sz := E_ptree_Node.sz) (ds' := splice (D.flat ((a2.take i).map E_ptree_Node.d) ++ Z ++ J) (i * E_ptree_Node.sz) (D.flat (a1.map E_ptree_Node.d))) rfl rfl (lb rfl) Try.underlying30 ti56 (sv (d := .rsl _ _ _ _ _) rfl) rfl (src_T E_ptree_Node (ys := a1) (svL rfl)) hV (all_take' (E_ptree_Node.toEnc0.one a1) _) (by rw [hYl]; omega) rfl (by rw [hvt _ (by omega)])) <| ils_end ?_)
     have e1 : splice (D.flat ((a2.take i).map E_ptree_Node.d) ++ Z ++ J) (i * E_ptree_Node.sz) (D.flat (a1.map E_ptree_Node.d)) = D.flat ((a2.take i).map E_ptree_Node.d) ++ D.flat (a1.map E_ptree_Node.d) ++ (Z.drop (a1.length * E_ptree_Node.sz) ++ J) := by
      have e2 : D.flat ((a2.take i).map E_ptree_Node.d) ++ Z ++ J = D.flat ((a2.take i).map E_ptree_Node.d) ++ Z.take (a1.length * E_ptree_Node.sz) ++ (Z.drop (a1.length * E_ptree_Node.sz) ++ J) := by
       rw [List.append_assoc (D.flat ((a2.take i).map E_ptree_Node.d)), List.append_assoc (D.flat ((a2.take i).map E_ptree_Node.d)), ← List.append_assoc (Z.take _), List.take_append_drop]
      rw [e2]; exact splice_at hXt (by rw [List.length_take, hZl, hV]; omega)
     have hres := ins_new (J := J) (Y := D.flat ((a2.drop i).map E_ptree_Node.d)) hXt hV (show Z.length = a1.length * E_ptree_Node.sz + (D.flat ((a2.drop i).map E_ptree_Node.d)).length by rw [hZl, hXd, hKsp])
     have hlen1 : (splice (D.flat ((a2.take i).map E_ptree_Node.d) ++ Z ++ J) (i * E_ptree_Node.sz) (D.flat (a1.map E_ptree_Node.d))).length = i * E_ptree_Node.sz + K * E_ptree_Node.sz + J.length := by
      rw [e1]; simp only [List.length_append, hXt, hV, List.length_drop, hZl]; omega
     obtain ⟨Y1, hY1⟩ : ∃ Y1, Y1 = splice (D.flat ((a2.take i).map E_ptree_Node.d) ++ Z ++ J) (i * E_ptree_Node.sz) (D.flat (a1.map E_ptree_Node.d)) := ⟨_, rfl⟩
     rw [← hY1] at hlen1 hres ⊢
     obtain ⟨es, hes⟩ : ∃ es, es = ((D.flat (a2.map E_ptree_Node.d) ++ List.replicate ((c - a2.length) * E_ptree_Node.sz) D.dead).drop (i * E_ptree_Node.sz)).take ((a2.length - i) * E_ptree_Node.sz) := ⟨_, rfl⟩
     have hes' : es = D.flat ((a2.drop i).map E_ptree_Node.d) := by
      rw [hes, List.drop_append_of_le_length (by rw [hX]; exact Nat.mul_le_mul_right _ hi), E_ptree_Node.toEnc0.flat_drop, List.take_append_of_le_length (by rw [hXd]; exact Nat.le_refl _), ← hXd, List.take_length]
     have hfit2 : i * E_ptree_Node.sz + (a2.length - i) * E_ptree_Node.sz ≤ (D.flat (a2.map E_ptree_Node.d) ++ List.replicate ((c - a2.length) * E_ptree_Node.sz) D.dead).length := by
      rw [List.length_append, hX, ← Nat.add_mul, show i + (a2.length - i) = a2.length by omega]; exact Nat.le_add_right _ _
     have him : (i + a1.length) * E_ptree_Node.sz = i * E_ptree_Node.sz + a1.length * E_ptree_Node.sz := Nat.add_mul _ _ _
     refine iwp_drw rfl [⟨[9], [], [(46, .rsl 0 E_ptree_Node.sz 0 (i + K) c1)], []⟩, ⟨[1], [], [(47, .int .i64 (i : Int))], []⟩, ⟨[7], [], [(48, .int .i64 (a1.length : Int))], []⟩, ⟨[47, 48], [], [(49, .int .i64 ((i + a1.length : Nat) : Int))], []⟩,
      ⟨[46, 49], [], [(50, .rsl 0 E_ptree_Node.sz ((i + a1.length) * E_ptree_Node.sz) (K - a1.length) (c1 - (i + a1.length)))], []⟩, ⟨[0], [], [(51, .rsl 1000 E_ptree_Node.sz 0 a2.length c)], []⟩, ⟨[1], [], [(52, .int .i64 (i : Int))], []⟩, ⟨[51, 52], [], [(53, .rsl 1000 E_ptree_Node.sz (i * E_ptree_Node.sz) (a2.length - i) (c - i))], []⟩,
      ⟨[50, 53], [0, 1000], [(54, .int .i64 ((min (a2.length - i) (K - a1.length) : Nat) : Int))], [(0, .blk 56 (splice Y1 ((i + a1.length) * E_ptree_Node.sz) es))]⟩] rfl ?_ (by kernel_rfl) ?_
     ·refine .cons (lop rfl rfl fun S hA => (iop_move rfl rfl (lb rfl) (sv (d := .rsl _ _ _ _ _) (agr hA rfl rfl)))) ?_
      refine .cons (lop rfl rfl fun S hA => (iop_move rfl rfl (lb rfl) (svaI hA rfl rfl))) ?_
      refine .cons (lop rfl rfl fun S hA => (iop_move rfl rfl (lb rfl) (svaI hA rfl rfl))) ?_
      refine .cons (lop rfl rfl fun S hA => (iop_intx rfl rfl (lb rfl) (svaI hA rfl rfl) (svaI hA rfl rfl) rfl w2)) ?_
      refine .cons (lop rfl rfl fun S hA => (iop_slice_rsl (sz := E_ptree_Node.sz) (l := ((i + a1.length : Nat) : Int)) (h := ((i + K : Nat) : Int)) (m := (c1 : Int)) (d := .rsl 0 E_ptree_Node.sz ((i + a1.length) * E_ptree_Node.sz) (K - a1.length) (c1 - (i + a1.length))) rfl rfl (lb rfl) Try.underlying30 ti56 (sv (d := .rsl _ _ _ _ _) (agr hA rfl rfl)) ⟨_, (svaI hA rfl rfl)⟩ rfl rfl (by simp) (by omega) (by omega) (by omega) (by omega) (by simp only [Int.toNat_natCast, Nat.zero_add]; congr 1; omega))) ?_
      refine .cons (lop rfl rfl fun S hA => (iop_move rfl rfl (lb rfl) (sv (d := .rsl _ _ _ _ _) (agr hA rfl rfl)))) ?_
      refine .cons (lop rfl rfl fun S hA => (iop_move rfl rfl (lb rfl) (svaI hA rfl rfl))) ?_
      refine .cons (lop rfl rfl fun S hA => (iop_slice_rsl (sz := E_ptree_Node.sz) (l := (i : Int)) (h := (a2.length : Int)) (m := (c : Int)) (d := .rsl 1000 E_ptree_Node.sz (i * E_ptree_Node.sz) (a2.length - i) (c - i)) rfl rfl (lb rfl) Try.underlying30 ti56 (sv (d := .rsl _ _ _ _ _) (agr hA rfl rfl)) ⟨_, (svaI hA rfl rfl)⟩ rfl rfl (by simp) (by omega) (by omega) (by omega) (by omega) (by simp only [Int.toNat_natCast, Nat.zero_add]))) ?_
      refine .cons (lop rfl rfl fun S hA => (iop_copy_rsl (sz := E_ptree_Node.sz) (es := es) (ds' := splice Y1 ((i + a1.length) * E_ptree_Node.sz) es) rfl rfl (lb rfl) Try.underlying30 ti56 (sv (d := .rsl _ _ _ _ _) (agr hA rfl rfl)) (agi hA rfl rfl) (hes ▸ src_rsl (sv (d := .rsl _ _ _ _ _) (agr hA rfl rfl)) (agi hA rfl rfl) hfit2) (by rw [hes', hXd]) (all_take' (by rw [hes']; exact E_ptree_Node.toEnc0.one _) _) (by rw [hlen1, him, hKs]; omega) rfl (by rw [show min (a2.length - i) (K - a1.length) = a2.length - i by omega, hes', ← hXd, List.take_length]))) ?_
      exact .nil
     ·rw [hes', him, hres, ← hR]
      refine iwp_reg (ils_cons rfl (iop_move rfl rfl (lb rfl) (sv (d := .rsl _ _ _ _ _) rfl)) <| ils_cons rfl (iop_assign rfl rfl (lb rfl) (sv (d := .rsl _ _ _ _ _) rfl)) <| ils_end ?_)
      refine iwp_close 6 (id := 0) rfl rfl (show (D.flat (r.map E_ptree_Node.d)).length = (i + K) * E_ptree_Node.sz by rw [hRl, hrl, hKm]) ?_
      refine iwp_ret ?_
      refine thenQ_r ?_
      refine ⟨.inr rfl, (fun i => i), ⟨.nil, (.cons (EntW.lst rfl) .nil), nd_of [0] rfl (by decide), fun _ _ => rfl⟩, (.cons (sv (congrArg (D.osl _ _) (show i + K = r.length by omega))) .nil), rfl⟩
    ·have h6 := of_decide_eq_false h5
     have hcn : a2.length + a1.length ≤ c := by omega
     have w2 : IntKind.wrap .i64 ((i : Int) + (a1.length : Int)) = ((i + a1.length : Nat) : Int) := wN (by omega)
     have him : (i + a1.length) * E_ptree_Node.sz = i * E_ptree_Node.sz + a1.length * E_ptree_Node.sz := Nat.add_mul _ _ _
     obtain ⟨J, hJ⟩ : ∃ J, J = List.replicate ((c - a2.length) * E_ptree_Node.sz) D.dead := ⟨_, rfl⟩
     have hJl : J.length = (c - a2.length) * E_ptree_Node.sz := by rw [hJ, List.length_replicate]
     have hJm : a1.length * E_ptree_Node.sz ≤ J.length := by rw [hJl]; exact Nat.mul_le_mul_right _ (by omega)
     have hni : a2.length * E_ptree_Node.sz = i * E_ptree_Node.sz + (a2.length - i) * E_ptree_Node.sz := by rw [← Nat.add_mul]; congr 1; omega
     have hnm : (a2.length + a1.length - i) * E_ptree_Node.sz = (a2.length - i) * E_ptree_Node.sz + a1.length * E_ptree_Node.sz := by rw [← Nat.add_mul]; congr 1; omega
     have hnm2 : (a2.length + a1.length - (i + a1.length)) * E_ptree_Node.sz = (a2.length - i) * E_ptree_Node.sz := by congr 1; omega
     rw [← hJ]
     have hD0 : (D.flat (a2.map E_ptree_Node.d) ++ J).length = i * E_ptree_Node.sz + (a2.length - i) * E_ptree_Node.sz + J.length := by rw [List.length_append, hX, hni]
     refine iwp_skip ?_
     refine thenQ_n ?_
     refine iwp_reg (ils_cons rfl (iop_move rfl rfl (lb rfl) (sv (d := .rsl _ _ _ _ _) rfl)) <| ils_cons rfl (mvI rfl rfl rfl rfl) <| ils_cons rfl (mvI rfl rfl rfl rfl) <|
      ils_cons rfl (iop_intx rfl rfl (lb rfl) (svI rfl) (svI rfl) rfl (wN hm)) <|
      ils_cons rfl (iop_slice_rsl (sz := E_ptree_Node.sz) (l := 0) (h := ((a2.length + a1.length : Nat) : Int)) (m := (c : Int)) (d := .rsl 1000 E_ptree_Node.sz 0 (a2.length + a1.length) c) rfl rfl (lb rfl) Try.underlying30 ti56 (sv (d := .rsl _ _ _ _ _) rfl) rfl ⟨_, (svI rfl)⟩ rfl (by simp) (by omega) (by omega) (by omega) (by omega) (by simp only [Int.toNat_natCast, Int.toNat_zero, Nat.zero_mul, Nat.zero_add, Nat.sub_zero])) <|
      ils_cons rfl (iop_assign rfl rfl (lb rfl) (sv (d := .rsl _ _ _ _ _) rfl)) <| ils_end ?_)
     refine iwp_seq ?_
     refine iwp_reg (ils_cons rfl (mvL rfl rfl rfl rfl) <| ils_cons rfl (iop_move rfl rfl (lb rfl) (sv (d := .rsl _ _ _ _ _) rfl)) <| ils_cons rfl (mvI rfl rfl rfl rfl) <| ils_cons rfl (mvI rfl rfl rfl rfl) <|
      ils_cons rfl (iop_intx rfl rfl (lb rfl) (svI rfl) (svI rfl) rfl w2) <|
      ils_cons rfl (iop_slice_rsl (sz := E_ptree_Node.sz) (l := ((i + a1.length : Nat) : Int)) (h := ((a2.length + a1.length : Nat) : Int)) (m := (c : Int)) rfl rfl (lb rfl) Try.underlying30 ti56 (sv (d := .rsl _ _ _ _ _) rfl) ⟨_, (svI rfl)⟩ rfl rfl (by simp) (by omega) (by omega) (by omega) (by omega) rfl) <|
      ils_cons rfl (iop_overlaps rfl rfl (lb rfl) ex76 Try.underlying30 ti56 (svL rfl) (by intro e; have e9 := congrArg List.length e; rw [List.length_map, List.length_nil] at e9; omega) (sv (d := .rsl _ _ _ _ _) rfl) rfl (by intro e; have := congrArg List.length e; rw [hD0] at this; simp only [List.length_nil] at this; have h9 : 0 < (a2.length - i) * E_ptree_Node.sz := Nat.mul_pos (Nat.sub_pos_of_lt hin) hp; clear hnm hnm2 him; omega)) <|
      ils_cons rfl (iop_not rfl rfl (lb rfl) (svB rfl)) <| ils_end ?_)
     refine iwp_cond_t rfl rfl ?_
     obtain ⟨es, hes⟩ : ∃ es, es = ((D.flat (a2.map E_ptree_Node.d) ++ J).drop (i * E_ptree_Node.sz)).take ((a2.length + a1.length - i) * E_ptree_Node.sz) := ⟨_, rfl⟩
     have hes' : es.take ((a2.length - i) * E_ptree_Node.sz) = D.flat ((a2.drop i).map E_ptree_Node.d) := by
      rw [hes, List.take_take, Nat.min_eq_left (by omega), List.drop_append_of_le_length (by omega), E_ptree_Node.toEnc0.flat_drop, List.take_append_of_le_length (by rw [hXd]; exact Nat.le_refl _), ← hXd, List.take_length]
     have hesl : es.length = (a2.length + a1.length - i) * E_ptree_Node.sz := by
      rw [hes, List.length_take, List.length_drop, hD0]; omega
     have hres := ins_place (J := J) (Y := D.flat ((a2.drop i).map E_ptree_Node.d)) hXt hV hJm
     rw [← hXs] at hres
     refine iwp_drw rfl [⟨[0], [], [(69, .rsl 1000 E_ptree_Node.sz 0 (a2.length + a1.length) c)], []⟩, ⟨[1], [], [(70, .int .i64 (i : Int))], []⟩, ⟨[7], [], [(71, .int .i64 (a1.length : Int))], []⟩, ⟨[70, 71], [], [(72, .int .i64 ((i + a1.length : Nat) : Int))], []⟩,
      ⟨[69, 72], [], [(73, .rsl 1000 E_ptree_Node.sz ((i + a1.length) * E_ptree_Node.sz) (a2.length + a1.length - (i + a1.length)) (c - (i + a1.length)))], []⟩, ⟨[0], [], [(74, .rsl 1000 E_ptree_Node.sz 0 (a2.length + a1.length) c)], []⟩, ⟨[1], [], [(75, .int .i64 (i : Int))], []⟩, ⟨[74, 75], [], [(76, .rsl 1000 E_ptree_Node.sz (i * E_ptree_Node.sz) (a2.length + a1.length - i) (c - i))], []⟩,
      ⟨[73, 76], [1000], [(77, .int .i64 ((min (a2.length + a1.length - i) (a2.length + a1.length - (i + a1.length)) : Nat) : Int))], [(1000, .blk 56 (splice (D.flat (a2.map E_ptree_Node.d) ++ J) (i * E_ptree_Node.sz + a1.length * E_ptree_Node.sz) (D.flat ((a2.drop i).map E_ptree_Node.d))))]⟩] rfl ?_ (by kernel_rfl) ?_
     ·refine .cons (lop rfl rfl fun S hA => (iop_move rfl rfl (lb rfl) (sv (d := .rsl _ _ _ _ _) (agr hA rfl rfl)))) ?_
      refine .cons (lop rfl rfl fun S hA => (iop_move rfl rfl (lb rfl) (svaI hA rfl rfl))) ?_
      refine .cons (lop rfl rfl fun S hA => (iop_move rfl rfl (lb rfl) (svaI hA rfl rfl))) ?_
      refine .cons (lop rfl rfl fun S hA => (iop_intx rfl rfl (lb rfl) (svaI hA rfl rfl) (svaI hA rfl rfl) rfl w2)) ?_
      refine .cons (lop rfl rfl fun S hA => (iop_slice_rsl (sz := E_ptree_Node.sz) (l := ((i + a1.length : Nat) : Int)) (h := ((a2.length + a1.length : Nat) : Int)) (m := (c : Int)) (d := .rsl 1000 E_ptree_Node.sz ((i + a1.length) * E_ptree_Node.sz) (a2.length + a1.length - (i + a1.length)) (c - (i + a1.length))) rfl rfl (lb rfl) Try.underlying30 ti56 (sv (d := .rsl _ _ _ _ _) (agr hA rfl rfl)) ⟨_, (svaI hA rfl rfl)⟩ rfl rfl (by simp) (by omega) (by omega) (by omega) (by omega) (by simp only [Int.toNat_natCast, Nat.zero_add]))) ?_
      refine .cons (lop rfl rfl fun S hA => (iop_move rfl rfl (lb rfl) (sv (d := .rsl _ _ _ _ _) (agr hA rfl rfl)))) ?_
      refine .cons (lop rfl rfl fun S hA => (iop_move rfl rfl (lb rfl) (svaI hA rfl rfl))) ?_
      refine .cons (lop rfl rfl fun S hA => (iop_slice_rsl (sz := E_ptree_Node.sz) (l := (i : Int)) (h := ((a2.length + a1.length : Nat) : Int)) (m := (c : Int)) (d := .rsl 1000 E_ptree_Node.sz (i * E_ptree_Node.sz) (a2.length + a1.length - i) (c - i)) rfl rfl (lb rfl) Try.underlying30 ti56 (sv (d := .rsl _ _ _ _ _) (agr hA rfl rfl)) ⟨_, (svaI hA rfl rfl)⟩ rfl rfl (by simp) (by omega) (by omega) (by omega) (by omega) (by simp only [Int.toNat_natCast, Nat.zero_add]))) ?_
      refine .cons (lop rfl rfl fun S hA => (iop_copy_rsl (sz := E_ptree_Node.sz) (es := es) (ds' := splice (D.flat (a2.map E_ptree_Node.d) ++ J) (i * E_ptree_Node.sz + a1.length * E_ptree_Node.sz) (D.flat ((a2.drop i).map E_ptree_Node.d))) rfl rfl (lb rfl) Try.underlying30 ti56 (sv (d := .rsl _ _ _ _ _) (agr hA rfl rfl)) (agi hA rfl rfl) (hes ▸ src_rsl (sv (d := .rsl _ _ _ _ _) (agr hA rfl rfl)) (agi hA rfl rfl) (by rw [hD0]; omega)) hesl (by rw [show min (a2.length + a1.length - i) (a2.length + a1.length - (i + a1.length)) = a2.length - i by omega, hes']; exact E_ptree_Node.toEnc0.one _) (by rw [hD0, him, hnm2]; omega) rfl (by rw [show min (a2.length + a1.length - i) (a2.length + a1.length - (i + a1.length)) = a2.length - i by omega, hes', him]))) ?_
      exact .nil
     ·refine iwp_reg (ils_cons rfl (iop_move rfl rfl (lb rfl) (sv (d := .rsl _ _ _ _ _) rfl)) <| ils_cons rfl (mvI rfl rfl rfl rfl) <|
       ils_cons rfl (iop_slice_rsl (sz := E_ptree_Node.sz) (l := (i : Int)) (h := ((a2.length + a1.length : Nat) : Int)) (m := (c : Int)) (d := .rsl 1000 E_ptree_Node.sz (i * E_ptree_Node.sz) (a2.length + a1.length - i) (c - i)) rfl rfl (lb rfl) Try.underlying30 ti56 (sv (d := .rsl _ _ _ _ _) rfl) ⟨_, (svI rfl)⟩ rfl rfl (by simp) (by omega) (by omega) (by omega) (by omega) (by simp only [Int.toNat_natCast, Nat.zero_add])) <|
       ils_cons rfl (mvL rfl rfl rfl rfl) <|
       ils_cons rfl (iop_copy_rsl (sz := E_ptree_Node.sz) (ds' := D.flat (r.map E_ptree_Node.d) ++ J.drop (a1.length * E_ptree_Node.sz)) rfl rfl (lb rfl) Try.underlying30 ti56 (sv (d := .rsl _ _ _ _ _) rfl) rfl (src_T E_ptree_Node (ys := a1) (svL rfl)) hV (all_take' (E_ptree_Node.toEnc0.one a1) _) (by rw [length_splice', hD0]; omega; rw [hD0, hXd]; omega) rfl (by rw [hvt _ (by omega), hres, hR])) <| ils_end ?_)
      refine iwp_reg (ils_cons rfl (iop_move rfl rfl (lb rfl) (sv (d := .rsl _ _ _ _ _) rfl)) <| ils_cons rfl (iop_assign rfl rfl (lb rfl) (sv (d := .rsl _ _ _ _ _) rfl)) <| ils_end ?_)
      refine iwp_close 6 (id := 1000) rfl rfl (show (D.flat (r.map E_ptree_Node.d)).length = (a2.length + a1.length) * E_ptree_Node.sz by rw [hRl, hrl]) ?_
      refine iwp_ret ?_
      refine thenQ_r ?_
      refine ⟨.inr rfl, (fun i => if i = 0 then 1000 else i), ⟨.nil, (.cons (EntW.lst rfl) .nil), nd_of [1000] rfl (by decide), (fun i hi => by first | rfl | (show (if _ then _ else _) = _; (repeat' split) <;> omega))⟩, (.cons (sv (congrArg (D.osl _ _) hrl.symm)) .nil), rfl⟩

theorem p_fold_State_plant_h (a0 : Int) (a1 : Int) (a2 : T_fold_Op) (a3 : (List T_ptree_Node)) (a4 : (List Int)) (r : (Int × Int × (List T_ptree_Node) × (List Int) × Int)) (h : fold_State_plant_h a0 a1 a2 a3 a4 = some r) : FnH Try.prog 28 [.agg (w18 a0 a1 (.osl 1000 E_ptree_Node.sz a3.length) (.osl 1001 (eInt .i64).sz a4.length)), .agg (v2 a2)] [(1000, .blk 56 (D.flat (a3.map E_ptree_Node.d))), (1001, .blk 3 (D.flat (a4.map (eInt .i64).d)))] (retD [.agg (w18 r.1 r.2.1 (.osl 0 E_ptree_Node.sz r.2.2.1.length) (.osl 1 (eInt .i64).sz r.2.2.2.1.length)), .int .i64 r.2.2.2.2]) [(0, .blk 56 (D.flat (r.2.2.1.map E_ptree_Node.d))), (1, .blk 3 (D.flat (r.2.2.2.1.map (eInt .i64).d)))] := by
 refine fnh_of_iwp (rs := [.agg (w18 r.1 r.2.1 (.osl 0 E_ptree_Node.sz r.2.2.1.length) (.osl 1 (eInt .i64).sz r.2.2.2.1.length)), .int .i64 r.2.2.2.2]) Try.func28 rfl Try.ntmps28 (nle rfl) fun O hO => ?_
 show IWP _ _ _ _ ⟨[(0, .agg (w18 a0 a1 (.osl 1000 E_ptree_Node.sz a3.length) (.osl 1001 (eInt .i64).sz a4.length))), (1, .agg (v2 a2))], [(1000, .blk 56 (D.flat (a3.map E_ptree_Node.d))), (1001, .blk 3 (D.flat (a4.map (eInt .i64).d)))]⟩ _
 unfold fold_State_plant_h at h
 refine iwp_reg (ils_cons rfl (iop_box' (cs := q6) 0 rfl rfl (lb rfl) rfl (svA q6 rfl) rfl rfl) <|
  ils_cons rfl (iop_box' (cs := q4) 1 rfl rfl (lb rfl) rfl (svA q4 rfl) rfl rfl) <|
  ils_cons rfl (iop_allocS (cs := q10) (cs' := (w14 0 0 ([] : List T_ptree_Node) ([] : List Int))) 2 rfl rfl (lb rfl) rfl ti32 rfl rfl (.k (.k (.cons (.nils _) (.cons (.nils _) .nil))))) <|
  ils_cons rfl (iop_assign rfl rfl (lb rfl) (sv (d := .int _ 0) rfl)) <|
  ils_end ?_)
 refine iwp_seq ?_
 refine iwp_reg (ils_cons rfl (faR 1 rfl rfl rfl Try.underlying37 rfl ti3 (lb rfl) rfl rfl) <|
  ils_cons rfl (iop_load_rs (d := .int _ _) rfl rfl (lb rfl) Try.underlying3 ag3 ti3 (by decide) (svR rfl) rfl (nle rfl) rfl) <|
  ils_cons rfl (faR 3 rfl rfl rfl Try.underlying37 rfl ti3 (lb rfl) rfl rfl) <|
  ils_cons rfl (iop_load_rs (d := .int _ _) rfl rfl (lb rfl) Try.underlying3 ag3 ti3 (by decide) (svR rfl) rfl (nle rfl) rfl) <|
  ils_cons rfl (iop_build_struct (cs := q8) rfl rfl (lb rfl) Try.underlying56 ti56 pl56 rfl (.cons (svI rfl) (.cons (svI rfl) .nil)) rfl) <|
  ils_cons rfl (iop_allocS (cs := q8) (cs' := (w16 0 0 0 false)) 3 rfl rfl (lb rfl) rfl ti56 rfl rfl (.all _)) <|
  ils_cons rfl (stA q8 q8 ti56 rfl rfl rfl rfl rfl rfl rfl rfl (nle rfl) rfl) <|
  ils_end ?_)
 refine iwp_block ?_
 refine iwp_join (α := Bool) (fun z => ⟨[(2, .ref 0 0), (3, .ref 1 0), (4, .ref 2 0), (16, .bool z)], [(0, .blk 32 (w18 a0 a1 (.osl 1000 E_ptree_Node.sz a3.length) (.osl 1001 (eInt .i64).sz a4.length))), (1, .blk 37 (v2 a2)), (2, .blk 32 (w14 0 0 ([] : List T_ptree_Node) ([] : List Int))), (1000, .blk 56 (D.flat (a3.map E_ptree_Node.d))), (1001, .blk 3 (D.flat (a4.map (eInt .i64).d)))]⟩) (fun z => fold_State_plant_h_J0 a0 a1 a2 a3 a4 z = some r) ?_ ?_
 ·
  obtain ⟨x36, hx36, h⟩ := bno_e h
  refine iwp_reg (ils_cons rfl (lra q8 la56 rfl rfl rfl rfl rfl (nle rfl) rfl) <|
   ils_cons rfl (iop_call (r := .bool _) rfl rfl (lb rfl) cl40 (.cons (svA q8 rfl) .nil) rfl (p_fold_wrong _ _ hx36)) <|
   ils_cons rfl (asB rfl rfl rfl rfl) <|
   ils_end ?_)
  refine iwp_cond (b := _) rfl (fun hc37 => ?_) (fun hc37 => ?_)
  ·
   replace h := bif_t h hc37
   refine iwp_skip ?_
   refine thenQ_n ⟨x36, (fun i => i), ⟨(.sames rfl rfl), (.cons (.blk rfl rfl rfl) (.cons (.blk rfl rfl rfl) (.cons (.blk rfl rfl rfl) (.cons (EntW.lst rfl) (.cons (EntW.lst rfl) .nil))))), nd_of [0, 1, 2, 1000, 1001] rfl (by decide), fun _ _ => rfl⟩, ?_⟩
   exact h
  ·
   replace h := bif_f h hc37
   obtain ⟨x38, hx38, h⟩ := bnd_e h
   refine iwp_reg (ils_cons rfl (faR 2 rfl rfl rfl Try.underlying37 rfl ti3 (lb rfl) rfl rfl) <|
    ils_cons rfl (iop_load_rs (d := .int _ _) rfl rfl (lb rfl) Try.underlying3 ag3 ti3 (by decide) (svR rfl) rfl (nle rfl) rfl) <|
    ils_cons rfl (iop_cmpx rfl rfl (lb rfl) (svI rfl) (sv (d := .int _ 0) rfl) rfl hx38) <|
    ils_cons rfl (asB rfl rfl rfl rfl) <|
    ils_end ?_)
   refine iwp_cond (b := _) rfl (fun hc39 => ?_) (fun hc39 => ?_)
   ·
    replace h := bif_t h hc39
    refine iwp_skip ?_
    refine thenQ_n ⟨x38, (fun i => i), ⟨(.sames rfl rfl), (.cons (.blk rfl rfl rfl) (.cons (.blk rfl rfl rfl) (.cons (.blk rfl rfl rfl) (.cons (EntW.lst rfl) (.cons (EntW.lst rfl) .nil))))), nd_of [0, 1, 2, 1000, 1001] rfl (by decide), fun _ _ => rfl⟩, ?_⟩
    exact h
   ·
    replace h := bif_f h hc39
    obtain ⟨x40, hx40, h⟩ := bnd_e h
    refine iwp_region (ils_cons rfl (faR 2 rfl rfl rfl Try.underlying37 rfl ti3 (lb rfl) rfl rfl) <|
     ils_cons rfl (iop_load_rs (d := .int _ _) rfl rfl (lb rfl) Try.underlying3 ag3 ti3 (by decide) (svR rfl) rfl (nle rfl) rfl) <|
     ils_cons rfl (iop_cmpx rfl rfl (lb rfl) (svI rfl) (sv (d := .int _ 1048576) rfl) rfl hx40) <|
     ils_cons rfl (asB rfl rfl rfl rfl) <|
     ils_nil ?_)
    refine thenQ_n ⟨x40, (fun i => i), ⟨(.sames rfl rfl), (.cons (.blk rfl rfl rfl) (.cons (.blk rfl rfl rfl) (.cons (.blk rfl rfl rfl) (.cons (EntW.lst rfl) (.cons (EntW.lst rfl) .nil))))), nd_of [0, 1, 2, 1000, 1001] rfl (by decide), fun _ _ => rfl⟩, ?_⟩
    exact h
 ·
  rintro v6 h
  unfold fold_State_plant_h_J0 at h
  refine iwp_cond (b := _) rfl (fun hc7 => ?_) (fun hc7 => ?_)
  ·
   replace h := bif_t h hc7
   refine iwp_reg (ils_cons rfl (lra q6 la32 rfl rfl rfl rfl rfl (nle rfl) rfl) <|
    ils_cons rfl (stA q6 q6 ti32 rfl rfl rfl rfl rfl rfl rfl rfl (nle rfl) rfl) <|
    ils_cons rfl (iop_assign rfl rfl (lb rfl) (sv (d := .int _ 8) rfl)) <|
    ils_end ?_)
   refine iwp_ret ?_
   refine blockQ_r ?_
   refine thenQ_r ?_
   obtain rfl := Option.some.inj h
   refine ⟨.inr rfl, (fun i => if i = 0 then 1000 else if i = 1 then 1001 else i), ⟨.nil, (.cons (EntW.lst rfl) (.cons (EntW.lst rfl) .nil)), nd_of [1000, 1001] rfl (by decide), (fun i hi => by first | rfl | (show (if _ then _ else _) = _; (repeat' split) <;> omega))⟩, (.cons (rva la32 rfl rfl (nle rfl) rfl) (.cons (sv rfl) .nil)), rfl⟩
  ·
   replace h := bif_f h hc7
   obtain ⟨x8, hx8, h⟩ := bnd_e h
   refine iwp_reg (ils_cons rfl (faR 1 rfl rfl rfl Try.underlying37 rfl ti3 (lb rfl) rfl rfl) <|
    ils_cons rfl (iop_load_rs (d := .int _ _) rfl rfl (lb rfl) Try.underlying3 ag3 ti3 (by decide) (svR rfl) rfl (nle rfl) rfl) <|
    ils_cons rfl (faR 2 rfl rfl rfl Try.underlying37 rfl ti3 (lb rfl) rfl rfl) <|
    ils_cons rfl (iop_load_rs (d := .int _ _) rfl rfl (lb rfl) Try.underlying3 ag3 ti3 (by decide) (svR rfl) rfl (nle rfl) rfl) <|
    ils_cons rfl (iop_cmpx rfl rfl (lb rfl) (svI rfl) (svI rfl) rfl hx8) <|
    ils_cons rfl (asB rfl rfl rfl rfl) <|
    ils_end ?_)
   refine iwp_cond (b := _) rfl (fun hc9 => ?_) (fun hc9 => ?_)
   ·
    replace h := bif_t h hc9
    refine iwp_reg (ils_cons rfl (lra q6 la32 rfl rfl rfl rfl rfl (nle rfl) rfl) <|
     ils_cons rfl (stA q6 q6 ti32 rfl rfl rfl rfl rfl rfl rfl rfl (nle rfl) rfl) <|
     ils_cons rfl (iop_assign rfl rfl (lb rfl) (sv (d := .int _ 4) rfl)) <|
     ils_end ?_)
    refine iwp_ret ?_
    refine blockQ_r ?_
    refine thenQ_r ?_
    obtain rfl := Option.some.inj h
    refine ⟨.inr rfl, (fun i => if i = 0 then 1000 else if i = 1 then 1001 else i), ⟨.nil, (.cons (EntW.lst rfl) (.cons (EntW.lst rfl) .nil)), nd_of [1000, 1001] rfl (by decide), (fun i hi => by first | rfl | (show (if _ then _ else _) = _; (repeat' split) <;> omega))⟩, (.cons (rva la32 rfl rfl (nle rfl) rfl) (.cons (sv rfl) .nil)), rfl⟩
   ·
    replace h := bif_f h hc9
    refine iwp_skip ?_
    refine blockQ_n ?_
    refine thenQ_n ?_
    refine iwp_seq ?_
    obtain ⟨x10, hx10, h⟩ := bno_e h
    refine iwp_reg (ils_cons rfl (lra q6 la32 rfl rfl rfl rfl rfl (nle rfl) rfl) <|
     ils_cons rfl (faR 1 rfl rfl rfl Try.underlying37 rfl ti3 (lb rfl) rfl rfl) <|
     ils_cons rfl (iop_load_rs (d := .int _ _) rfl rfl (lb rfl) Try.underlying3 ag3 ti3 (by decide) (svR rfl) rfl (nle rfl) rfl) <|
     ils_cons rfl (iop_callp (r := .tuple [.int .i64 x10.1, .bool x10.2]) rfl rfl (lb rfl) cl30 (.cons (svA q6 rfl) (.cons (svI rfl) .nil)) (.cons (.agg (.k (.k (.cons (FDT E_ptree_Node rfl rfl) (.cons (FDT (eInt .i64) rfl rfl) .nil))))) (.all _)) rfl rfl (p_fold_State_find _ _ _ hx10)) <|
     ils_cons rfl (iop_move rfl rfl (lb rfl) (sv (d := .tuple q13) rfl)) <|
     ils_cons rfl (iop_extract (d := .int _ _) rfl rfl (lb rfl) (sv (d := .tuple q13) rfl) rfl) <|
     ils_cons rfl (iop_extract (d := .bool _) rfl rfl (lb rfl) (sv (d := .tuple q13) rfl) rfl) <|
     ils_cons rfl (asI rfl rfl rfl rfl) <|
     ils_cons rfl (asB rfl rfl rfl rfl) <|
     ils_end ?_)
    refine iwp_reg (ils_cons rfl (mvB rfl rfl rfl rfl) <|
     ils_end ?_)
    refine iwp_cond (b := _) rfl (fun hc11 => ?_) (fun hc11 => ?_)
    ·
     replace h := bif_t h hc11
     refine iwp_seq ?_
     obtain ⟨x12, hx12, h⟩ := bnd_e h
     refine iwp_reg (ils_cons rfl (faR 0 rfl rfl rfl Try.underlying37 rfl ti5 (lb rfl) rfl rfl) <|
      ils_cons rfl (iop_load_rs (d := .int _ _) rfl rfl (lb rfl) Try.underlying5 ag5 ti5 (by decide) (svR rfl) rfl (nle rfl) rfl) <|
      ils_cons rfl (iop_cmpx rfl rfl (lb rfl) (svI rfl) (sv (d := .int _ 0) rfl) rfl hx12) <|
      ils_end ?_)
     refine iwp_cond (b := _) rfl (fun hc13 => ?_) (fun hc13 => ?_)
     ·
      replace h := bif_t h hc13
      refine iwp_reg (ils_cons rfl (lra q6 la32 rfl rfl rfl rfl rfl (nle rfl) rfl) <|
       ils_cons rfl (stA q6 q6 ti32 rfl rfl rfl rfl rfl rfl rfl rfl (nle rfl) rfl) <|
       ils_cons rfl (iop_assign rfl rfl (lb rfl) (sv (d := .int _ 13) rfl)) <|
       ils_end ?_)
      refine iwp_ret ?_
      refine thenQ_r ?_
      refine thenQ_r ?_
      obtain rfl := Option.some.inj h
      refine ⟨.inr rfl, (fun i => if i = 0 then 1000 else if i = 1 then 1001 else i), ⟨.nil, (.cons (EntW.lst rfl) (.cons (EntW.lst rfl) .nil)), nd_of [1000, 1001] rfl (by decide), (fun i hi => by first | rfl | (show (if _ then _ else _) = _; (repeat' split) <;> omega))⟩, (.cons (rva la32 rfl rfl (nle rfl) rfl) (.cons (sv rfl) .nil)), rfl⟩
     ·
      replace h := bif_f h hc13
      refine iwp_skip ?_
      refine thenQ_n ?_
      obtain ⟨x14, hx14, h⟩ := bno_e h
      refine iwp_reg (ils_cons rfl (lra q6 la32 rfl rfl rfl rfl rfl (nle rfl) rfl) <|
       ils_cons rfl (lra q4 la37 rfl rfl rfl rfl rfl (nle rfl) rfl) <|
       ils_cons rfl (iop_callh2 (r' := .agg (w18 x14.1 x14.2.1 (.osl 3 E_ptree_Node.sz x14.2.2.1.length) (.osl 4 (eInt .i64).sz x14.2.2.2.length))) (H1' := [(3, .blk 56 (D.flat (x14.2.2.1.map E_ptree_Node.d))), (4, .blk 3 (D.flat (x14.2.2.2.map (eInt .i64).d)))]) 3 [1000, 1001] rfl rfl (lb rfl) cl61 (.cons (svA q6 rfl) (.cons (svA q4 rfl) .nil)) rfl rfl ⟨rfl, rfl, by decide, rfl, List.forall_mem_cons.2 ⟨⟨rfl, rfl, (handL E_ptree_Node rfl), (handLr E_ptree_Node)⟩, List.forall_mem_cons.2 ⟨⟨rfl, rfl, (handL (eInt .i64) rfl), (handLr (eInt .i64))⟩, List.forall_mem_nil _⟩⟩⟩ (p_fold_State_hang_h _ _ _ _ _ _ hx14) rfl rfl (List.forall_mem_cons.2 ⟨⟨rfl, (handLr E_ptree_Node)⟩, List.forall_mem_cons.2 ⟨⟨rfl, (handLr (eInt .i64))⟩, List.forall_mem_nil _⟩⟩) (by simp only [List.map_cons, List.map_nil, Ent.ren, renL_flat, renL_ref]; rfl)) <|
       ils_cons rfl (stA q6 q6 ti32 rfl rfl rfl rfl rfl rfl rfl rfl (nle rfl) rfl) <|
       ils_cons rfl (iop_assign rfl rfl (lb rfl) (sv (d := .int _ 0) rfl)) <|
       ils_end ?_)
      refine iwp_ret ?_
      refine thenQ_r ?_
      obtain rfl := Option.some.inj h
      refine ⟨.inr rfl, (fun i => if i = 0 then 3 else if i = 1 then 4 else i), ⟨.nil, (.cons (EntW.lst rfl) (.cons (EntW.lst rfl) .nil)), nd_of [3, 4] rfl (by decide), (fun i hi => by first | rfl | (show (if _ then _ else _) = _; (repeat' split) <;> omega))⟩, (.cons (rva la32 rfl rfl (nle rfl) rfl) (.cons (sv rfl) .nil)), rfl⟩
    ·
     replace h := bif_f h hc11
     refine iwp_skip ?_
     refine thenQ_n ?_
     refine iwp_join (α := Int × Int × (List T_ptree_Node) × (List Int)) (fun z => ⟨[(2, .ref 0 0), (3, .ref 1 0), (4, .ref 2 0)], [(0, .blk 32 (w18 z.1 z.2.1 (.osl 3 E_ptree_Node.sz z.2.2.1.length) (.osl 4 (eInt .i64).sz z.2.2.2.length))), (1, .blk 37 (v2 a2)), (2, .blk 32 (w14 0 0 ([] : List T_ptree_Node) ([] : List Int))), (3, .blk 56 (D.flat (z.2.2.1.map E_ptree_Node.d))), (4, .blk 3 (D.flat (z.2.2.2.map (eInt .i64).d)))]⟩) (fun z => fold_State_plant_h_J1 a2 z.1 z.2.1 z.2.2.1 z.2.2.2 = some r) ?_ ?_
     ·
      obtain ⟨x29, hx29, h⟩ := bnd_e h
      refine iwp_reg (ils_cons rfl (faR 2 rfl rfl rfl Try.underlying32 rfl ti30 (lb rfl) rfl rfl) <|
       ils_cons rfl (iop_load_rs (d := .osl _ _ _) rfl rfl (lb rfl) Try.underlying30 ag30 ti30 (by decide) (svR rfl) rfl (nle rfl) rfl) <|
       ils_cons rfl (iop_lenO rfl rfl (lb rfl) Try.underlying30 (sv (d := .osl _ _ _) rfl)) <|
       ils_cons rfl (faR 0 rfl rfl rfl Try.underlying32 rfl ti3 (lb rfl) rfl rfl) <|
       ils_cons rfl (iop_load_rs (d := .int _ _) rfl rfl (lb rfl) Try.underlying3 ag3 ti3 (by decide) (svR rfl) rfl (nle rfl) rfl) <|
       ils_cons rfl (iop_cmpx rfl rfl (lb rfl) (svI rfl) (svI rfl) rfl hx29) <|
       ils_end ?_)
      refine iwp_cond (b := _) rfl (fun hc30 => ?_) (fun hc30 => ?_)
      ·
       replace h := bif_t h hc30
       refine iwp_seq ?_
       obtain ⟨x31, hx31, h⟩ := bnd_e h
       refine iwp_reg (ils_cons rfl (faR 3 rfl rfl rfl Try.underlying32 rfl ti23 (lb rfl) rfl rfl) <|
        ils_cons rfl (iop_load_rs (d := .osl _ _ _) rfl rfl (lb rfl) Try.underlying23 ag23 ti23 (by decide) (svR rfl) rfl (nle rfl) rfl) <|
        ils_cons rfl (iop_lenO rfl rfl (lb rfl) Try.underlying23 (sv (d := .osl _ _ _) rfl)) <|
        ils_cons rfl (iop_cmpx rfl rfl (lb rfl) (svI rfl) (sv (d := .int _ 0) rfl) rfl hx31) <|
        ils_end ?_)
       refine iwp_cond (b := _) rfl (fun hc32 => ?_) (fun hc32 => ?_)
       ·
        replace h := bif_t h hc32
        refine iwp_reg (ils_cons rfl (lra q6 la32 rfl rfl rfl rfl rfl (nle rfl) rfl) <|
         ils_cons rfl (stA q6 q6 ti32 rfl rfl rfl rfl rfl rfl rfl rfl (nle rfl) rfl) <|
         ils_cons rfl (iop_assign rfl rfl (lb rfl) (sv (d := .int _ 7) rfl)) <|
         ils_end ?_)
        refine iwp_ret ?_
        refine thenQ_r ?_
        refine thenQ_r ?_
        obtain rfl := Option.some.inj h
        refine ⟨.inr rfl, (fun i => if i = 0 then 1000 else if i = 1 then 1001 else i), ⟨.nil, (.cons (EntW.lst rfl) (.cons (EntW.lst rfl) .nil)), nd_of [1000, 1001] rfl (by decide), (fun i hi => by first | rfl | (show (if _ then _ else _) = _; (repeat' split) <;> omega))⟩, (.cons (rva la32 rfl rfl (nle rfl) rfl) (.cons (sv rfl) .nil)), rfl⟩
       ·
        replace h := bif_f h hc32
        refine iwp_skip ?_
        refine thenQ_n ?_
        obtain ⟨x33, hx33, h⟩ := bno_e h
        obtain ⟨x34, hx34, h⟩ := bno_e h
        obtain ⟨x35, hx35, h⟩ := bno_e h
        refine iwp_draw rfl [⟨[2], [0], [(59, .agg (w18 a0 a1 (.osl 1000 E_ptree_Node.sz a3.length) (.osl 1001 (eInt .i64).sz a4.length)))], []⟩,
         ⟨[2], [], [(60, .ref 0 3)], []⟩,
         ⟨[60], [0], [(61, .osl 1001 (eInt .i64).sz a4.length)], []⟩,
         ⟨[61], [], [(62, .ref 1001 (((0 : Int).toNat) * (eInt .i64).sz + 0))], []⟩,
         ⟨[62], [1001], [(63, .int .i64 x34)], []⟩,
         ⟨[59, 63], [3, 4, 1000, 1001], [(64, .agg (w18 x35.1 x35.2.1 (.osl 3 E_ptree_Node.sz x35.2.2.1.length) (.osl 4 (eInt .i64).sz x35.2.2.2.length)))], [(3, .blk 56 (D.flat (x35.2.2.1.map E_ptree_Node.d))), (4, .blk 3 (D.flat (x35.2.2.2.map (eInt .i64).d))), (1000, .none), (1001, .none)]⟩,
         ⟨[2, 64], [0], [], [(0, .blk 32 (w18 x35.1 x35.2.1 (.osl 3 E_ptree_Node.sz x35.2.2.1.length) (.osl 4 (eInt .i64).sz x35.2.2.2.length)))]⟩] rfl ?_ (by kernel_rfl) ?_
        ·refine .cons (lop rfl rfl fun S hA => (iop_load_ra (cs := q6) rfl rfl (lb rfl) Try.underlying32 ag32 ti32 (by decide) (svaR hA rfl rfl) (agi hA rfl rfl) (nle rfl) rfl)) ?_
         refine .cons (lop rfl rfl fun S hA => (iop_fieldAddr_ref rfl rfl (lb rfl) Try.underlying32 rfl ti23 (by decide) (svaR hA rfl rfl) (off' := 3) rfl)) ?_
         refine .cons (lop rfl rfl fun S hA => (iop_load_rs (d := .osl _ _ _) rfl rfl (lb rfl) Try.underlying23 ag23 ti23 (by decide) (svaR hA rfl rfl) (agi hA rfl rfl) (nle rfl) rfl)) ?_
         refine .cons (lop rfl rfl fun S hA => (iop_idxO (eInt .i64).toEnc0 rfl rfl (lb rfl) Try.underlying23 ti3 (sv (d := .osl _ _ _) (agr hA rfl rfl)) rfl (sv (d := .int _ 0) rfl) hx33)) ?_
         refine .cons (lop rfl rfl fun S hA => (iop_loadEs (eInt .i64).toEnc0 (d := .int _ _) rfl rfl (lb rfl) Try.underlying3 ag3 ti3 (by decide) (svaR hA rfl rfl) (agi hA rfl rfl) hx34 (nle rfl) rfl)) ?_
         refine .cons (lop rfl rfl fun S hA => (iop_callM (r' := .agg (w18 x35.1 x35.2.1 (.osl 3 E_ptree_Node.sz x35.2.2.1.length) (.osl 4 (eInt .i64).sz x35.2.2.2.length))) (U := [(3, .blk 56 (D.flat (x35.2.2.1.map E_ptree_Node.d))), (4, .blk 3 (D.flat (x35.2.2.2.map (eInt .i64).d))), (1000, .none), (1001, .none)]) 3 2 [1000, 1001] rfl rfl (lb rfl) cl31 (.cons (svaA q6 hA rfl rfl) (.cons (svaI hA rfl rfl) .nil)) rfl rfl rfl (List.forall_mem_cons.2 ⟨(agi hA rfl rfl), List.forall_mem_cons.2 ⟨(agi hA rfl rfl), List.forall_mem_nil _⟩⟩) ⟨by decide, rfl, List.forall_mem_cons.2 ⟨⟨rfl, rfl, (handL E_ptree_Node (agi hA rfl rfl)), (handLr E_ptree_Node)⟩, List.forall_mem_cons.2 ⟨⟨rfl, rfl, (handL (eInt .i64) (agi hA rfl rfl)), (handLr (eInt .i64))⟩, List.forall_mem_nil _⟩⟩⟩ (p_fold_State_off_h _ _ _ _ _ _ hx35) rfl rfl (List.forall_mem_cons.2 ⟨⟨rfl, (handLr E_ptree_Node)⟩, List.forall_mem_cons.2 ⟨⟨rfl, (handLr (eInt .i64))⟩, List.forall_mem_nil _⟩⟩) (by simp only [List.map_cons, List.map_nil, Ent.ren, renL_flat, renL_ref]; rfl))) ?_
         refine .cons (lop rfl rfl fun S hA => (iop_store (ds' := q6) rfl rfl ti32 (svaR hA rfl rfl) (agi hA rfl rfl) (svaA q6 hA rfl rfl) rfl rfl rfl (nle rfl) rfl)) ?_
         exact .nil
        refine thenQ_n ⟨(x35.1, x35.2.1, x35.2.2.1, x35.2.2.2), (fun i => i), ⟨(.sames rfl rfl), (.cons (.blk rfl rfl rfl) (.cons (.blk rfl rfl rfl) (.cons (.blk rfl rfl rfl) (.cons (EntW.lst rfl) (.cons (EntW.lst rfl) .nil))))), nd_of [0, 1, 2, 3, 4] rfl (by decide), fun _ _ => rfl⟩, ?_⟩
        exact h
      ·
       replace h := bif_f h hc30
       refine iwp_skip ?_
       refine thenQ_n ⟨(a0, a1, a3, a4), (fun i => if i = 3 then 1000 else if i = 4 then 1001 else i), ⟨(.sames rfl rfl), (.cons (.blk rfl rfl rfl) (.cons (.blk rfl rfl rfl) (.cons (.blk rfl rfl rfl) (.cons (EntW.lst rfl) (.cons (EntW.lst rfl) .nil))))), nd_of [0, 1, 2, 1000, 1001] rfl (by decide), (fun i hi => by first | rfl | (show (if _ then _ else _) = _; (repeat' split) <;> omega))⟩, ?_⟩
       exact h
     ·
      rintro ⟨v22, v23, v24, v25⟩ h
      unfold fold_State_plant_h_J1 at h
      obtain ⟨x26, hx26, h⟩ := bno_e h
      refine iwp_reg (ils_cons rfl (lra q6 la32 rfl rfl rfl rfl rfl (nle rfl) rfl) <|
       ils_cons rfl (faR 1 rfl rfl rfl Try.underlying37 rfl ti3 (lb rfl) rfl rfl) <|
       ils_cons rfl (iop_load_rs (d := .int _ _) rfl rfl (lb rfl) Try.underlying3 ag3 ti3 (by decide) (svR rfl) rfl (nle rfl) rfl) <|
       ils_cons rfl (iop_callp (r := .tuple [.int .i64 x26.1, .bool x26.2]) rfl rfl (lb rfl) cl30 (.cons (svA q6 rfl) (.cons (svI rfl) .nil)) (.cons (.agg (.k (.k (.cons (FDT E_ptree_Node rfl rfl) (.cons (FDT (eInt .i64) rfl rfl) .nil))))) (.all _)) rfl rfl (p_fold_State_find _ _ _ hx26)) <|
       ils_cons rfl (iop_move rfl rfl (lb rfl) (sv (d := .tuple q13) rfl)) <|
       ils_cons rfl (iop_extract (d := .int _ _) rfl rfl (lb rfl) (sv (d := .tuple q13) rfl) rfl) <|
       ils_cons rfl (iop_extract (d := .bool _) rfl rfl (lb rfl) (sv (d := .tuple q13) rfl) rfl) <|
       ils_cons rfl (asI rfl rfl rfl rfl) <|
       ils_cons rfl (asB rfl rfl rfl rfl) <|
       ils_end ?_)
      obtain ⟨x27, hx27, h⟩ := bno_e h
      refine iwp_reg (ils_cons rfl (faR 2 rfl rfl rfl Try.underlying32 rfl ti30 (lb rfl) rfl rfl) <|
       ils_cons rfl (iop_load_rs (d := .osl _ _ _) rfl rfl (lb rfl) Try.underlying30 ag30 ti30 (by decide) (svR rfl) rfl (nle rfl) rfl) <|
       ils_cons rfl (mvI rfl rfl rfl rfl) <|
       ils_cons rfl (faR 1 rfl rfl rfl Try.underlying37 rfl ti3 (lb rfl) rfl rfl) <|
       ils_cons rfl (iop_load_rs (d := .int _ _) rfl rfl (lb rfl) Try.underlying3 ag3 ti3 (by decide) (svR rfl) rfl (nle rfl) rfl) <|
       ils_cons rfl (faR 1 rfl rfl rfl Try.underlying37 rfl ti3 (lb rfl) rfl rfl) <|
       ils_cons rfl (iop_load_rs (d := .int _ _) rfl rfl (lb rfl) Try.underlying3 ag3 ti3 (by decide) (svR rfl) rfl (nle rfl) rfl) <|
       ils_cons rfl (iop_build_struct (cs := q8) rfl rfl (lb rfl) Try.underlying56 ti56 pl56 rfl (.cons (svI rfl) (.cons (svI rfl) (.cons (sv (d := .int _ 16) rfl) .nil))) rfl) <|
       ils_cons rfl (iop_bsT E_ptree_Node ([(⟨a2.ID, a2.ID, 16, false⟩ : T_ptree_Node)] : (List T_ptree_Node)) 5 rfl rfl (lb rfl) Try.underlying30 ti56 rfl (.cons (svA q8 rfl) .nil) rfl rfl (by decide)) <|
       ils_cons rfl (iop_callh2 (r' := .osl 6 E_ptree_Node.sz x27.length) (H1' := [(6, .blk 56 (D.flat (x27.map E_ptree_Node.d)))]) 6 [3] rfl rfl (lb rfl) cl62 (.cons (sv (d := .osl _ _ _) rfl) (.cons (svI rfl) (.cons (svg rfl) .nil))) rfl rfl ⟨rfl, rfl, by decide, rfl, List.forall_mem_cons.2 ⟨⟨rfl, rfl, (handL E_ptree_Node rfl), (handLr E_ptree_Node)⟩, List.forall_mem_nil _⟩⟩ (p_slices_Insert_ptree_Node_ptree_Node_h _ _ _ _ hx27) rfl rfl (List.forall_mem_cons.2 ⟨⟨rfl, (handLr E_ptree_Node)⟩, List.forall_mem_nil _⟩) (by simp only [List.map_cons, List.map_nil, Ent.ren, renL_flat, renL_ref]; rfl)) <|
       ils_cons rfl (faR 2 rfl rfl rfl Try.underlying32 rfl ti30 (lb rfl) rfl rfl) <|
       ils_cons rfl (iop_store (ds' := q6) rfl rfl ti30 (svR rfl) rfl (sv (d := .osl _ _ _) rfl) rfl rfl rfl (nle rfl) rfl) <|
       ils_end ?_)
      obtain ⟨x28, hx28, h⟩ := bno_e h
      refine iwp_reg (ils_cons rfl (lra q6 la32 rfl rfl rfl rfl rfl (nle rfl) rfl) <|
       ils_cons rfl (lra q4 la37 rfl rfl rfl rfl rfl (nle rfl) rfl) <|
       ils_cons rfl (iop_callh2 (r' := .agg (w18 x28.1 x28.2.1 (.osl 7 E_ptree_Node.sz x28.2.2.1.length) (.osl 8 (eInt .i64).sz x28.2.2.2.length))) (H1' := [(7, .blk 56 (D.flat (x28.2.2.1.map E_ptree_Node.d))), (8, .blk 3 (D.flat (x28.2.2.2.map (eInt .i64).d)))]) 7 [6, 4] rfl rfl (lb rfl) cl61 (.cons (svA q6 rfl) (.cons (svA q4 rfl) .nil)) rfl rfl ⟨rfl, rfl, by decide, rfl, List.forall_mem_cons.2 ⟨⟨rfl, rfl, (handL E_ptree_Node rfl), (handLr E_ptree_Node)⟩, List.forall_mem_cons.2 ⟨⟨rfl, rfl, (handL (eInt .i64) rfl), (handLr (eInt .i64))⟩, List.forall_mem_nil _⟩⟩⟩ (p_fold_State_hang_h _ _ _ _ _ _ hx28) rfl rfl (List.forall_mem_cons.2 ⟨⟨rfl, (handLr E_ptree_Node)⟩, List.forall_mem_cons.2 ⟨⟨rfl, (handLr (eInt .i64))⟩, List.forall_mem_nil _⟩⟩) (by simp only [List.map_cons, List.map_nil, Ent.ren, renL_flat, renL_ref]; rfl)) <|
       ils_cons rfl (stA q6 q6 ti32 rfl rfl rfl rfl rfl rfl rfl rfl (nle rfl) rfl) <|
       ils_cons rfl (iop_assign rfl rfl (lb rfl) (sv (d := .int _ 0) rfl)) <|
       ils_end ?_)
      refine iwp_ret ?_
      obtain rfl := Option.some.inj h
      refine ⟨.inr rfl, (fun i => if i = 0 then 7 else if i = 1 then 8 else i), ⟨.nil, (.cons (EntW.lst rfl) (.cons (EntW.lst rfl) .nil)), nd_of [7, 8] rfl (by decide), (fun i hi => by first | rfl | (show (if _ then _ else _) = _; (repeat' split) <;> omega))⟩, (.cons (rva la32 rfl rfl (nle rfl) rfl) (.cons (sv rfl) .nil)), rfl⟩

theorem p_fold_State_shut_h (a0 : Int) (a1 : Int) (a2 : Int) (a3 : (List T_ptree_Node)) (a4 : (List Int)) (r : (Int × Int × (List T_ptree_Node) × (List Int) × Int)) (h : fold_State_shut_h a0 a1 a2 a3 a4 = some r) : FnH Try.prog 29 [.agg (w18 a0 a1 (.osl 1000 E_ptree_Node.sz a3.length) (.osl 1001 (eInt .i64).sz a4.length)), .int .i64 a2] [(1000, .blk 56 (D.flat (a3.map E_ptree_Node.d))), (1001, .blk 3 (D.flat (a4.map (eInt .i64).d)))] (retD [.agg (w18 r.1 r.2.1 (.osl 0 E_ptree_Node.sz r.2.2.1.length) (.osl 1 (eInt .i64).sz r.2.2.2.1.length)), .int .i64 r.2.2.2.2]) [(0, .blk 56 (D.flat (r.2.2.1.map E_ptree_Node.d))), (1, .blk 3 (D.flat (r.2.2.2.1.map (eInt .i64).d)))] := by
 refine fnh_of_iwp (rs := [.agg (w18 r.1 r.2.1 (.osl 0 E_ptree_Node.sz r.2.2.1.length) (.osl 1 (eInt .i64).sz r.2.2.2.1.length)), .int .i64 r.2.2.2.2]) Try.func29 rfl Try.ntmps29 (nle rfl) fun O hO => ?_
 show IWP _ _ _ _ ⟨[(0, .agg (w18 a0 a1 (.osl 1000 E_ptree_Node.sz a3.length) (.osl 1001 (eInt .i64).sz a4.length))), (1, .int .i64 a2)], [(1000, .blk 56 (D.flat (a3.map E_ptree_Node.d))), (1001, .blk 3 (D.flat (a4.map (eInt .i64).d)))]⟩ _
 unfold fold_State_shut_h at h
 refine iwp_reg (ils_cons rfl (iop_box' (cs := q6) 0 rfl rfl (lb rfl) rfl (svA q6 rfl) rfl rfl) <|
  ils_cons rfl (iop_allocS (cs := q10) (cs' := (w14 0 0 ([] : List T_ptree_Node) ([] : List Int))) 1 rfl rfl (lb rfl) rfl ti32 rfl rfl (.k (.k (.cons (.nils _) (.cons (.nils _) .nil))))) <|
  ils_cons rfl (iop_assign rfl rfl (lb rfl) (sv (d := .int _ 0) rfl)) <|
  ils_end ?_)
 obtain ⟨x1, hx1, h⟩ := bno_e h
 refine iwp_reg (ils_cons rfl (lra q6 la32 rfl rfl rfl rfl rfl (nle rfl) rfl) <|
  ils_cons rfl (mvI rfl rfl rfl rfl) <|
  ils_cons rfl (iop_callp (r := .tuple [.int .i64 x1.1, .bool x1.2]) rfl rfl (lb rfl) cl30 (.cons (svA q6 rfl) (.cons (svI rfl) .nil)) (.cons (.agg (.k (.k (.cons (FDT E_ptree_Node rfl rfl) (.cons (FDT (eInt .i64) rfl rfl) .nil))))) (.all _)) rfl rfl (p_fold_State_find _ _ _ hx1)) <|
  ils_cons rfl (iop_move rfl rfl (lb rfl) (sv (d := .tuple q13) rfl)) <|
  ils_cons rfl (iop_extract (d := .int _ _) rfl rfl (lb rfl) (sv (d := .tuple q13) rfl) rfl) <|
  ils_cons rfl (iop_extract (d := .bool _) rfl rfl (lb rfl) (sv (d := .tuple q13) rfl) rfl) <|
  ils_cons rfl (asI rfl rfl rfl rfl) <|
  ils_cons rfl (asB rfl rfl rfl rfl) <|
  ils_end ?_)
 refine iwp_seq ?_
 refine iwp_block ?_
 refine iwp_reg (ils_cons rfl (mvB rfl rfl rfl rfl) <|
  ils_cons rfl (iop_not rfl rfl (lb rfl) (svB rfl)) <|
  ils_cons rfl (asB rfl rfl rfl rfl) <|
  ils_end ?_)
 refine iwp_cond (b := _) rfl (fun hc2 => ?_) (fun hc2 => ?_)
 ·
  replace h := bif_t h hc2
  refine iwp_reg (ils_cons rfl (lra q6 la32 rfl rfl rfl rfl rfl (nle rfl) rfl) <|
   ils_cons rfl (stA q6 q6 ti32 rfl rfl rfl rfl rfl rfl rfl rfl (nle rfl) rfl) <|
   ils_cons rfl (iop_assign rfl rfl (lb rfl) (sv (d := .int _ 6) rfl)) <|
   ils_end ?_)
  refine iwp_ret ?_
  refine blockQ_r ?_
  refine thenQ_r ?_
  obtain rfl := Option.some.inj h
  refine ⟨.inr rfl, (fun i => if i = 0 then 1000 else if i = 1 then 1001 else i), ⟨.nil, (.cons (EntW.lst rfl) (.cons (EntW.lst rfl) .nil)), nd_of [1000, 1001] rfl (by decide), (fun i hi => by first | rfl | (show (if _ then _ else _) = _; (repeat' split) <;> omega))⟩, (.cons (rva la32 rfl rfl (nle rfl) rfl) (.cons (sv rfl) .nil)), rfl⟩
 ·
  replace h := bif_f h hc2
  obtain ⟨x3, hx3, h⟩ := bno_e h
  obtain ⟨x4, hx4, h⟩ := bno_e h
  refine iwp_reg (ils_cons rfl (faR 2 rfl rfl rfl Try.underlying32 rfl ti30 (lb rfl) rfl rfl) <|
   ils_cons rfl (iop_load_rs (d := .osl _ _ _) rfl rfl (lb rfl) Try.underlying30 ag30 ti30 (by decide) (svR rfl) rfl (nle rfl) rfl) <|
   ils_cons rfl (mvI rfl rfl rfl rfl) <|
   ils_cons rfl (iop_idxO E_ptree_Node.toEnc0 rfl rfl (lb rfl) Try.underlying30 ti56 (sv (d := .osl _ _ _) rfl) rfl (svI rfl) hx3) <|
   ils_cons rfl (iop_field_E rfl rfl (lb rfl) Try.underlying56 rfl ti4 (by decide) (svR rfl) (k' := 3) rfl) <|
   ils_cons rfl (iop_loadEs E_ptree_Node.toEnc0 (d := .bool _) rfl rfl (lb rfl) Try.underlying4 ag4 ti4 (by decide) (svR rfl) rfl hx4 (nle rfl) rfl) <|
   ils_cons rfl (asB rfl rfl rfl rfl) <|
   ils_end ?_)
  refine iwp_cond (b := _) rfl (fun hc5 => ?_) (fun hc5 => ?_)
  ·
   replace h := bif_t h hc5
   refine iwp_reg (ils_cons rfl (lra q6 la32 rfl rfl rfl rfl rfl (nle rfl) rfl) <|
    ils_cons rfl (stA q6 q6 ti32 rfl rfl rfl rfl rfl rfl rfl rfl (nle rfl) rfl) <|
    ils_cons rfl (iop_assign rfl rfl (lb rfl) (sv (d := .int _ 9) rfl)) <|
    ils_end ?_)
   refine iwp_ret ?_
   refine blockQ_r ?_
   refine thenQ_r ?_
   obtain rfl := Option.some.inj h
   refine ⟨.inr rfl, (fun i => if i = 0 then 1000 else if i = 1 then 1001 else i), ⟨.nil, (.cons (EntW.lst rfl) (.cons (EntW.lst rfl) .nil)), nd_of [1000, 1001] rfl (by decide), (fun i hi => by first | rfl | (show (if _ then _ else _) = _; (repeat' split) <;> omega))⟩, (.cons (rva la32 rfl rfl (nle rfl) rfl) (.cons (sv rfl) .nil)), rfl⟩
  ·
   replace h := bif_f h hc5
   refine iwp_skip ?_
   refine blockQ_n ?_
   refine thenQ_n ?_
   obtain ⟨x6, hx6, h⟩ := bno_e h
   obtain ⟨x7, hx7, h⟩ := bno_e h
   obtain ⟨x8, hx8, h⟩ := bnd_e h
   refine iwp_reg (ils_cons rfl (faR 2 rfl rfl rfl Try.underlying32 rfl ti30 (lb rfl) rfl rfl) <|
    ils_cons rfl (iop_load_rs (d := .osl _ _ _) rfl rfl (lb rfl) Try.underlying30 ag30 ti30 (by decide) (svR rfl) rfl (nle rfl) rfl) <|
    ils_cons rfl (mvI rfl rfl rfl rfl) <|
    ils_cons rfl (iop_idxO E_ptree_Node.toEnc0 rfl rfl (lb rfl) Try.underlying30 ti56 (sv (d := .osl _ _ _) rfl) rfl (svI rfl) hx6) <|
    ils_cons rfl (iop_field_E rfl rfl (lb rfl) Try.underlying56 rfl ti4 (by decide) (svR rfl) (k' := 3) rfl) <|
    ils_cons rfl (iop_storeE E_ptree_Node.toEnc0 (a' := (⟨x7.ID, x7.Parent, x7.Weight, true⟩ : T_ptree_Node)) rfl rfl ti4 (svR rfl) rfl (sv (d := .bool true) rfl) rfl rfl rfl hx7 (nle rfl) rfl hx8) <|
    ils_end ?_)
   obtain ⟨x9, hx9, h⟩ := bno_e h
   refine iwp_reg (ils_cons rfl (faR 3 rfl rfl rfl Try.underlying32 rfl ti23 (lb rfl) rfl rfl) <|
    ils_cons rfl (iop_load_rs (d := .osl _ _ _) rfl rfl (lb rfl) Try.underlying23 ag23 ti23 (by decide) (svR rfl) rfl (nle rfl) rfl) <|
    ils_cons rfl (mvI rfl rfl rfl rfl) <|
    ils_cons rfl (iop_bsO (eInt .i64).toEnc0 ([a2] : (List Int)) 2 rfl rfl (lb rfl) Try.underlying23 ti3 rfl (.cons (svI rfl) .nil) rfl rfl (by decide)) <|
    ils_cons rfl (iop_appO (eInt .i64).toEnc0 3 rfl rfl (lb rfl) Try.underlying23 ti3 rfl rfl rfl rfl rfl (src_O (eInt .i64).toEnc0 rfl rfl rfl) hx9) <|
    ils_cons rfl (faR 3 rfl rfl rfl Try.underlying32 rfl ti23 (lb rfl) rfl rfl) <|
    ils_cons rfl (iop_store (ds' := q6) rfl rfl ti23 (svR rfl) rfl (sv (d := .osl _ _ _) rfl) rfl rfl rfl (nle rfl) rfl) <|
    ils_end ?_)
   refine iwp_seq ?_
   obtain ⟨x10, hx10, h⟩ := bnd_e h
   refine iwp_reg (ils_cons rfl (faR 3 rfl rfl rfl Try.underlying32 rfl ti23 (lb rfl) rfl rfl) <|
    ils_cons rfl (iop_load_rs (d := .osl _ _ _) rfl rfl (lb rfl) Try.underlying23 ag23 ti23 (by decide) (svR rfl) rfl (nle rfl) rfl) <|
    ils_cons rfl (iop_lenO rfl rfl (lb rfl) Try.underlying23 (sv (d := .osl _ _ _) rfl)) <|
    ils_cons rfl (faR 1 rfl rfl rfl Try.underlying32 rfl ti3 (lb rfl) rfl rfl) <|
    ils_cons rfl (iop_load_rs (d := .int _ _) rfl rfl (lb rfl) Try.underlying3 ag3 ti3 (by decide) (svR rfl) rfl (nle rfl) rfl) <|
    ils_cons rfl (iop_cmpx rfl rfl (lb rfl) (svI rfl) (svI rfl) rfl hx10) <|
    ils_end ?_)
   refine iwp_cond (b := _) rfl (fun hc11 => ?_) (fun hc11 => ?_)
   ·
    replace h := bif_t h hc11
    obtain ⟨x12, hx12, h⟩ := bno_e h
    obtain ⟨x13, hx13, h⟩ := bno_e h
    obtain ⟨x14, hx14, h⟩ := bno_e h
    refine iwp_draw rfl [⟨[2], [0], [(43, .agg (w18 a0 a1 (.osl 1000 E_ptree_Node.sz a3.length) (.osl 3 (eInt .i64).sz x9.length)))], []⟩,
     ⟨[2], [], [(44, .ref 0 3)], []⟩,
     ⟨[44], [0], [(45, .osl 3 (eInt .i64).sz x9.length)], []⟩,
     ⟨[45], [], [(46, .ref 3 (((0 : Int).toNat) * (eInt .i64).sz + 0))], []⟩,
     ⟨[46], [3], [(47, .int .i64 x13)], []⟩,
     ⟨[43, 47], [3, 4, 5, 1000], [(48, .agg (w18 x14.1 x14.2.1 (.osl 4 E_ptree_Node.sz x14.2.2.1.length) (.osl 5 (eInt .i64).sz x14.2.2.2.length)))], [(4, .blk 56 (D.flat (x14.2.2.1.map E_ptree_Node.d))), (5, .blk 3 (D.flat (x14.2.2.2.map (eInt .i64).d))), (1000, .none), (3, .none)]⟩,
     ⟨[2, 48], [0], [], [(0, .blk 32 (w18 x14.1 x14.2.1 (.osl 4 E_ptree_Node.sz x14.2.2.1.length) (.osl 5 (eInt .i64).sz x14.2.2.2.length)))]⟩] rfl ?_ (by kernel_rfl) ?_
    ·refine .cons (lop rfl rfl fun S hA => (iop_load_ra (cs := q6) rfl rfl (lb rfl) Try.underlying32 ag32 ti32 (by decide) (svaR hA rfl rfl) (agi hA rfl rfl) (nle rfl) rfl)) ?_
     refine .cons (lop rfl rfl fun S hA => (iop_fieldAddr_ref rfl rfl (lb rfl) Try.underlying32 rfl ti23 (by decide) (svaR hA rfl rfl) (off' := 3) rfl)) ?_
     refine .cons (lop rfl rfl fun S hA => (iop_load_rs (d := .osl _ _ _) rfl rfl (lb rfl) Try.underlying23 ag23 ti23 (by decide) (svaR hA rfl rfl) (agi hA rfl rfl) (nle rfl) rfl)) ?_
     refine .cons (lop rfl rfl fun S hA => (iop_idxO (eInt .i64).toEnc0 rfl rfl (lb rfl) Try.underlying23 ti3 (sv (d := .osl _ _ _) (agr hA rfl rfl)) rfl (sv (d := .int _ 0) rfl) hx12)) ?_
     refine .cons (lop rfl rfl fun S hA => (iop_loadEs (eInt .i64).toEnc0 (d := .int _ _) rfl rfl (lb rfl) Try.underlying3 ag3 ti3 (by decide) (svaR hA rfl rfl) (agi hA rfl rfl) hx13 (nle rfl) rfl)) ?_
     refine .cons (lop rfl rfl fun S hA => (iop_callM (r' := .agg (w18 x14.1 x14.2.1 (.osl 4 E_ptree_Node.sz x14.2.2.1.length) (.osl 5 (eInt .i64).sz x14.2.2.2.length))) (U := [(4, .blk 56 (D.flat (x14.2.2.1.map E_ptree_Node.d))), (5, .blk 3 (D.flat (x14.2.2.2.map (eInt .i64).d))), (1000, .none), (3, .none)]) 4 2 [1000, 3] rfl rfl (lb rfl) cl31 (.cons (sv (d := .agg (w18 a0 a1 (.osl 1000 E_ptree_Node.sz x8.length) (.osl 3 (eInt .i64).sz x9.length))) ((show _ = .agg (w18 a0 a1 (.osl 1000 E_ptree_Node.sz a3.length) (.osl 3 (eInt .i64).sz x9.length)) from (agr hA rfl rfl)).trans (by rw [(len_set hx8 rfl)]))) (.cons (svaI hA rfl rfl) .nil)) rfl rfl rfl (List.forall_mem_cons.2 ⟨(agi hA rfl rfl), List.forall_mem_cons.2 ⟨(agi hA rfl rfl), List.forall_mem_nil _⟩⟩) ⟨by decide, rfl, List.forall_mem_cons.2 ⟨⟨rfl, rfl, (handL E_ptree_Node (agi hA rfl rfl)), (handLr E_ptree_Node)⟩, List.forall_mem_cons.2 ⟨⟨rfl, rfl, (handL (eInt .i64) (agi hA rfl rfl)), (handLr (eInt .i64))⟩, List.forall_mem_nil _⟩⟩⟩ (p_fold_State_off_h _ _ _ _ _ _ hx14) rfl rfl (List.forall_mem_cons.2 ⟨⟨rfl, (handLr E_ptree_Node)⟩, List.forall_mem_cons.2 ⟨⟨rfl, (handLr (eInt .i64))⟩, List.forall_mem_nil _⟩⟩) (by simp only [List.map_cons, List.map_nil, Ent.ren, renL_flat, renL_ref]; rfl))) ?_
     refine .cons (lop rfl rfl fun S hA => (iop_store (ds' := q6) rfl rfl ti32 (svaR hA rfl rfl) (agi hA rfl rfl) (svaA q6 hA rfl rfl) rfl rfl rfl (nle rfl) rfl)) ?_
     exact .nil
    refine thenQ_n ?_
    refine iwp_reg (ils_cons rfl (lra q6 la32 rfl rfl rfl rfl rfl (nle rfl) rfl) <|
     ils_cons rfl (stA q6 q6 ti32 rfl rfl rfl rfl rfl rfl rfl rfl (nle rfl) rfl) <|
     ils_cons rfl (iop_assign rfl rfl (lb rfl) (sv (d := .int _ 0) rfl)) <|
     ils_end ?_)
    refine iwp_ret ?_
    obtain rfl := Option.some.inj h
    refine ⟨.inr rfl, (fun i => if i = 0 then 4 else if i = 1 then 5 else i), ⟨.nil, (.cons (EntW.lst rfl) (.cons (EntW.lst rfl) .nil)), nd_of [4, 5] rfl (by decide), (fun i hi => by first | rfl | (show (if _ then _ else _) = _; (repeat' split) <;> omega))⟩, (.cons (rva la32 rfl rfl (nle rfl) rfl) (.cons (sv rfl) .nil)), rfl⟩
   ·
    replace h := bif_f h hc11
    refine iwp_skip ?_
    refine thenQ_n ?_
    refine iwp_reg (ils_cons rfl (lra q6 la32 rfl rfl rfl rfl rfl (nle rfl) rfl) <|
     ils_cons rfl (stA q6 q6 ti32 rfl rfl rfl rfl rfl rfl rfl rfl (nle rfl) rfl) <|
     ils_cons rfl (iop_assign rfl rfl (lb rfl) (sv (d := .int _ 0) rfl)) <|
     ils_end ?_)
    refine iwp_ret ?_
    obtain rfl := Option.some.inj h
    refine ⟨.inr rfl, (fun i => if i = 0 then 1000 else if i = 1 then 3 else i), ⟨.nil, (.cons (EntW.lst rfl) (.cons (EntW.lst rfl) .nil)), nd_of [1000, 3] rfl (by decide), (fun i hi => by first | rfl | (show (if _ then _ else _) = _; (repeat' split) <;> omega))⟩, (.cons (rva la32 rfl rfl (nle rfl) (by rw [← (len_set hx8 rfl)]; rfl)) (.cons (sv rfl) .nil)), rfl⟩

theorem p_fold_Do (a0 : T_fold_State) (a1 : T_fold_Op) (r : (T_fold_State × Int)) (h : fold_Do a0 a1 = some r) : PureAt Try.prog 10 [.agg (v0 a0), .agg (v2 a1)] (retD [.agg (v0 r.1), .int .i64 r.2]) := by
 refine pure_of_iwpF (rs := [.agg (v0 r.1), .int .i64 r.2]) Try.func10 rfl Try.ntmps10 (nle rfl) rfl fun O hO => ?_
 show IWP _ _ _ _ ⟨[(0, .agg (v0 a0)), (1, .agg (v2 a1))], []⟩ _
 unfold fold_Do at h
 refine iwp_reg (ils_cons rfl (iop_box' (cs := q5) 0 rfl rfl (lb rfl) rfl (svA q5 rfl) rfl rfl) <|
  ils_cons rfl (iop_box' (cs := q4) 1 rfl rfl (lb rfl) rfl (svA q4 rfl) rfl rfl) <|
  ils_cons rfl (iop_allocS (cs := q10) (cs' := (w14 0 0 ([] : List T_ptree_Node) ([] : List Int))) 2 rfl rfl (lb rfl) rfl ti32 rfl rfl (.k (.k (.cons (.nils _) (.cons (.nils _) .nil))))) <|
  ils_cons rfl (iop_assign rfl rfl (lb rfl) (sv (d := .int _ 0) rfl)) <|
  ils_end ?_)
 obtain ⟨x1, hx1, h⟩ := bno_e h
 refine iwp_reg (ils_cons rfl (lra q5 la32 rfl rfl rfl rfl rfl (nle rfl) rfl) <|
  ils_cons rfl (iop_callh2 (r' := .agg (w18 x1.1 x1.2.1 (.osl 3 E_ptree_Node.sz x1.2.2.1.length) (.osl 4 (eInt .i64).sz x1.2.2.2.length))) (H1' := [(3, .blk 56 (D.flat (x1.2.2.1.map E_ptree_Node.d))), (4, .blk 3 (D.flat (x1.2.2.2.map (eInt .i64).d)))]) 3 [] rfl rfl (lb rfl) cl27 (.cons (svA q5 rfl) .nil) rfl rfl ⟨rfl, rfl, by decide, rfl, List.forall_mem_nil _⟩ (p_fold_State_own_h _ _ hx1) rfl rfl (List.forall_mem_cons.2 ⟨⟨rfl, (handLr E_ptree_Node)⟩, List.forall_mem_cons.2 ⟨⟨rfl, (handLr (eInt .i64))⟩, List.forall_mem_nil _⟩⟩) (by simp only [List.map_cons, List.map_nil, Ent.ren, renL_flat, renL_ref]; rfl)) <|
  ils_cons rfl (iop_allocS (cs := q10) (cs' := (w14 0 0 ([] : List T_ptree_Node) ([] : List Int))) 5 rfl rfl (lb rfl) rfl ti32 rfl rfl (.k (.k (.cons (.nils _) (.cons (.nils _) .nil))))) <|
  ils_cons rfl (stA q6 q6 ti32 rfl rfl rfl rfl rfl rfl rfl rfl (nle rfl) rfl) <|
  ils_end ?_)
 refine iwp_seq ?_
 obtain ⟨x2, hx2, h⟩ := bno_e h
 refine iwp_reg (ils_cons rfl (lra q5 la32 rfl rfl rfl rfl rfl (nle rfl) rfl) <|
  ils_cons rfl (iop_call (r := .int _ _) rfl rfl (lb rfl) cl14 (.cons (svA q5 rfl) .nil) rfl (p_fold_Check _ _ hx2)) <|
  ils_cons rfl (asI rfl rfl rfl rfl) <|
  ils_end ?_)
 obtain ⟨x3, hx3, h⟩ := bnd_e h
 refine iwp_reg (ils_cons rfl (mvI rfl rfl rfl rfl) <|
  ils_cons rfl (iop_cmpx rfl rfl (lb rfl) (svI rfl) (sv (d := .int _ 0) rfl) rfl hx3) <|
  ils_end ?_)
 refine iwp_cond (b := _) rfl (fun hc4 => ?_) (fun hc4 => ?_)
 ·
  replace h := bif_t h hc4
  refine iwp_reg (ils_cons rfl (lra q6 la32 rfl rfl rfl rfl rfl (nle rfl) rfl) <|
   ils_cons rfl (mvI rfl rfl rfl rfl) <|
   ils_cons rfl (stA q6 q6 ti32 rfl rfl rfl rfl rfl rfl rfl rfl (nle rfl) rfl) <|
   ils_cons rfl (asI rfl rfl rfl rfl) <|
   ils_end ?_)
  refine iwp_ret ?_
  refine thenQ_r ?_
  obtain rfl := Option.some.inj h
  refine ⟨.inr rfl, _, (.cons (rva la32 rfl rfl (nle rfl) rfl) (.cons (sv rfl) .nil)), (.cons (.agg (.k (.k (.cons (FDT E_ptree_Node rfl rfl) (.cons (FDT (eInt .i64) rfl rfl) .nil))))) (.all _))⟩
 ·
  replace h := bif_f h hc4
  refine iwp_skip ?_
  refine thenQ_n ?_
  refine iwp_seq ?_
  refine iwp_reg (ils_cons rfl (faR 0 rfl rfl rfl Try.underlying37 rfl ti5 (lb rfl) rfl rfl) <|
   ils_cons rfl (iop_load_rs (d := .int _ _) rfl rfl (lb rfl) Try.underlying5 ag5 ti5 (by decide) (svR rfl) rfl (nle rfl) rfl) <|
   ils_end ?_)
  refine iwp_block ?_
  refine iwp_join (α := Bool) (fun z => ⟨[(3, .ref 1 0), (4, .ref 2 0), (6, .ref 5 0), (19, .int .u8 a1.Kind), (20, .bool z)], [(1, .blk 37 (v2 a1)), (2, .blk 32 (w14 0 0 ([] : List T_ptree_Node) ([] : List Int))), (5, .blk 32 (w18 x1.1 x1.2.1 (.osl 3 E_ptree_Node.sz x1.2.2.1.length) (.osl 4 (eInt .i64).sz x1.2.2.2.length))), (3, .blk 56 (D.flat (x1.2.2.1.map E_ptree_Node.d))), (4, .blk 3 (D.flat (x1.2.2.2.map (eInt .i64).d)))]⟩) (fun z => fold_Do_J0 a1 x1 z = some r) ?_ ?_
  ·
   obtain ⟨x19, hx19, h⟩ := bnd_e h
   refine iwp_reg (ils_cons rfl (iop_cmpx rfl rfl (lb rfl) (svI rfl) (sv (d := .int _ 0) rfl) rfl hx19) <|
    ils_cons rfl (asB rfl rfl rfl rfl) <|
    ils_end ?_)
   refine iwp_cond (b := _) rfl (fun hc20 => ?_) (fun hc20 => ?_)
   ·
    replace h := bif_t h hc20
    refine iwp_skip ?_
    refine thenQ_n ⟨x19, (fun i => i), ⟨(.sames rfl rfl), (.cons (.blk rfl rfl rfl) (.cons (.blk rfl rfl rfl) (.cons (.blk rfl rfl rfl) (.cons (EntW.lst rfl) (.cons (EntW.lst rfl) .nil))))), nd_of [1, 2, 5, 3, 4] rfl (by decide), fun _ _ => rfl⟩, ?_⟩
    exact h
   ·
    replace h := bif_f h hc20
    obtain ⟨x21, hx21, h⟩ := bnd_e h
    refine iwp_region (ils_cons rfl (iop_cmpx rfl rfl (lb rfl) (svI rfl) (sv (d := .int _ 1) rfl) rfl hx21) <|
     ils_cons rfl (asB rfl rfl rfl rfl) <|
     ils_nil ?_)
    refine thenQ_n ⟨x21, (fun i => i), ⟨(.sames rfl rfl), (.cons (.blk rfl rfl rfl) (.cons (.blk rfl rfl rfl) (.cons (.blk rfl rfl rfl) (.cons (EntW.lst rfl) (.cons (EntW.lst rfl) .nil))))), nd_of [1, 2, 5, 3, 4] rfl (by decide), fun _ _ => rfl⟩, ?_⟩
    exact h
  ·
   rintro v8 h
   unfold fold_Do_J0 at h
   refine iwp_cond (b := _) rfl (fun hc9 => ?_) (fun hc9 => ?_)
   ·
    replace h := bif_t h hc9
    obtain ⟨x10, hx10, h⟩ := bno_e h
    refine iwp_reg (ils_cons rfl (lra q6 la32 rfl rfl rfl rfl rfl (nle rfl) rfl) <|
     ils_cons rfl (lra q4 la37 rfl rfl rfl rfl rfl (nle rfl) rfl) <|
     ils_cons rfl (iop_callh2 (r' := .tuple [.agg (w18 x10.1 x10.2.1 (.osl 6 E_ptree_Node.sz x10.2.2.1.length) (.osl 7 (eInt .i64).sz x10.2.2.2.1.length)), .int .i64 x10.2.2.2.2]) (H1' := [(6, .blk 56 (D.flat (x10.2.2.1.map E_ptree_Node.d))), (7, .blk 3 (D.flat (x10.2.2.2.1.map (eInt .i64).d)))]) 6 [3, 4] rfl rfl (lb rfl) cl28 (.cons (svA q6 rfl) (.cons (svA q4 rfl) .nil)) rfl rfl ⟨rfl, rfl, by decide, rfl, List.forall_mem_cons.2 ⟨⟨rfl, rfl, (handL E_ptree_Node rfl), (handLr E_ptree_Node)⟩, List.forall_mem_cons.2 ⟨⟨rfl, rfl, (handL (eInt .i64) rfl), (handLr (eInt .i64))⟩, List.forall_mem_nil _⟩⟩⟩ (p_fold_State_plant_h _ _ _ _ _ _ hx10) rfl rfl (List.forall_mem_cons.2 ⟨⟨rfl, (handLr E_ptree_Node)⟩, List.forall_mem_cons.2 ⟨⟨rfl, (handLr (eInt .i64))⟩, List.forall_mem_nil _⟩⟩) (by simp only [List.map_cons, List.map_nil, Ent.ren, renL_flat, renL_ref]; rfl)) <|
     ils_cons rfl (iop_extract (d := .agg q6) rfl rfl (lb rfl) (sv (d := .tuple [.agg q6, .int _ _]) rfl) rfl) <|
     ils_cons rfl (iop_extract (d := .int _ _) rfl rfl (lb rfl) (sv (d := .tuple [.agg q6, .int _ _]) rfl) rfl) <|
     ils_cons rfl (stA q6 q6 ti32 rfl rfl rfl rfl rfl rfl rfl rfl (nle rfl) rfl) <|
     ils_cons rfl (asI rfl rfl rfl rfl) <|
     ils_end ?_)
    refine iwp_ret ?_
    refine blockQ_r ?_
    refine thenQ_r ?_
    obtain rfl := Option.some.inj h
    refine ⟨.inr rfl, _, (.cons (rva la32 rfl rfl (nle rfl) rfl) (.cons (sv rfl) .nil)), (.cons (.agg (.k (.k (.cons (FDT E_ptree_Node rfl rfl) (.cons (FDT (eInt .i64) rfl rfl) .nil))))) (.all _))⟩
   ·
    replace h := bif_f h hc9
    obtain ⟨x11, hx11, h⟩ := bnd_e h
    refine iwp_reg (ils_cons rfl (iop_cmpx rfl rfl (lb rfl) (svI rfl) (sv (d := .int _ 2) rfl) rfl hx11) <|
     ils_cons rfl (asB rfl rfl rfl rfl) <|
     ils_end ?_)
    refine iwp_cond (b := _) rfl (fun hc12 => ?_) (fun hc12 => ?_)
    ·
     replace h := bif_t h hc12
     obtain ⟨x13, hx13, h⟩ := bno_e h
     refine iwp_reg (ils_cons rfl (lra q6 la32 rfl rfl rfl rfl rfl (nle rfl) rfl) <|
      ils_cons rfl (faR 1 rfl rfl rfl Try.underlying37 rfl ti3 (lb rfl) rfl rfl) <|
      ils_cons rfl (iop_load_rs (d := .int _ _) rfl rfl (lb rfl) Try.underlying3 ag3 ti3 (by decide) (svR rfl) rfl (nle rfl) rfl) <|
      ils_cons rfl (iop_callh2 (r' := .tuple [.agg (w18 x13.1 x13.2.1 (.osl 6 E_ptree_Node.sz x13.2.2.1.length) (.osl 7 (eInt .i64).sz x13.2.2.2.1.length)), .int .i64 x13.2.2.2.2]) (H1' := [(6, .blk 56 (D.flat (x13.2.2.1.map E_ptree_Node.d))), (7, .blk 3 (D.flat (x13.2.2.2.1.map (eInt .i64).d)))]) 6 [3, 4] rfl rfl (lb rfl) cl29 (.cons (svA q6 rfl) (.cons (svI rfl) .nil)) rfl rfl ⟨rfl, rfl, by decide, rfl, List.forall_mem_cons.2 ⟨⟨rfl, rfl, (handL E_ptree_Node rfl), (handLr E_ptree_Node)⟩, List.forall_mem_cons.2 ⟨⟨rfl, rfl, (handL (eInt .i64) rfl), (handLr (eInt .i64))⟩, List.forall_mem_nil _⟩⟩⟩ (p_fold_State_shut_h _ _ _ _ _ _ hx13) rfl rfl (List.forall_mem_cons.2 ⟨⟨rfl, (handLr E_ptree_Node)⟩, List.forall_mem_cons.2 ⟨⟨rfl, (handLr (eInt .i64))⟩, List.forall_mem_nil _⟩⟩) (by simp only [List.map_cons, List.map_nil, Ent.ren, renL_flat, renL_ref]; rfl)) <|
      ils_cons rfl (iop_extract (d := .agg q6) rfl rfl (lb rfl) (sv (d := .tuple [.agg q6, .int _ _]) rfl) rfl) <|
      ils_cons rfl (iop_extract (d := .int _ _) rfl rfl (lb rfl) (sv (d := .tuple [.agg q6, .int _ _]) rfl) rfl) <|
      ils_cons rfl (stA q6 q6 ti32 rfl rfl rfl rfl rfl rfl rfl rfl (nle rfl) rfl) <|
      ils_cons rfl (asI rfl rfl rfl rfl) <|
      ils_end ?_)
     refine iwp_ret ?_
     refine blockQ_r ?_
     refine thenQ_r ?_
     obtain rfl := Option.some.inj h
     refine ⟨.inr rfl, _, (.cons (rva la32 rfl rfl (nle rfl) rfl) (.cons (sv rfl) .nil)), (.cons (.agg (.k (.k (.cons (FDT E_ptree_Node rfl rfl) (.cons (FDT (eInt .i64) rfl rfl) .nil))))) (.all _))⟩
    ·
     replace h := bif_f h hc12
     obtain ⟨x14, hx14, h⟩ := bnd_e h
     refine iwp_reg (ils_cons rfl (iop_cmpx rfl rfl (lb rfl) (svI rfl) (sv (d := .int _ 3) rfl) rfl hx14) <|
      ils_cons rfl (asB rfl rfl rfl rfl) <|
      ils_end ?_)
     refine iwp_cond (b := _) rfl (fun hc15 => ?_) (fun hc15 => ?_)
     ·
      replace h := bif_t h hc15
      refine iwp_seq ?_
      obtain ⟨x16, hx16, h⟩ := bno_e h
      refine iwp_reg (ils_cons rfl (lra q6 la32 rfl rfl rfl rfl rfl (nle rfl) rfl) <|
       ils_cons rfl (faR 1 rfl rfl rfl Try.underlying37 rfl ti3 (lb rfl) rfl rfl) <|
       ils_cons rfl (iop_load_rs (d := .int _ _) rfl rfl (lb rfl) Try.underlying3 ag3 ti3 (by decide) (svR rfl) rfl (nle rfl) rfl) <|
       ils_cons rfl (iop_callp (r := .tuple [.int .i64 x16.1, .bool x16.2]) rfl rfl (lb rfl) cl30 (.cons (svA q6 rfl) (.cons (svI rfl) .nil)) (.cons (.agg (.k (.k (.cons (FDT E_ptree_Node rfl rfl) (.cons (FDT (eInt .i64) rfl rfl) .nil))))) (.all _)) rfl rfl (p_fold_State_find _ _ _ hx16)) <|
       ils_cons rfl (iop_move rfl rfl (lb rfl) (sv (d := .tuple q13) rfl)) <|
       ils_cons rfl (iop_extract (d := .int _ _) rfl rfl (lb rfl) (sv (d := .tuple q13) rfl) rfl) <|
       ils_cons rfl (iop_extract (d := .bool _) rfl rfl (lb rfl) (sv (d := .tuple q13) rfl) rfl) <|
       ils_cons rfl (asI rfl rfl rfl rfl) <|
       ils_cons rfl (asB rfl rfl rfl rfl) <|
       ils_end ?_)
      refine iwp_reg (ils_cons rfl (mvB rfl rfl rfl rfl) <|
       ils_cons rfl (iop_not rfl rfl (lb rfl) (svB rfl)) <|
       ils_end ?_)
      refine iwp_cond (b := _) rfl (fun hc17 => ?_) (fun hc17 => ?_)
      ·
       replace h := bif_t h hc17
       refine iwp_reg (ils_cons rfl (lra q6 la32 rfl rfl rfl rfl rfl (nle rfl) rfl) <|
        ils_cons rfl (stA q6 q6 ti32 rfl rfl rfl rfl rfl rfl rfl rfl (nle rfl) rfl) <|
        ils_cons rfl (iop_assign rfl rfl (lb rfl) (sv (d := .int _ 6) rfl)) <|
        ils_end ?_)
       refine iwp_ret ?_
       refine thenQ_r ?_
       refine blockQ_r ?_
       refine thenQ_r ?_
       obtain rfl := Option.some.inj h
       refine ⟨.inr rfl, _, (.cons (rva la32 rfl rfl (nle rfl) rfl) (.cons (sv rfl) .nil)), (.cons (.agg (.k (.k (.cons (FDT E_ptree_Node rfl rfl) (.cons (FDT (eInt .i64) rfl rfl) .nil))))) (.all _))⟩
      ·
       replace h := bif_f h hc17
       refine iwp_skip ?_
       refine thenQ_n ?_
       obtain ⟨x18, hx18, h⟩ := bno_e h
       refine iwp_reg (ils_cons rfl (lra q6 la32 rfl rfl rfl rfl rfl (nle rfl) rfl) <|
        ils_cons rfl (faR 1 rfl rfl rfl Try.underlying37 rfl ti3 (lb rfl) rfl rfl) <|
        ils_cons rfl (iop_load_rs (d := .int _ _) rfl rfl (lb rfl) Try.underlying3 ag3 ti3 (by decide) (svR rfl) rfl (nle rfl) rfl) <|
        ils_cons rfl (iop_callh2 (r' := .agg (w18 x18.1 x18.2.1 (.osl 6 E_ptree_Node.sz x18.2.2.1.length) (.osl 7 (eInt .i64).sz x18.2.2.2.length))) (H1' := [(6, .blk 56 (D.flat (x18.2.2.1.map E_ptree_Node.d))), (7, .blk 3 (D.flat (x18.2.2.2.map (eInt .i64).d)))]) 6 [3, 4] rfl rfl (lb rfl) cl31 (.cons (svA q6 rfl) (.cons (svI rfl) .nil)) rfl rfl ⟨rfl, rfl, by decide, rfl, List.forall_mem_cons.2 ⟨⟨rfl, rfl, (handL E_ptree_Node rfl), (handLr E_ptree_Node)⟩, List.forall_mem_cons.2 ⟨⟨rfl, rfl, (handL (eInt .i64) rfl), (handLr (eInt .i64))⟩, List.forall_mem_nil _⟩⟩⟩ (p_fold_State_off_h _ _ _ _ _ _ hx18) rfl rfl (List.forall_mem_cons.2 ⟨⟨rfl, (handLr E_ptree_Node)⟩, List.forall_mem_cons.2 ⟨⟨rfl, (handLr (eInt .i64))⟩, List.forall_mem_nil _⟩⟩) (by simp only [List.map_cons, List.map_nil, Ent.ren, renL_flat, renL_ref]; rfl)) <|
        ils_cons rfl (stA q6 q6 ti32 rfl rfl rfl rfl rfl rfl rfl rfl (nle rfl) rfl) <|
        ils_cons rfl (iop_assign rfl rfl (lb rfl) (sv (d := .int _ 0) rfl)) <|
        ils_end ?_)
       refine iwp_ret ?_
       refine blockQ_r ?_
       refine thenQ_r ?_
       obtain rfl := Option.some.inj h
       refine ⟨.inr rfl, _, (.cons (rva la32 rfl rfl (nle rfl) rfl) (.cons (sv rfl) .nil)), (.cons (.agg (.k (.k (.cons (FDT E_ptree_Node rfl rfl) (.cons (FDT (eInt .i64) rfl rfl) .nil))))) (.all _))⟩
     ·
      replace h := bif_f h hc15
      refine iwp_skip ?_
      refine blockQ_n ?_
      refine thenQ_n ?_
      refine iwp_reg (ils_cons rfl (lra q6 la32 rfl rfl rfl rfl rfl (nle rfl) rfl) <|
       ils_cons rfl (stA q6 q6 ti32 rfl rfl rfl rfl rfl rfl rfl rfl (nle rfl) rfl) <|
       ils_cons rfl (iop_assign rfl rfl (lb rfl) (sv (d := .int _ 12) rfl)) <|
       ils_end ?_)
      refine iwp_ret ?_
      obtain rfl := Option.some.inj h
      refine ⟨.inr rfl, _, (.cons (rva la32 rfl rfl (nle rfl) rfl) (.cons (sv rfl) .nil)), (.cons (.agg (.k (.k (.cons (FDT E_ptree_Node rfl rfl) (.cons (FDT (eInt .i64) rfl rfl) .nil))))) (.all _))⟩

theorem p_fold_Run (a0 : T_fold_State) (a1 : (List T_fold_Op)) (r : (T_fold_State × (List Int))) (h : fold_Run a0 a1 = some r) : PureAt Try.prog 26 [.agg (v0 a0), .slice false (a1.map E_fold_Op.d)] (retD [.agg (v0 r.1), .slice false (r.2.map (eInt .i64).d)]) := by
 refine pure_of_iwpF (rs := [.agg (v0 r.1), .slice false (r.2.map (eInt .i64).d)]) Try.func26 rfl Try.ntmps26 (nle rfl) rfl fun O hO => ?_
 show IWP _ _ _ _ ⟨[(0, .agg (v0 a0)), (1, .slice false (a1.map E_fold_Op.d))], []⟩ _
 unfold fold_Run at h
 refine iwp_reg (ils_cons rfl (iop_box' (cs := q5) 0 rfl rfl (lb rfl) rfl (svA q5 rfl) rfl rfl) <|
  ils_cons rfl (iop_allocS (cs := q10) (cs' := (w14 0 0 ([] : List T_ptree_Node) ([] : List Int))) 1 rfl rfl (lb rfl) rfl ti32 rfl rfl (.k (.k (.cons (.nils _) (.cons (.nils _) .nil))))) <|
  ils_cons rfl (iop_assign rfl rfl (lb rfl) (sv (d := .nils) rfl)) <|
  ils_end ?_)
 refine iwp_reg (ils_cons rfl (iop_assign rfl rfl (lb rfl) (sv (d := .nils) rfl)) <|
  ils_end ?_)
 refine iwp_seq ?_
 refine iwp_reg (ils_cons rfl (mvL rfl rfl rfl rfl) <|
  ils_cons rfl (iop_lenT E_fold_Op (l := a1) rfl rfl (lb rfl) Try.underlying62 (svL rfl)) <|
  ils_cons rfl (iop_move rfl rfl (lb rfl) (sv (d := .int _ 0) rfl)) <|
  ils_end ?_)
 refine iwp_block ?_
 refine iwp_loopP (α := Nat × (List Int) × Int × Int × Int × (List T_ptree_Node) × (List Int)) (fun z => ⟨[(2, .ref 0 0), (4, .ref 1 0), (6, .osl 23 (eInt .i64).sz z.2.1.length), (11, .slice false (a1.map E_fold_Op.d)), (12, .int .i64 (a1.length : Int)), (13, .int .i64 z.2.2.1)], [(0, .blk 32 (w14 z.2.2.2.1 z.2.2.2.2.1 z.2.2.2.2.2.1 z.2.2.2.2.2.2)), (1, .blk 32 (w14 0 0 ([] : List T_ptree_Node) ([] : List Int))), (23, .blk 34 (D.flat (z.2.1.map (eInt .i64).d)))]⟩) (fun z => fold_Run_L0 a1 z.1 z.2.1 z.2.2.1 z.2.2.2.1 z.2.2.2.2.1 z.2.2.2.2.2.1 z.2.2.2.2.2.2 = some r) (fun z => z.1) (fuel, ([] : (List Int)), 0, a0.Room, a0.Keep, a0.Nodes, a0.Ended) (fun i => if i = 23 then 75 else i) ⟨(.s rfl rfl (.s rfl rfl (.cons (.nilo rfl) (.sames rfl rfl)))), (.cons (.blk rfl rfl rfl) (.cons (.blk rfl rfl rfl) (.cons (.nilb rfl) .nil))), nd_of [0, 1, 75] rfl (by decide), (fun i hi => by first | rfl | (show (if _ then _ else _) = _; (repeat' split) <;> omega))⟩ ?_ ?_
 ·exact h
 ·
  rintro ⟨n0, v7, v8, v9, v10, v11, v12⟩ h
  cases n0 with
  | zero => exact absurd h (by unfold fold_Run_L0; exact nofun)
  | succ n0 =>
   unfold fold_Run_L0 at h
   obtain ⟨x19, hx19, h⟩ := bnd_e h
   refine iwp_reg (ils_cons rfl (iop_cmpx rfl rfl (lb rfl) (svI rfl) (svI rfl) rfl hx19) <|
    ils_end ?_)
   refine iwp_seq ?_
   refine iwp_cond (b := _) rfl (fun hc20 => ?_) (fun hc20 => ?_)
   ·
    replace h := bif_t h hc20
    refine iwp_skip ?_
    refine thenQ_n ?_
    refine iwp_seq ?_
    refine iwp_block ?_
    obtain ⟨x21, hx21, h⟩ := bno_e h
    refine iwp_reg (ils_cons rfl (iop_idxT E_fold_Op (cs := q4) rfl rfl (lb rfl) Try.underlying62 ti37 (svL rfl) (svI rfl) hx21 rfl rfl) <|
     ils_cons rfl (iop_load_fa (cs := q4) rfl rfl (lb rfl) Try.underlying37 ag37 ti37 (by decide) (sv (d := .fptr q4) rfl) (nle rfl) rfl) <|
     ils_cons rfl (iop_allocS (cs := q4) (cs' := (w15 0 0 0 0 false)) 24 rfl rfl (lb rfl) rfl ti37 rfl rfl (.all _)) <|
     ils_cons rfl (stA q4 q4 ti37 rfl rfl rfl rfl rfl rfl rfl rfl (nle rfl) rfl) <|
     ils_end ?_)
    obtain ⟨x22, hx22, h⟩ := bno_e h
    refine iwp_reg (ils_cons rfl (lra q5 la32 rfl rfl rfl rfl rfl (nle rfl) rfl) <|
     ils_cons rfl (lra q4 la37 rfl rfl rfl rfl rfl (nle rfl) rfl) <|
     ils_cons rfl (iop_call (r := .tuple [.agg q5, .int _ _]) rfl rfl (lb rfl) cl10 (.cons (svA q5 rfl) (.cons (svA q4 rfl) .nil)) rfl (p_fold_Do _ _ _ hx22)) <|
     ils_cons rfl (iop_move rfl rfl (lb rfl) (sv (d := .tuple [.agg q5, .int _ _]) rfl)) <|
     ils_cons rfl (iop_extract (d := .agg q5) rfl rfl (lb rfl) (sv (d := .tuple [.agg q5, .int _ _]) rfl) rfl) <|
     ils_cons rfl (iop_extract (d := .int _ _) rfl rfl (lb rfl) (sv (d := .tuple [.agg q5, .int _ _]) rfl) rfl) <|
     ils_cons rfl (iop_allocS (cs := q10) (cs' := (w14 0 0 ([] : List T_ptree_Node) ([] : List Int))) 25 rfl rfl (lb rfl) rfl ti32 rfl rfl (.k (.k (.cons (.nils _) (.cons (.nils _) .nil))))) <|
     ils_cons rfl (stA q5 q5 ti32 rfl rfl rfl rfl rfl rfl rfl rfl (nle rfl) rfl) <|
     ils_cons rfl (asI rfl rfl rfl rfl) <|
     ils_end ?_)
    refine iwp_reg (ils_cons rfl (lra q5 la32 rfl rfl rfl rfl rfl (nle rfl) rfl) <|
     ils_cons rfl (stA q5 q5 ti32 rfl rfl rfl rfl rfl rfl rfl rfl (nle rfl) rfl) <|
     ils_end ?_)
    obtain ⟨x23, hx23, h⟩ := bno_e h
    refine iwp_region (ils_cons rfl (iop_move rfl rfl (lb rfl) (sv (d := .osl _ _ _) rfl)) <|
     ils_cons rfl (mvI rfl rfl rfl rfl) <|
     ils_cons rfl (iop_bsO (eInt .i64).toEnc0 ([x22.2] : (List Int)) 26 rfl rfl (lb rfl) Try.underlying59 ti34 rfl (.cons (svI rfl) .nil) rfl rfl (by decide)) <|
     ils_cons rfl (iop_appO (eInt .i64).toEnc0 27 rfl rfl (lb rfl) Try.underlying59 ti34 rfl rfl rfl rfl rfl (src_O (eInt .i64).toEnc0 rfl rfl rfl) hx23) <|
     ils_cons rfl (iop_assign rfl rfl (lb rfl) (sv (d := .osl _ _ _) rfl)) <|
     ils_nil ?_)
    refine blockQ_n ?_
    refine thenQ_n ?_
    obtain ⟨x24, hx24, h⟩ := bnd_e h
    refine iwp_region (ils_cons rfl (iop_intx rfl rfl (lb rfl) (svI rfl) (sv (d := .int _ 1) rfl) rfl hx24) <|
     ils_cons rfl (mvI rfl rfl rfl rfl) <|
     ils_nil ?_)
    refine thenQ_n ⟨(n0, x23, x24, x22.1.Room, x22.1.Keep, x22.1.Nodes, x22.1.Ended), (fun i => if i = 23 then 27 else i), ⟨(.sames rfl rfl), (.cons (.blk rfl rfl rfl) (.cons (.blk rfl rfl rfl) (.cons (EntW.lst rfl) .nil))), nd_of [0, 1, 27] rfl (by decide), (fun i hi => by first | rfl | (show (if _ then _ else _) = _; (repeat' split) <;> omega))⟩, ?_, ?_⟩
    exact h
    exact Nat.lt_succ_self _
   ·
    replace h := bif_f h hc20
    refine iwp_exit ?_
    refine thenQ_e ?_
    refine thenQ_e ?_
    refine blockQ_e ?_
    refine thenQ_n ?_
    refine iwp_reg (ils_cons rfl (lra q5 la32 rfl rfl rfl rfl rfl (nle rfl) rfl) <|
     ils_cons rfl (iop_move rfl rfl (lb rfl) (sv (d := .osl _ _ _) rfl)) <|
     ils_cons rfl (stA q5 q5 ti32 rfl rfl rfl rfl rfl rfl rfl rfl (nle rfl) rfl) <|
     ils_cons rfl (iop_assign rfl rfl (lb rfl) (sv (d := .osl _ _ _) rfl)) <|
     ils_end ?_)
    refine iwp_ret ?_
    obtain rfl := Option.some.inj h
    refine ⟨.inr rfl, _, (.cons (rva la32 rfl rfl (nle rfl) rfl) (.cons (sv rfl) .nil)), (.k (.cons (FDT (eInt .i64) rfl rfl) .nil))⟩

theorem p_fold_State_there (a0 : T_fold_State) (a1 : Int) (r : Bool) (h : fold_State_there a0 a1 = some r) : PureAt Try.prog 51 [.agg (v0 a0), .int .i64 a1] (.bool r) := by
 refine pure_of_iwp (rs := [.bool r]) Try.func51 rfl Try.ntmps51 (nle rfl) rfl fun O hO => ?_
 show IWP _ _ _ _ ⟨[(0, .agg (v0 a0)), (1, .int .i64 a1)], []⟩ _
 unfold fold_State_there at h
 refine iwp_reg (ils_cons rfl (iop_box' (cs := q5) 0 rfl rfl (lb rfl) rfl (svA q5 rfl) rfl rfl) <|
  ils_cons rfl (iop_assign rfl rfl (lb rfl) (sv (d := .bool false) rfl)) <|
  ils_end ?_)
 obtain ⟨x1, hx1, h⟩ := bno_e h
 refine iwp_reg (ils_cons rfl (lra q5 la32 rfl rfl rfl rfl rfl (nle rfl) rfl) <|
  ils_cons rfl (mvI rfl rfl rfl rfl) <|
  ils_cons rfl (iop_call (r := .tuple q13) rfl rfl (lb rfl) cl30 (.cons (svA q5 rfl) (.cons (svI rfl) .nil)) rfl (p_fold_State_find _ _ _ hx1)) <|
  ils_cons rfl (iop_move rfl rfl (lb rfl) (sv (d := .tuple q13) rfl)) <|
  ils_cons rfl (iop_extract (d := .int _ _) rfl rfl (lb rfl) (sv (d := .tuple q13) rfl) rfl) <|
  ils_cons rfl (iop_extract (d := .bool _) rfl rfl (lb rfl) (sv (d := .tuple q13) rfl) rfl) <|
  ils_cons rfl (asI rfl rfl rfl rfl) <|
  ils_cons rfl (asB rfl rfl rfl rfl) <|
  ils_end ?_)
 obtain ⟨x2, hx2, h⟩ := bno_e h
 obtain ⟨x3, hx3, h⟩ := bnd_e h
 obtain ⟨x4, hx4, h⟩ := bnd_e h
 refine iwp_reg (ils_cons rfl (mvB rfl rfl rfl rfl) <|
  ils_cons rfl (mvB rfl rfl rfl rfl) <|
  ils_guard rfl rfl (.one rfl) rfl (by decide) (fun hb => (lra q5 la32 rfl rfl rfl rfl rfl (nle rfl) rfl)) <|
  ils_guard rfl rfl (.one rfl) rfl (by decide) (fun hb => (iop_call (r := .int _ _) rfl rfl (lb rfl) cl14 (.cons (svcA (v0 a0) rfl hb) .nil) rfl (p_fold_Check _ _ (gd_t hx2 hb)))) <|
  ils_guard rfl rfl (.one rfl) rfl (by decide) (fun hb => (iop_cmpx rfl rfl (lb rfl) (svcI rfl hb) (sv (d := .int _ 0) rfl) rfl hx3)) <|
  ils_cons rfl (iop_andx rfl rfl (lb rfl) (svB rfl) rfl rfl hx4) <|
  ils_cons rfl (asB rfl rfl rfl rfl) <|
  ils_end ?_)
 refine iwp_ret ?_
 obtain rfl := Option.some.inj h
 refine ⟨.inr rfl, (.cons (sv rfl) .nil)⟩

theorem p_fold_Depth (a0 : T_fold_State) (a1 : Int) (r : Int) (h : fold_Depth a0 a1 = some r) : PureAt Try.prog 17 [.agg (v0 a0), .int .i64 a1] (.int .i64 r) := by
 refine pure_of_iwp (rs := [.int .i64 r]) Try.func17 rfl Try.ntmps17 (nle rfl) rfl fun O hO => ?_
 show IWP _ _ _ _ ⟨[(0, .agg (v0 a0)), (1, .int .i64 a1)], []⟩ _
 unfold fold_Depth at h
 refine iwp_reg (ils_cons rfl (iop_box' (cs := q5) 0 rfl rfl (lb rfl) rfl (svA q5 rfl) rfl rfl) <|
  ils_cons rfl (iop_assign rfl rfl (lb rfl) (sv (d := .int _ 0) rfl)) <|
  ils_end ?_)
 refine iwp_seq ?_
 obtain ⟨x1, hx1, h⟩ := bno_e h
 refine iwp_reg (ils_cons rfl (lra q5 la32 rfl rfl rfl rfl rfl (nle rfl) rfl) <|
  ils_cons rfl (mvI rfl rfl rfl rfl) <|
  ils_cons rfl (iop_call (r := .bool _) rfl rfl (lb rfl) cl51 (.cons (svA q5 rfl) (.cons (svI rfl) .nil)) rfl (p_fold_State_there _ _ _ hx1)) <|
  ils_cons rfl (iop_not rfl rfl (lb rfl) (svB rfl)) <|
  ils_end ?_)
 refine iwp_cond (b := _) rfl (fun hc2 => ?_) (fun hc2 => ?_)
 ·
  replace h := bif_t h hc2
  refine iwp_reg (ils_cons rfl (iop_assign rfl rfl (lb rfl) (sv (d := .int _ 0) rfl)) <|
   ils_end ?_)
  refine iwp_ret ?_
  refine thenQ_r ?_
  obtain rfl := Option.some.inj h
  refine ⟨.inr rfl, (.cons (sv rfl) .nil)⟩
 ·
  replace h := bif_f h hc2
  refine iwp_skip ?_
  refine thenQ_n ?_
  obtain ⟨x3, hx3, h⟩ := bno_e h
  obtain ⟨x4, hx4, h⟩ := bnd_e h
  refine iwp_reg (ils_cons rfl (lra q5 la32 rfl rfl rfl rfl rfl (nle rfl) rfl) <|
   ils_cons rfl (mvI rfl rfl rfl rfl) <|
   ils_cons rfl (iop_callh2 (r' := .osl 1 (eInt .i64).sz x3.length) (H1' := [(1, .blk 3 (D.flat (x3.map (eInt .i64).d)))]) 1 [] rfl rfl (lb rfl) cl52 (.cons (svA q5 rfl) (.cons (svI rfl) .nil)) rfl rfl ⟨rfl, rfl, by decide, rfl, List.forall_mem_nil _⟩ (p_fold_State_path_h _ _ _ hx3) rfl rfl (List.forall_mem_cons.2 ⟨⟨rfl, (handLr (eInt .i64))⟩, List.forall_mem_nil _⟩) (by simp only [List.map_cons, List.map_nil, Ent.ren, renL_flat, renL_ref]; rfl)) <|
   ils_cons rfl (iop_lenO rfl rfl (lb rfl) Try.underlying23 (sv (d := .osl _ _ _) rfl)) <|
   ils_cons rfl (iop_intx rfl rfl (lb rfl) (svI rfl) (sv (d := .int _ 1) rfl) rfl hx4) <|
   ils_cons rfl (asI rfl rfl rfl rfl) <|
   ils_end ?_)
  refine iwp_ret ?_
  obtain rfl := Option.some.inj h
  refine ⟨.inr rfl, (.cons (sv rfl) .nil)⟩

theorem p_fold_Meet (a0 : T_fold_State) (a1 : Int) (a2 : Int) (r : Int) (h : fold_Meet a0 a1 a2 = some r) : PureAt Try.prog 19 [.agg (v0 a0), .int .i64 a1, .int .i64 a2] (.int .i64 r) := by
 refine pure_of_iwp (rs := [.int .i64 r]) Try.func19 rfl Try.ntmps19 (nle rfl) rfl fun O hO => ?_
 show IWP _ _ _ _ ⟨[(0, .agg (v0 a0)), (1, .int .i64 a1), (2, .int .i64 a2)], []⟩ _
 unfold fold_Meet at h
 refine iwp_reg (ils_cons rfl (iop_box' (cs := q5) 0 rfl rfl (lb rfl) rfl (svA q5 rfl) rfl rfl) <|
  ils_cons rfl (iop_assign rfl rfl (lb rfl) (sv (d := .int _ 0) rfl)) <|
  ils_end ?_)
 refine iwp_seq ?_
 obtain ⟨x1, hx1, h⟩ := bno_e h
 obtain ⟨x2, hx2, h⟩ := bno_e h
 obtain ⟨x3, hx3, h⟩ := bnd_e h
 refine iwp_reg (ils_cons rfl (lra q5 la32 rfl rfl rfl rfl rfl (nle rfl) rfl) <|
  ils_cons rfl (mvI rfl rfl rfl rfl) <|
  ils_cons rfl (iop_call (r := .bool _) rfl rfl (lb rfl) cl51 (.cons (svA q5 rfl) (.cons (svI rfl) .nil)) rfl (p_fold_State_there _ _ _ hx1)) <|
  ils_cons rfl (iop_not rfl rfl (lb rfl) (svB rfl)) <|
  ils_cons rfl (mvB rfl rfl rfl rfl) <|
  ils_guard rfl rfl (.one rfl) rfl (by decide) (fun hb => (lra q5 la32 rfl rfl rfl rfl rfl (nle rfl) rfl)) <|
  ils_guard rfl rfl (.one rfl) rfl (by decide) (fun hb => (mvI rfl rfl rfl rfl)) <|
  ils_guard rfl rfl (.one rfl) rfl (by decide) (fun hb => (iop_call (r := .bool _) rfl rfl (lb rfl) cl51 (.cons (svcA (v0 a0) rfl hb) (.cons (svcI rfl hb) .nil)) rfl (p_fold_State_there _ _ _ (gd_t hx2 hb)))) <|
  ils_guard rfl rfl (.one rfl) rfl (by decide) (fun hb => (iop_not rfl rfl (lb rfl) (svcB rfl hb))) <|
  ils_cons rfl (iop_orx rfl rfl (lb rfl) (svB rfl) rfl rfl hx3) <|
  ils_end ?_)
 refine iwp_cond (b := _) rfl (fun hc4 => ?_) (fun hc4 => ?_)
 ·
  replace h := bif_t h hc4
  refine iwp_reg (ils_cons rfl (iop_assign rfl rfl (lb rfl) (sv (d := .int _ 0) rfl)) <|
   ils_end ?_)
  refine iwp_ret ?_
  refine thenQ_r ?_
  obtain rfl := Option.some.inj h
  refine ⟨.inr rfl, (.cons (sv rfl) .nil)⟩
 ·
  replace h := bif_f h hc4
  refine iwp_skip ?_
  refine thenQ_n ?_
  obtain ⟨x5, hx5, h⟩ := bno_e h
  obtain ⟨x6, hx6, h⟩ := bno_e h
  refine iwp_reg (ils_cons rfl (lra q5 la32 rfl rfl rfl rfl rfl (nle rfl) rfl) <|
   ils_cons rfl (mvI rfl rfl rfl rfl) <|
   ils_cons rfl (iop_callh2 (r' := .osl 1 (eInt .i64).sz x5.length) (H1' := [(1, .blk 3 (D.flat (x5.map (eInt .i64).d)))]) 1 [] rfl rfl (lb rfl) cl52 (.cons (svA q5 rfl) (.cons (svI rfl) .nil)) rfl rfl ⟨rfl, rfl, by decide, rfl, List.forall_mem_nil _⟩ (p_fold_State_path_h _ _ _ hx5) rfl rfl (List.forall_mem_cons.2 ⟨⟨rfl, (handLr (eInt .i64))⟩, List.forall_mem_nil _⟩) (by simp only [List.map_cons, List.map_nil, Ent.ren, renL_flat, renL_ref]; rfl)) <|
   ils_cons rfl (mvI rfl rfl rfl rfl) <|
   ils_cons rfl (iop_bsO (eInt .i64).toEnc0 ([a2] : (List Int)) 2 rfl rfl (lb rfl) Try.underlying23 ti3 rfl (.cons (svI rfl) .nil) rfl rfl (by decide)) <|
   ils_cons rfl (iop_appO (eInt .i64).toEnc0 3 rfl rfl (lb rfl) Try.underlying23 ti3 rfl rfl rfl rfl rfl (src_O (eInt .i64).toEnc0 rfl rfl rfl) hx6) <|
   ils_cons rfl (iop_assign rfl rfl (lb rfl) (sv (d := .osl _ _ _) rfl)) <|
   ils_end ?_)
  refine iwp_seq ?_
  obtain ⟨x7, hx7, h⟩ := bno_e h
  obtain ⟨x8, hx8, h⟩ := bno_e h
  refine iwp_reg (ils_cons rfl (mvI rfl rfl rfl rfl) <|
   ils_cons rfl (iop_bsO (eInt .i64).toEnc0 ([a1] : (List Int)) 4 rfl rfl (lb rfl) Try.underlying23 ti3 rfl (.cons (svI rfl) .nil) rfl rfl (by decide)) <|
   ils_cons rfl (lra q5 la32 rfl rfl rfl rfl rfl (nle rfl) rfl) <|
   ils_cons rfl (mvI rfl rfl rfl rfl) <|
   ils_cons rfl (iop_callh2 (r' := .osl 5 (eInt .i64).sz x7.length) (H1' := [(5, .blk 3 (D.flat (x7.map (eInt .i64).d)))]) 5 [] rfl rfl (lb rfl) cl52 (.cons (svA q5 rfl) (.cons (svI rfl) .nil)) rfl rfl ⟨rfl, rfl, by decide, rfl, List.forall_mem_nil _⟩ (p_fold_State_path_h _ _ _ hx7) rfl rfl (List.forall_mem_cons.2 ⟨⟨rfl, (handLr (eInt .i64))⟩, List.forall_mem_nil _⟩) (by simp only [List.map_cons, List.map_nil, Ent.ren, renL_flat, renL_ref]; rfl)) <|
   ils_cons rfl (iop_appO (eInt .i64).toEnc0 6 rfl rfl (lb rfl) Try.underlying23 ti3 rfl rfl rfl rfl rfl (src_O (eInt .i64).toEnc0 rfl rfl rfl) hx8) <|
   ils_cons rfl (iop_lenO rfl rfl (lb rfl) Try.underlying23 (sv (d := .osl _ _ _) rfl)) <|
   ils_cons rfl (iop_move rfl rfl (lb rfl) (sv (d := .int _ 0) rfl)) <|
   ils_end ?_)
  refine iwp_block ?_
  refine iwp_loopP (α := Nat × Int) (fun z => ⟨[(7, .osl 3 (eInt .i64).sz x6.length), (31, .osl 6 (eInt .i64).sz x8.length), (32, .int .i64 (x8.length : Int)), (33, .int .i64 z.2)], [(3, .blk 3 (D.flat (x6.map (eInt .i64).d))), (6, .blk 3 (D.flat (x8.map (eInt .i64).d)))]⟩) (fun z => fold_Meet_L0 x6 x8 z.1 z.2 = some r) (fun z => z.1) (fuel, 0) (fun i => i) ⟨(.sames rfl rfl), (.cons (EntW.lst rfl) (.cons (EntW.lst rfl) .nil)), nd_of [3, 6] rfl (by decide), fun _ _ => rfl⟩ ?_ ?_
  ·exact h
  ·
   rintro ⟨n0, v16⟩ h
   cases n0 with
   | zero => exact absurd h (by unfold fold_Meet_L0; exact nofun)
   | succ n0 =>
    unfold fold_Meet_L0 at h
    obtain ⟨x24, hx24, h⟩ := bnd_e h
    refine iwp_reg (ils_cons rfl (iop_cmpx rfl rfl (lb rfl) (svI rfl) (svI rfl) rfl hx24) <|
     ils_end ?_)
    refine iwp_seq ?_
    refine iwp_cond (b := _) rfl (fun hc25 => ?_) (fun hc25 => ?_)
    ·
     replace h := bif_t h hc25
     refine iwp_skip ?_
     refine thenQ_n ?_
     refine iwp_seq ?_
     refine iwp_block ?_
     obtain ⟨x26, hx26, h⟩ := bno_e h
     obtain ⟨x27, hx27, h⟩ := bno_e h
     refine iwp_reg (ils_cons rfl (iop_idxO (eInt .i64).toEnc0 rfl rfl (lb rfl) Try.underlying23 ti3 (sv (d := .osl _ _ _) rfl) rfl (svI rfl) hx26) <|
      ils_cons rfl (iop_loadEs (eInt .i64).toEnc0 (d := .int _ _) rfl rfl (lb rfl) Try.underlying3 ag3 ti3 (by decide) (svR rfl) rfl hx27 (nle rfl) rfl) <|
      ils_cons rfl (asI rfl rfl rfl rfl) <|
      ils_end ?_)
     obtain ⟨x28, hx28, h⟩ := bno_e h
     refine iwp_reg (ils_cons rfl (iop_move rfl rfl (lb rfl) (sv (d := .osl _ _ _) rfl)) <|
      ils_cons rfl (mvI rfl rfl rfl rfl) <|
      ils_cons rfl (iop_callp (r := .bool x28) rfl rfl (lb rfl) cl54 (.cons (sv (d := .osl _ _ _) rfl) (.cons (svI rfl) .nil)) (.cons (FDT (eInt .i64) rfl rfl) (.all _)) rfl rfl (p_slices_Contains_int_int _ _ _ hx28)) <|
      ils_end ?_)
     refine iwp_cond (b := _) rfl (fun hc29 => ?_) (fun hc29 => ?_)
     ·
      replace h := bif_t h hc29
      refine iwp_reg (ils_cons rfl (mvI rfl rfl rfl rfl) <|
       ils_cons rfl (asI rfl rfl rfl rfl) <|
       ils_end ?_)
      refine iwp_ret ?_
      refine blockQ_r ?_
      refine thenQ_r ?_
      refine thenQ_r ?_
      refine blockQ_r ?_
      refine thenQ_r ?_
      obtain rfl := Option.some.inj h
      refine ⟨.inr rfl, (.cons (sv rfl) .nil)⟩
     ·
      replace h := bif_f h hc29
      refine iwp_skip ?_
      refine blockQ_n ?_
      refine thenQ_n ?_
      obtain ⟨x30, hx30, h⟩ := bnd_e h
      refine iwp_region (ils_cons rfl (iop_intx rfl rfl (lb rfl) (svI rfl) (sv (d := .int _ 1) rfl) rfl hx30) <|
       ils_cons rfl (mvI rfl rfl rfl rfl) <|
       ils_nil ?_)
      refine thenQ_n ⟨(n0, x30), (fun i => i), ⟨(.sames rfl rfl), (.cons (EntW.lst rfl) (.cons (EntW.lst rfl) .nil)), nd_of [3, 6] rfl (by decide), fun _ _ => rfl⟩, ?_, ?_⟩
      exact h
      exact Nat.lt_succ_self _
    ·
     replace h := bif_f h hc25
     refine iwp_exit ?_
     refine thenQ_e ?_
     refine thenQ_e ?_
     refine blockQ_e ?_
     refine thenQ_n ?_
     refine iwp_reg (ils_cons rfl (iop_assign rfl rfl (lb rfl) (sv (d := .int _ 0) rfl)) <|
      ils_end ?_)
     refine iwp_ret ?_
     obtain rfl := Option.some.inj h
     refine ⟨.inr rfl, (.cons (sv rfl) .nil)⟩
end Go.Proofs.Ythjfhdlaockolaa
