/-
  A part of the proof: rules and plain facts. No condition.
-/
import Derived.Test.YtehpkpfhgifkaaaGreatIlKf
import Derived.Test.YtehpkpfhgifkaaaGreatProg
import Derived.KernelRfl
set_option linter.all false
set_option linter.unusedVariables false
set_option maxRecDepth 100000
open Go Go.IL Go.Proofs
namespace Go.IL
/-! The law's own code. -/
/-- The input, boxed; its text is not looked at. -/
def inS (k id n m p : Int) (b : Bool) : KS := ⟨[(0, .blk 23 [.int .u8 k, .int .i64 id, .int .i64 n, .int .i64 m, .int .i64 p, .dead, .bool b])], [(1, .ref 0 0)], 1⟩
/-- Some kinds, with both flags. -/
def oks (P : Program) (c : Code) (ev : EV) (id n m p : Int) (s l : Nat) : Bool := (List.range' s l).all fun k => truK 2 (pieceE P 73 c ev [] [2] (inS (.ofNat k) id n m p true)) && truK 2 (pieceE P 73 c ev [] [2] (inS (.ofNat k) id n m p false))
theorem oks_e {P : Program} {c : Code} {ev : EV} {id n m p : Int} {s l : Nat} (h : oks P c ev id n m p s l = true) {k : Nat} (h1 : s ≤ k) (h2 : k < s + l) (b : Bool) : truK 2 (pieceE P 73 c ev [] [2] (inS (.ofNat k) id n m p b)) = true := by
  have := List.all_eq_true.1 h k (List.mem_range'.2 ⟨k - s, by omega, by omega⟩)
  rw [Bool.and_eq_true] at this
  cases b
  · exact this.2
  · exact this.1
abbrev inV (k id n m p : Int) (l : List UInt8) (b : Bool) : List D := [.int .u8 k, .int .i64 id, .int .i64 n, .int .i64 m, .int .i64 p, .str l, .bool b]
abbrev inK0 (k id n m p : Int) (l : List UInt8) (b : Bool) : KS := ⟨[], [(0, .agg (inV k id n m p l b))], 0⟩
abbrev inK1 (k id n m p : Int) (l : List UInt8) (b : Bool) : KS := ⟨[(0, .blk 23 (inV k id n m p l b))], [(1, .ref 0 0)], 1⟩
abbrev inK2 (k id n m p : Int) (l : List UInt8) (b : Bool) : KS := ⟨[(0, .blk 23 (inV k id n m p l b))], [(1, .ref 0 0), (7, .int .i64 (.ofNat l.length))], 1⟩
theorem s3a (k id n m p : Int) (l : List UInt8) (b : Bool) : pieceS Tryz.prog 73 (bodyOf Tryz.prog 3) (evN Tryz.prog fxA 200) 1 [0] [1] (inK0 k id n m p l b) = some (inK1 k id n m p l b) := by kernel_rfl
theorem s3b (k id n m p : Int) (l : List UInt8) (b : Bool) : pieceO Tryz.prog 73 (opsL (Code.part (bodyOf Tryz.prog 3) [1, 0, 0])).toArray ((opsL (Code.part (bodyOf Tryz.prog 3) [1, 0, 0])).take 3) (evN Tryz.prog fxA 200) [0] [1, 7] (inK1 k id n m p l b) = some (inK2 k id n m p l b) := by kernel_rfl
theorem s3c : truK 2 (pieceE Tryz.prog 73 (Code.part (bodyOf Tryz.prog 3) [1, 0, 1, 0]) (evN Tryz.prog fxA 200) [] [2] ⟨[], [], 1⟩) = true := by kernel_rfl
theorem b3a : cTl 1 (bodyOf Tryz.prog 3) = .seq (.seq (Code.part (bodyOf Tryz.prog 3) [1, 0, 0]) (.cond (.tmp 8) (Code.part (bodyOf Tryz.prog 3) [1, 0, 1, 0]) .skip)) (Code.part (bodyOf Tryz.prog 3) [1, 1]) := by kernel_rfl
theorem b3b : Code.part (bodyOf Tryz.prog 3) [1, 0, 0] = .region 1 (opsL (Code.part (bodyOf Tryz.prog 3) [1, 0, 0])).toArray false := by kernel_rfl
theorem b3c : opsL (Code.part (bodyOf Tryz.prog 3) [1, 0, 0]) = (opsL (Code.part (bodyOf Tryz.prog 3) [1, 0, 0])).take 3 ++ [op4 (opsL (Code.part (bodyOf Tryz.prog 3) [1, 0, 0]))] := by kernel_rfl
theorem b3d : (op4 (opsL (Code.part (bodyOf Tryz.prog 3) [1, 0, 0]))).op = .binOp .gtr 3 (.tmp 7) (.const (.int .i64 300)) 3 := by kernel_rfl
theorem b3e : (op4 (opsL (Code.part (bodyOf Tryz.prog 3) [1, 0, 0]))).dst = some 8 := by kernel_rfl
theorem b3f : quiet (op4 (opsL (Code.part (bodyOf Tryz.prog 3) [1, 0, 0]))) = true := by kernel_rfl
theorem b3g : ((opsL (Code.part (bodyOf Tryz.prog 3) [1, 0, 0])).take 3).all (fun o => o.guard.isNone) = true := by kernel_rfl
theorem cl4 : Callable Tryz.prog 4 := ⟨Tryz.f4, Tryz.func4, rfl, rfl⟩
theorem p3_of (h4 : PureAt Tryz.prog 4 [] (.bool true)) (k : Nat) (id n m p : Int) (l : List UInt8) (b : Bool) (hok : truK 2 (pieceE Tryz.prog 73 (Code.part (bodyOf Tryz.prog 3) [1, 1]) (evN Tryz.prog fxA 200) [] [2] (inS (.ofNat k) id n m p b)) = true) : PureAt Tryz.prog 3 [.agg (inV (.ofNat k) id n m p l b)] (.bool true) := by
  have hev : EvOk Tryz.prog (evN Tryz.prog fxA 200) := evN_ok (fxA_ok cl4 h4) 200
  refine pure_of_iwp (rs := [.bool true]) (N := 73) (c := bodyOf Tryz.prog 3) Tryz.func3 (by kernel_rfl) (by kernel_rfl) (show 1 ≤ 73 by decide) rfl fun O hO => ?_
  have ho : KO O := ⟨hO.round, hO.nm, hO.foot⟩
  have hkc : ∀ K S, KC O K S := fun _ _ j => .inl (hO.dv j)
  have hs0 : KSub (inK0 (.ofNat k) id n m p l b) ⟨(List.range [D.agg (inV (.ofNat k) id n m p l b)].length).zip [D.agg (inV (.ofNat k) id n m p l b)], []⟩ 1000000 := by
    refine ⟨fun x hx => ?_, fun x hx => (by cases hx), fun i _ h2 => ?_, Nat.le_refl _⟩
    · obtain rfl := List.mem_singleton.1 hx
      exact .inl rfl
    · show defE i = .fresh
      unfold defE; rw [if_neg (by omega)]
  refine (kt_piece hev 1 [0] [1] (s3a (.ofNat k) id n m p l b)).go O _ 1000000 _ ho (hkc _ _) hs0 (show 1 ≤ 1000000 by decide) fun S1 hs1 _ => ?_
  rw [b3a]
  refine iwp_seq (iwp_seq ?_)
  rw [b3b]
  refine iwp_region ?_
  rw [b3c]
  refine (ko_piece hev [0] [1, 7] b3g (s3b (.ofNat k) id n m p l b) _).go O S1 1000000 _ ho (hkc _ _) hs1 (show 1 ≤ 1000000 by decide) fun S2 hs2 _ => ?_
  have hx : SV S2 (.tmp 7) (.int .i64 (.ofNat l.length)) := by
    rcases hs2.sl (7, .int .i64 (.ofNat l.length)) (by simp) with g | g
    · exact IL.sv g
    · cases g
  refine ils_cons b3f (iop_int2 (d := .bool (decide ((300 : Int) < .ofNat l.length))) b3d b3e (by decide) hx (IL.sv rfl) (by simp [int2])) (ils_nil ?_)
  refine thenQ_n ?_
  have hs3 : KSub (inK1 (.ofNat k) id n m p l b) (S2.set 8 (.bool (decide ((300 : Int) < .ofNat l.length)))) 1000000 := by
    have h9 : KSub (inK1 (.ofNat k) id n m p l b) S2 1000000 := ⟨fun x hx => hs2.sl x (by simp at hx; simp [hx]), hs2.en, hs2.fr, hs2.lim⟩
    exact SubK.set h9 8 _ fun x hx => by simp at hx; subst hx; decide
  generalize hS3 : S2.set 8 (.bool (decide ((300 : Int) < .ofNat l.length))) = S3 at hs3
  refine iwp_cond (b := decide ((300 : Int) < .ofNat l.length)) (by subst hS3; simp [St.op, St.get, St.set, look_cons]) (fun _ => ?_) (fun _ => ?_)
  · have hs4 : KSub ⟨[], [], 1⟩ S3 1000000 := ⟨fun x hx => (by cases hx), fun x hx => (by cases hx), hs3.fr, hs3.lim⟩
    refine iwp_mono (iwp_tru hev s3c ho (hkc _ _) hs4) ?_
    rintro e S' ⟨rfl, hr⟩
    exact ⟨.inr rfl, hr⟩
  · refine iwp_skip (thenQ_n ?_)
    have he := hs3.en (0, .blk 23 (inV (.ofNat k) id n m p l b)) (by simp)
    have hsub : SubL (inV (.ofNat k) id n m p l b) [.int .u8 (.ofNat k), .int .i64 id, .int .i64 n, .int .i64 m, .int .i64 p, .dead, .bool b] := .cons (.refl _) (.cons (.refl _) (.cons (.refl _) (.cons (.refl _) (.cons (.refl _) (.cons (.dead _) (.cons (.refl _) .nil))))))
    refine iwp_subE 0 he hsub ?_
    have hs5 : KSub (inS (.ofNat k) id n m p b) (S3.setE 0 (.blk 23 [.int .u8 (.ofNat k), .int .i64 id, .int .i64 n, .int .i64 m, .int .i64 p, .dead, .bool b])) 1000000 := by
      refine ⟨hs3.sl, fun x hx => ?_, fun i h1 h2 => ?_, hs3.lim⟩
      · obtain rfl := List.mem_singleton.1 hx
        simp [EnKx, St.ent, entL, St.setE, look_cons]
      · have h1 : 1 ≤ i := h1
        rw [show (S3.setE 0 (.blk 23 [.int .u8 (.ofNat k), .int .i64 id, .int .i64 n, .int .i64 m, .int .i64 p, .dead, .bool b])).ent i = S3.ent i by simp [St.ent, entL, St.setE, look_cons, show ¬ 0 = i by omega]]
        exact hs3.fr i h1 h2
    refine iwp_mono (iwp_tru hev hok ho (hkc _ _) hs5) ?_
    rintro e S' ⟨rfl, hr⟩
    exact ⟨.inr rfl, hr⟩
end Go.IL
