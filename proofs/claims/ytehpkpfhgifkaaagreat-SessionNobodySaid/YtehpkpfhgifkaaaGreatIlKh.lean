/-
  A part of the proof: rules and plain facts. No condition.
-/
import Derived.Test.YtehpkpfhgifkaaaGreatIlKf
import Derived.Test.YtehpkpfhgifkaaaGreatProg
import Derived.KernelRfl
set_option linter.all false
set_option linter.unusedVariables false
set_option maxRecDepth 100000
open Go Go.IL Go.Proofs
namespace Go.IL
/-! How awake's code lies. -/
def evD (P : Program) : EV := evN P (fxE P 14) 200
def bdA (P : Program) : Code := Code.part (cTl 7 (bodyOf P 4)) [0, 1, 0, 0]
def b13 (P : Program) : Code := bodyOf P 13
def l13 (P : Program) : Code := Code.part (bodyOf P 13) [1, 1, 0, 1, 0, 0]
def rgA (P : Program) (n : Nat) : Code := Code.part (bdA P) [1, 0, 0, n]
def op3 (l : List Oper) : Oper := match l with
  | _ :: _ :: o :: _ => o
  | _ => ⟨none, .move (.tmp 0), 0, "", #[], none⟩
def KS.ids (K : KS) : List Nat := K.l.map (·.1)
def KS.ts (K : KS) : List Nat := K.s.map (·.1)
/-- More slots. -/
def KS.with (K : KS) (s : List (Nat × D)) : KS := ⟨K.l, K.s ++ s, K.n⟩
theorem hevD : EvOk Tryz.prog (evD Tryz.prog) := evN_ok (fxE_ok 14) 200
theorem kg_weak {P : Program} {N : Nat} {c : Code} {e : Exit} {K K' K'' : KS} (h : KGo P N c K e K') (hl : K''.l = K'.l) (hs : ∀ x ∈ K''.s, x ∈ K'.s) (hn : K''.n = K'.n) : KGo P N c K e K'' := by
  refine ⟨⟨by rw [hn]; exact h.fw.le, by rw [hl, hn]; exact h.fw.old⟩, fun O S L Q ho hc hks hL k => h.go O S L Q ho hc hks (by rw [← hn]; exact hL) fun S' hs' hp' => k S' ⟨fun x hx => hs'.sl x (hs x hx), by rw [hl]; exact hs'.en, by rw [hn]; exact hs'.fr, hs'.lim⟩ ⟨by rw [hn]; exact hp'.p1, hp'.p3⟩⟩
theorem hA7 : cTl 7 (bodyOf Tryz.prog 4) = .seq (.seq (Code.part (cTl 7 (bodyOf Tryz.prog 4)) [0, 0]) (.block 0 (.loop (bdA Tryz.prog)))) (cTl 8 (bodyOf Tryz.prog 4)) := by kernel_rfl
theorem hbdA : bdA Tryz.prog = .seq (Code.part (bdA Tryz.prog) [0]) (.seq (.block 1 (.seq (rgA Tryz.prog 0) (rgA Tryz.prog 1))) (Code.part (bdA Tryz.prog) [1, 1])) := by kernel_rfl
theorem h13a : cTl 2 (b13 Tryz.prog) = .seq (.seq (Code.part (b13 Tryz.prog) [1, 1, 0, 0]) (.block 0 (.loop (l13 Tryz.prog)))) (Code.part (b13 Tryz.prog) [1, 1, 1]) := by kernel_rfl
theorem hr0a : rgA Tryz.prog 0 = .region 11 (opsL (rgA Tryz.prog 0)).toArray false := by kernel_rfl
theorem hr0b : opsL (rgA Tryz.prog 0) = (opsL (rgA Tryz.prog 0)).take 2 ++ [op3 (opsL (rgA Tryz.prog 0))] := by kernel_rfl
theorem hr0c : (op3 (opsL (rgA Tryz.prog 0))).op = .call { callee := .value (.func 13), args := [.tmp 67, .tmp 68, .const (.int .i64 0)].toArray, argTypes := #[25, 25, 3] } := by kernel_rfl
theorem hr0d : (op3 (opsL (rgA Tryz.prog 0))).dst = some 69 := by kernel_rfl
theorem hr0e : (op3 (opsL (rgA Tryz.prog 0))).guard = none := by kernel_rfl
theorem hr0f : ((opsL (rgA Tryz.prog 0)).take 2).all (fun o => o.guard.isNone) = true := by kernel_rfl
theorem hr1a : rgA Tryz.prog 1 = .region 12 (opsL (rgA Tryz.prog 1)).toArray false := by kernel_rfl
theorem hr1b : opsL (rgA Tryz.prog 1) = (opsL (rgA Tryz.prog 1)).take 2 ++ [op3 (opsL (rgA Tryz.prog 1))] := by kernel_rfl
theorem hr1c : (op3 (opsL (rgA Tryz.prog 1))).op = .call { callee := .value (.func 13), args := [.tmp 70, .tmp 71, .const (.int .i64 0)].toArray, argTypes := #[25, 25, 3] } := by kernel_rfl
theorem hr1d : (op3 (opsL (rgA Tryz.prog 1))).dst = some 72 := by kernel_rfl
theorem hr1e : (op3 (opsL (rgA Tryz.prog 1))).guard = none := by kernel_rfl
theorem hr1f : ((opsL (rgA Tryz.prog 1)).take 2).all (fun o => o.guard.isNone) = true := by kernel_rfl
theorem cl13 : Callable Tryz.prog 13 := ⟨Tryz.f13, Tryz.func13, rfl, rfl⟩
theorem bd13 : Tryz.f13.body = some (b13 Tryz.prog) := by kernel_rfl
theorem rs13 : Tryz.f13.results = #[.tmp 6] := by kernel_rfl
theorem nt13 : Tryz.f13.ntmps = 27 := by kernel_rfl
/-- A drive, in parts: Out, the packets, the end. -/
theorem drive_of {K O Q F : KS} (h1 : pieceS Tryz.prog 27 (b13 Tryz.prog) (evD Tryz.prog) 2 O.ids O.ts K = some O)
    (h2 : pieceE Tryz.prog 27 (Code.part (b13 Tryz.prog) [1, 1, 0, 0]) (evD Tryz.prog) O.ids (O.with [(8, .int .i64 0)]).ts O = some (.normal, O.with [(8, .int .i64 0)]))
    (h3 : KLp Tryz.prog 27 (l13 Tryz.prog) (O.with [(8, .int .i64 0)]) none Q) (h4 : pieceE Tryz.prog 27 (l13 Tryz.prog) (evD Tryz.prog) Q.ids Q.ts Q = some (.exit 0, Q))
    (h5 : pieceE Tryz.prog 27 (Code.part (b13 Tryz.prog) [1, 1, 1]) (evD Tryz.prog) F.ids F.ts Q = some (.ret, F)) : KGo Tryz.prog 27 (b13 Tryz.prog) K .ret F := by
  have ht := kt_piece hevD 2 _ _ h1
  rw [h13a] at ht
  refine ht.end ((kt_seq (kg_seq (kg_piece hevD _ _ h2) (kg_block (kg_loop (kl_trans h3 (kl_end (kg_piece hevD _ _ h4))))))).end (kg_piece hevD _ _ h5))
theorem sv_in {K : KS} {S : St} {L t : Nat} {d : D} (hs : KSub K S L) (h : (t, d) ∈ K.s) (hd : d ≠ .dead) : SV S (.tmp t) d := by
  rcases hs.sl (t, d) h with g | g
  · exact IL.sv g
  · exact absurd g hd
/-- A drive at its place. -/
theorem reg0 {K B F : KS} {x y z d : Nat} (h1 : pieceO Tryz.prog 176 (opsL (rgA Tryz.prog 0)).toArray ((opsL (rgA Tryz.prog 0)).take 2) (evD Tryz.prog) K.ids (K.with [(67, .ref x 0), (68, .ref y 0)]).ts K = some (K.with [(67, .ref x 0), (68, .ref y 0)]))
    (hts : (K.with [(67, .ref x 0), (68, .ref y 0)]).s.all (fun p => !Nat.beq p.1 69) = true) (hg : KGo Tryz.prog 27 (b13 Tryz.prog) ⟨K.l, [(0, .ref x 0), (1, .ref y 0), (2, .int .i64 0)], K.n + 1⟩ .ret F)
    (hF : F.s = [(6, .int .i64 (.ofNat d))]) (hl : B.l = F.l) (hn : B.n = F.n) (hs : B.s = K.s) : KGo Tryz.prog 176 (rgA Tryz.prog 0) K .normal B := by
  rw [hr0a]
  have h2 := ko_piece hevD (l1 := (opsL (rgA Tryz.prog 0)).take 2) _ _ hr0f h1 [op3 (opsL (rgA Tryz.prog 0))]
  rw [← hr0b] at h2
  have h3 := k_call (N := 176) (K := K.with [(67, .ref x 0), (68, .ref y 0)]) (l := []) (ops := (opsL (rgA Tryz.prog 0)).toArray) (xs := [.tmp 67, .tmp 68, .const (.int .i64 0)]) (ds := [.ref x 0, .ref y 0, .int .i64 0]) (t := 69) Tryz.func13 bd13 cl13 rs13 (by rw [nt13]; show 3 ≤ 27; decide) (by rw [nt13]; exact hg) hF (by simp) hr0e hr0c hr0d (by decide)
    (fun p hp e => by have := List.all_eq_true.1 hts p hp; rw [e] at this; simp at this)
    (fun S L hks => .cons (sv_in hks (by simp [KS.with]) (by simp)) (.cons (sv_in hks (by simp [KS.with]) (by simp)) (.cons (IL.sv rfl) .nil)))
  refine kg_weak (kg_region (h2.trans h3)) hl (fun p hp => ?_) hn
  rw [hs] at hp
  simp [KS.with, hp]
theorem reg1 {K B F : KS} {x y z d : Nat} (h1 : pieceO Tryz.prog 176 (opsL (rgA Tryz.prog 1)).toArray ((opsL (rgA Tryz.prog 1)).take 2) (evD Tryz.prog) K.ids (K.with [(70, .ref x 0), (71, .ref y 0)]).ts K = some (K.with [(70, .ref x 0), (71, .ref y 0)]))
    (hts : (K.with [(70, .ref x 0), (71, .ref y 0)]).s.all (fun p => !Nat.beq p.1 72) = true) (hg : KGo Tryz.prog 27 (b13 Tryz.prog) ⟨K.l, [(0, .ref x 0), (1, .ref y 0), (2, .int .i64 0)], K.n + 1⟩ .ret F)
    (hF : F.s = [(6, .int .i64 (.ofNat d))]) (hl : B.l = F.l) (hn : B.n = F.n) (hs : B.s = K.s) : KGo Tryz.prog 176 (rgA Tryz.prog 1) K .normal B := by
  rw [hr1a]
  have h2 := ko_piece hevD (l1 := (opsL (rgA Tryz.prog 1)).take 2) _ _ hr1f h1 [op3 (opsL (rgA Tryz.prog 1))]
  rw [← hr1b] at h2
  have h3 := k_call (N := 176) (K := K.with [(70, .ref x 0), (71, .ref y 0)]) (l := []) (ops := (opsL (rgA Tryz.prog 1)).toArray) (xs := [.tmp 70, .tmp 71, .const (.int .i64 0)]) (ds := [.ref x 0, .ref y 0, .int .i64 0]) (t := 72) Tryz.func13 bd13 cl13 rs13 (by rw [nt13]; show 3 ≤ 27; decide) (by rw [nt13]; exact hg) hF (by simp) hr1e hr1c hr1d (by decide)
    (fun p hp e => by have := List.all_eq_true.1 hts p hp; rw [e] at this; simp at this)
    (fun S L hks => .cons (sv_in hks (by simp [KS.with]) (by simp)) (.cons (sv_in hks (by simp [KS.with]) (by simp)) (.cons (IL.sv rfl) .nil)))
  refine kg_weak (kg_region (h2.trans h3)) hl (fun p hp => ?_) hn
  rw [hs] at hp
  simp [KS.with, hp]
/-- All of awake. -/
theorem awake_of {K0 A1 A10 K11 K12 : KS} (h1 : pieceS Tryz.prog 176 (bodyOf Tryz.prog 4) (evD Tryz.prog) 7 K0.ids K0.ts ⟨[], [], 0⟩ = some K0)
    (h2 : pieceE Tryz.prog 176 (Code.part (cTl 7 (bodyOf Tryz.prog 4)) [0, 0]) (evD Tryz.prog) A1.ids A1.ts K0 = some (.normal, A1)) (h3 : KLp Tryz.prog 176 (bdA Tryz.prog) A1 none A10)
    (h4 : pieceE Tryz.prog 176 (bdA Tryz.prog) (evD Tryz.prog) A10.ids A10.ts A10 = some (.exit 0, A10)) (h5 : pieceS Tryz.prog 176 (cTl 8 (bodyOf Tryz.prog 4)) (evD Tryz.prog) 3 K11.ids K11.ts A10 = some K11)
    (h6 : pieceS Tryz.prog 176 (cTl 11 (bodyOf Tryz.prog 4)) (evD Tryz.prog) 3 K12.ids K12.ts K11 = some K12) (h7 : truK 0 (pieceE Tryz.prog 176 (cTl 14 (bodyOf Tryz.prog 4)) (evD Tryz.prog) [] [0] K12) = true) : PureAt Tryz.prog 4 [] (.bool true) := by
  obtain ⟨K', rest, g1, g2, g3⟩ := truK_e h7
  have ht := kt_piece hevD 7 _ _ h1
  rw [hA7] at ht
  have h9 : KGo Tryz.prog 176 (bodyOf Tryz.prog 4) ⟨[], [], 0⟩ .ret K' := by
    refine ht.end ((kt_seq (kg_seq (kg_piece hevD _ _ h2) (kg_block (kg_loop (kl_trans h3 (kl_end (kg_piece hevD _ _ h4))))))).end ?_)
    have t5 := kt_piece hevD 3 _ _ h5
    have t6 := kt_piece hevD 3 _ _ h6
    rw [show cTl 3 (cTl 8 (bodyOf Tryz.prog 4)) = cTl 11 (bodyOf Tryz.prog 4) by kernel_rfl] at t5
    rw [show cTl 3 (cTl 11 (bodyOf Tryz.prog 4)) = cTl 14 (bodyOf Tryz.prog 4) by kernel_rfl] at t6
    exact (t5.trans t6).end (kg_piece hevD _ _ g1)
  exact pure_of_kgo Tryz.func4 (by kernel_rfl) (by kernel_rfl) (by kernel_rfl) h9 g2 rfl (by simp) g3
/-- A round of the loop. -/
theorem round_of {K B C K' : KS} (h1 : pieceE Tryz.prog 176 (Code.part (bdA Tryz.prog) [0]) (evD Tryz.prog) K.ids K.ts K = some (.normal, K)) (h2 : KGo Tryz.prog 176 (rgA Tryz.prog 0) K .normal B) (h3 : KGo Tryz.prog 176 (rgA Tryz.prog 1) B .normal C)
    (h4 : pieceE Tryz.prog 176 (Code.part (bdA Tryz.prog) [1, 1]) (evD Tryz.prog) K'.ids K'.ts C = some (.normal, K')) : KLp Tryz.prog 176 (bdA Tryz.prog) K none K' := by
  refine kl_round ?_
  rw [hbdA]
  exact kg_seq (kg_piece hevD _ _ h1) (kg_seq (kg_blockn (kg_seq h2 h3)) (kg_piece hevD _ _ h4))
end Go.IL
