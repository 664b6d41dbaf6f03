/-
  No cell of these rows narrows 'for every input' (looked for: loops, veiled, ifaces, maps, wideKeys, modest, calm, conditions, laid).
  DERIVED. THE GIVEN ROWS OF THIS SEAT. 4 by the template 'for every input the law returns true; each argument reads behind the call as it read before'; 0 by the template 'total and deterministic' (their statements: YtbacpjjiklkgfaaGreatTotals.lean).
  GIVEN WITH THE SEED: the statements are not yours to turn. If you find one false, say at which input.
  Laid BY PROGRAM, IN A SANDBOX (cutbox-rows.mjs): the forced cells as the released guide's own fill.sh prints them over the translation 389de2f24b066d50… (all of the seat's roots in one cut). By AI agents, Wed Nov 11 2026. No macro, syntax, notation, axiom, sorry.
-/
import Derived.Test.YtbacpjjiklkgfaaGreatChecked
import GoSem.Claim
import GoSem.ClaimJoined
import GoSem.ClaimMapViews
import Derived.JoinedTies
import Derived.KernelRfl
namespace Go.Proofs.YtbacpjjiklkgfaaGreat
/- THE CELL 'sum', in the pinned program and in every row, IS THE sha256 OF THE DUMP (.gsa) THAT YtbacpjjiklkgfaaGreatProg.lean LOADS. Nothing in Lean hashes anything: it is a label: what it is worth is what the hold of that sum in a sandbox is worth. -/
noncomputable def Tryz.pinned : Pinned := { name := "ytbacpjjiklkgfaagreat", sum := "389de2f24b066d500991f8d573c75206fa3da961e1ec1a3ba98477202e16123b", checked := Tryz.checked }
namespace Rows
def none {H : Type} : Left H := { results := [], args := [] }

/-- 'sennitlaw20.ShareNears': WHATEVER THE INPUT: true; the input reads as it did. -/
def shareNearsSpec : ChangeSpec := { name := "shareNears", fn := fun _ => fun
  | [d1, d2, d3] => { results := [.lit (.bool true)], args := [d1, d2, d3] }
  | _ => none }
def shareNearsRow : OpenClaim := { program := "ytbacpjjiklkgfaagreat", sum := "389de2f24b066d500991f8d573c75206fa3da961e1ec1a3ba98477202e16123b", func := "sennit/sennitlaw20.ShareNears", spec := "shareNears", inPlace := ["slices.overlaps[sennit/share.Group]"], unfollowed := true, recurses := true, apart := false }
def ShareNearsSaid : Prop := shareNearsRow.holds Tryz.pinned (OpenSpec.ofChange shareNearsSpec)

/-- ITS FALSE NEIGHBOUR: 'it returns false'. Refute it at one input. -/
def shareNearsWrong : ChangeSpec := { name := "shareNears", fn := fun _ => fun
  | [d1, d2, d3] => { results := [.lit (.bool false)], args := [d1, d2, d3] }
  | _ => none }
def ShareNearsWrongFalsely : Prop := shareNearsRow.holds Tryz.pinned (OpenSpec.ofChange shareNearsWrong)

/-- 'sennitlaw20.ShareFair': WHATEVER THE INPUT: true; the input reads as it did. -/
def shareFairSpec : ChangeSpec := { name := "shareFair", fn := fun _ => fun
  | [d1, d2, d3] => { results := [.lit (.bool true)], args := [d1, d2, d3] }
  | _ => none }
def shareFairRow : OpenClaim := { program := "ytbacpjjiklkgfaagreat", sum := "389de2f24b066d500991f8d573c75206fa3da961e1ec1a3ba98477202e16123b", func := "sennit/sennitlaw20.ShareFair", spec := "shareFair", inPlace := ["slices.overlaps[sennit/share.Group]"], unfollowed := true, recurses := true, apart := false }
def ShareFairSaid : Prop := shareFairRow.holds Tryz.pinned (OpenSpec.ofChange shareFairSpec)

/-- ITS FALSE NEIGHBOUR: 'it returns false'. Refute it at one input. -/
def shareFairWrong : ChangeSpec := { name := "shareFair", fn := fun _ => fun
  | [d1, d2, d3] => { results := [.lit (.bool false)], args := [d1, d2, d3] }
  | _ => none }
def ShareFairWrongFalsely : Prop := shareFairRow.holds Tryz.pinned (OpenSpec.ofChange shareFairWrong)

/-- 'sennitlaw20.SharePicks': WHATEVER THE INPUT: true; the input reads as it did. -/
def sharePicksSpec : ChangeSpec := { name := "sharePicks", fn := fun _ => fun
  | [d1, d2, d3] => { results := [.lit (.bool true)], args := [d1, d2, d3] }
  | _ => none }
def sharePicksRow : OpenClaim := { program := "ytbacpjjiklkgfaagreat", sum := "389de2f24b066d500991f8d573c75206fa3da961e1ec1a3ba98477202e16123b", func := "sennit/sennitlaw20.SharePicks", spec := "sharePicks", inPlace := ["slices.overlaps[sennit/share.Group]"], unfollowed := true, recurses := true, apart := false }
def SharePicksSaid : Prop := sharePicksRow.holds Tryz.pinned (OpenSpec.ofChange sharePicksSpec)

/-- ITS FALSE NEIGHBOUR: 'it returns false'. Refute it at one input. -/
def sharePicksWrong : ChangeSpec := { name := "sharePicks", fn := fun _ => fun
  | [d1, d2, d3] => { results := [.lit (.bool false)], args := [d1, d2, d3] }
  | _ => none }
def SharePicksWrongFalsely : Prop := sharePicksRow.holds Tryz.pinned (OpenSpec.ofChange sharePicksWrong)

/-- 'sennitlaw20.ShareReady': WHATEVER THE INPUT: true; the input reads as it did. -/
def shareReadySpec : ChangeSpec := { name := "shareReady", fn := fun _ => fun
  | [d1, d2] => { results := [.lit (.bool true)], args := [d1, d2] }
  | _ => none }
def shareReadyRow : OpenClaim := { program := "ytbacpjjiklkgfaagreat", sum := "389de2f24b066d500991f8d573c75206fa3da961e1ec1a3ba98477202e16123b", func := "sennit/sennitlaw20.ShareReady", spec := "shareReady", inPlace := ["slices.overlaps[sennit/share.Group]"], unfollowed := true, recurses := true, apart := false }
def ShareReadySaid : Prop := shareReadyRow.holds Tryz.pinned (OpenSpec.ofChange shareReadySpec)

/-- ITS FALSE NEIGHBOUR: 'it returns false'. Refute it at one input. -/
def shareReadyWrong : ChangeSpec := { name := "shareReady", fn := fun _ => fun
  | [d1, d2] => { results := [.lit (.bool false)], args := [d1, d2] }
  | _ => none }
def ShareReadyWrongFalsely : Prop := shareReadyRow.holds Tryz.pinned (OpenSpec.ofChange shareReadyWrong)

/- THE SECOND FORM. 'bulk': how many values and letters a reading holds, each counted each time it is reached (what is shared counts as often as it is met; a slice's spare places count too). A statement '..UptoSaid' is the law's where the arguments, and the package variables that the reading takes, are together of bulk at most 1048576: NARROWER than '..Said'. Prove '..Said' where nothing that the law and all that it calls make is longer than what came in: it says more and counts as full. Else prove '..UptoSaid'. A law counts once. -/
mutual
def uptoBulk {H : Type} : DataW H → Nat
  | .lit (.string bytes) => bytes.length + 1
  | .lit _ => 1
  | .nil => 1
  | .ptr d => uptoBulk d + 1
  | .slice elems spare => uptoBulkAll elems + uptoBulkAll spare + 1
  | .agg parts => uptoBulkAll parts + 1
  | .iface _ d => uptoBulk d + 1
  | .map entries => uptoBulkEntries entries + 1
  | .held _ => 1
def uptoBulkAll {H : Type} : List (DataW H) → Nat
  | [] => 0
  | d :: r => uptoBulk d + uptoBulkAll r
def uptoBulkEntries {H : Type} : List (Lit × DataW H) → Nat
  | [] => 0
  | x :: r => uptoBulkEntry x + uptoBulkEntries r
def uptoBulkEntry {H : Type} : Lit × DataW H → Nat
  | (.string bytes, d) => bytes.length + uptoBulk d + 1
  | (_, d) => uptoBulk d + 1
 end
def uptoSmall : (H : Type) → List (DataW H) → Bool := fun _ ds => decide (uptoBulkAll ds ≤ 1048576)
def OpenSpec.upto (s : _root_.Go.ChangeSpec) : _root_.Go.OpenSpec := { _root_.Go.OpenSpec.ofChange s with cond := some uptoSmall }

/-- 'sennitlaw20.ShareNears', WHERE WHAT IT READS IS OF BULK AT MOST 1048576: true; the input reads as it did. -/
def shareNearsUptoRow : OpenClaim := { program := "ytbacpjjiklkgfaagreat", sum := "389de2f24b066d500991f8d573c75206fa3da961e1ec1a3ba98477202e16123b", func := "sennit/sennitlaw20.ShareNears", spec := "shareNears", inPlace := ["slices.overlaps[sennit/share.Group]"], unfollowed := true, recurses := true, apart := false, narrowed := true }
def ShareNearsUptoSaid : Prop := shareNearsUptoRow.holds Tryz.pinned (OpenSpec.upto shareNearsSpec)

/-- 'sennitlaw20.ShareFair', WHERE WHAT IT READS IS OF BULK AT MOST 1048576: true; the input reads as it did. -/
def shareFairUptoRow : OpenClaim := { program := "ytbacpjjiklkgfaagreat", sum := "389de2f24b066d500991f8d573c75206fa3da961e1ec1a3ba98477202e16123b", func := "sennit/sennitlaw20.ShareFair", spec := "shareFair", inPlace := ["slices.overlaps[sennit/share.Group]"], unfollowed := true, recurses := true, apart := false, narrowed := true }
def ShareFairUptoSaid : Prop := shareFairUptoRow.holds Tryz.pinned (OpenSpec.upto shareFairSpec)

/-- 'sennitlaw20.SharePicks', WHERE WHAT IT READS IS OF BULK AT MOST 1048576: true; the input reads as it did. -/
def sharePicksUptoRow : OpenClaim := { program := "ytbacpjjiklkgfaagreat", sum := "389de2f24b066d500991f8d573c75206fa3da961e1ec1a3ba98477202e16123b", func := "sennit/sennitlaw20.SharePicks", spec := "sharePicks", inPlace := ["slices.overlaps[sennit/share.Group]"], unfollowed := true, recurses := true, apart := false, narrowed := true }
def SharePicksUptoSaid : Prop := sharePicksUptoRow.holds Tryz.pinned (OpenSpec.upto sharePicksSpec)

/-- 'sennitlaw20.ShareReady', WHERE WHAT IT READS IS OF BULK AT MOST 1048576: true; the input reads as it did. -/
def shareReadyUptoRow : OpenClaim := { program := "ytbacpjjiklkgfaagreat", sum := "389de2f24b066d500991f8d573c75206fa3da961e1ec1a3ba98477202e16123b", func := "sennit/sennitlaw20.ShareReady", spec := "shareReady", inPlace := ["slices.overlaps[sennit/share.Group]"], unfollowed := true, recurses := true, apart := false, narrowed := true }
def ShareReadyUptoSaid : Prop := shareReadyUptoRow.holds Tryz.pinned (OpenSpec.upto shareReadySpec)

end Rows
end Go.Proofs.YtbacpjjiklkgfaaGreat
