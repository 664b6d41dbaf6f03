/-
  No cell of these rows narrows 'for every input' (looked for: loops, veiled, ifaces, maps, wideKeys, modest, calm, conditions, laid).
  DERIVED. THE GIVEN ROWS OF THIS SEAT. 4 by the template 'for every input the law returns true; each argument reads behind the call as it read before'; 0 by the template 'total and deterministic' (their statements: YthjfhdlaockolaaTotals.lean).
  GIVEN WITH THE SEED: the statements are not yours to turn. If you find one false, say at which input.
  Laid BY PROGRAM, IN A SANDBOX (cutbox-rows.mjs): the forced cells as the released guide's own fill.sh prints them over the translation eda05eab9515bf64… (all of the seat's roots in one cut). By AI agents, Wed Nov 11 2026. No macro, syntax, notation, axiom, sorry.
-/
import Derived.Test.YthjfhdlaockolaaChecked
import GoSem.Claim
import GoSem.ClaimJoined
import GoSem.ClaimMapViews
import Derived.JoinedTies
import Derived.KernelRfl
namespace Go.Proofs.Ythjfhdlaockolaa
/- THE CELL 'sum', in the pinned program and in every row, IS THE sha256 OF THE DUMP (.gsa) THAT YthjfhdlaockolaaProg.lean LOADS. Nothing in Lean hashes anything: it is a label: what it is worth is what the hold of that sum in a sandbox is worth. -/
noncomputable def Try.pinned : Pinned := { name := "ythjfhdlaockolaa", sum := "eda05eab9515bf647627d4f3f3a5a106580b42b8ae1dcabfa604cd993a357969", checked := Try.checked }
namespace Rows
def none {H : Type} : Left H := { results := [], args := [] }

/-- 'sennitlaw34.FoldDoes': WHATEVER THE INPUT: true; the input reads as it did. -/
def foldDoesSpec : ChangeSpec := { name := "foldDoes", fn := fun _ => fun
  | [d1, d2, d3] => { results := [.lit (.bool true)], args := [d1, d2, d3] }
  | _ => none }
def foldDoesRow : OpenClaim := { program := "ythjfhdlaockolaa", sum := "eda05eab9515bf647627d4f3f3a5a106580b42b8ae1dcabfa604cd993a357969", func := "sennit/sennitlaw34.FoldDoes", spec := "foldDoes", inPlace := ["slices.overlaps[sennit/ptree.Node]"], unfollowed := true, recurses := true, apart := false }
def FoldDoesSaid : Prop := foldDoesRow.holds Try.pinned (OpenSpec.ofChange foldDoesSpec)

/-- ITS FALSE NEIGHBOUR: 'it returns false'. Refute it at one input. -/
def foldDoesWrong : ChangeSpec := { name := "foldDoes", fn := fun _ => fun
  | [d1, d2, d3] => { results := [.lit (.bool false)], args := [d1, d2, d3] }
  | _ => none }
def FoldDoesWrongFalsely : Prop := foldDoesRow.holds Try.pinned (OpenSpec.ofChange foldDoesWrong)

/-- 'sennitlaw34.FoldTells': WHATEVER THE INPUT: true; the input reads as it did. -/
def foldTellsSpec : ChangeSpec := { name := "foldTells", fn := fun _ => fun
  | [d1, d2, d3] => { results := [.lit (.bool true)], args := [d1, d2, d3] }
  | _ => none }
def foldTellsRow : OpenClaim := { program := "ythjfhdlaockolaa", sum := "eda05eab9515bf647627d4f3f3a5a106580b42b8ae1dcabfa604cd993a357969", func := "sennit/sennitlaw34.FoldTells", spec := "foldTells", inPlace := ["slices.overlaps[sennit/ptree.Node]"], unfollowed := true, recurses := true, apart := false }
def FoldTellsSaid : Prop := foldTellsRow.holds Try.pinned (OpenSpec.ofChange foldTellsSpec)

/-- ITS FALSE NEIGHBOUR: 'it returns false'. Refute it at one input. -/
def foldTellsWrong : ChangeSpec := { name := "foldTells", fn := fun _ => fun
  | [d1, d2, d3] => { results := [.lit (.bool false)], args := [d1, d2, d3] }
  | _ => none }
def FoldTellsWrongFalsely : Prop := foldTellsRow.holds Try.pinned (OpenSpec.ofChange foldTellsWrong)

/-- 'sennitlaw34.FoldDeeper': WHATEVER THE INPUT: true; the input reads as it did. -/
def foldDeeperSpec : ChangeSpec := { name := "foldDeeper", fn := fun _ => fun
  | [d] => { results := [.lit (.bool true)], args := [d] }
  | _ => none }
def foldDeeperRow : OpenClaim := { program := "ythjfhdlaockolaa", sum := "eda05eab9515bf647627d4f3f3a5a106580b42b8ae1dcabfa604cd993a357969", func := "sennit/sennitlaw34.FoldDeeper", spec := "foldDeeper", inPlace := ["slices.overlaps[sennit/ptree.Node]"], unfollowed := true, recurses := true, apart := false }
def FoldDeeperSaid : Prop := foldDeeperRow.holds Try.pinned (OpenSpec.ofChange foldDeeperSpec)

/-- ITS FALSE NEIGHBOUR: 'it returns false'. Refute it at one input. -/
def foldDeeperWrong : ChangeSpec := { name := "foldDeeper", fn := fun _ => fun
  | [d] => { results := [.lit (.bool false)], args := [d] }
  | _ => none }
def FoldDeeperWrongFalsely : Prop := foldDeeperRow.holds Try.pinned (OpenSpec.ofChange foldDeeperWrong)

/-- 'sennitlaw34.FoldWeights': WHATEVER THE INPUT: true; the input reads as it did. -/
def foldWeightsSpec : ChangeSpec := { name := "foldWeights", fn := fun _ => fun
  | [d1, d2] => { results := [.lit (.bool true)], args := [d1, d2] }
  | _ => none }
def foldWeightsRow : OpenClaim := { program := "ythjfhdlaockolaa", sum := "eda05eab9515bf647627d4f3f3a5a106580b42b8ae1dcabfa604cd993a357969", func := "sennit/sennitlaw34.FoldWeights", spec := "foldWeights", inPlace := ["slices.overlaps[sennit/ptree.Node]"], unfollowed := true, recurses := true, apart := false }
def FoldWeightsSaid : Prop := foldWeightsRow.holds Try.pinned (OpenSpec.ofChange foldWeightsSpec)

/-- ITS FALSE NEIGHBOUR: 'it returns false'. Refute it at one input. -/
def foldWeightsWrong : ChangeSpec := { name := "foldWeights", fn := fun _ => fun
  | [d1, d2] => { results := [.lit (.bool false)], args := [d1, d2] }
  | _ => none }
def FoldWeightsWrongFalsely : Prop := foldWeightsRow.holds Try.pinned (OpenSpec.ofChange foldWeightsWrong)

/- THE SECOND FORM. 'bulk': how many values and letters a reading holds, each counted each time it is reached (what is shared counts as often as it is met; a slice's spare places count too). A statement '..UptoSaid' is the law's where the arguments, and the package variables that the reading takes, are together of bulk at most 1048576: NARROWER than '..Said'. Prove '..Said' where nothing that the law and all that it calls make is longer than what came in: it says more and counts as full. Else prove '..UptoSaid'. A law counts once. -/
mutual
def uptoBulk {H : Type} : DataW H → Nat
  | .lit (.string bytes) => bytes.length + 1
  | .lit _ => 1
  | .nil => 1
  | .ptr d => uptoBulk d + 1
  | .slice elems spare => uptoBulkAll elems + uptoBulkAll spare + 1
  | .agg parts => uptoBulkAll parts + 1
  | .iface _ d => uptoBulk d + 1
  | .map entries => uptoBulkEntries entries + 1
  | .held _ => 1
def uptoBulkAll {H : Type} : List (DataW H) → Nat
  | [] => 0
  | d :: r => uptoBulk d + uptoBulkAll r
def uptoBulkEntries {H : Type} : List (Lit × DataW H) → Nat
  | [] => 0
  | x :: r => uptoBulkEntry x + uptoBulkEntries r
def uptoBulkEntry {H : Type} : Lit × DataW H → Nat
  | (.string bytes, d) => bytes.length + uptoBulk d + 1
  | (_, d) => uptoBulk d + 1
 end
def uptoSmall : (H : Type) → List (DataW H) → Bool := fun _ ds => decide (uptoBulkAll ds ≤ 1048576)
def OpenSpec.upto (s : _root_.Go.ChangeSpec) : _root_.Go.OpenSpec := { _root_.Go.OpenSpec.ofChange s with cond := some uptoSmall }

/-- 'sennitlaw34.FoldDoes', WHERE WHAT IT READS IS OF BULK AT MOST 1048576: true; the input reads as it did. -/
def foldDoesUptoRow : OpenClaim := { program := "ythjfhdlaockolaa", sum := "eda05eab9515bf647627d4f3f3a5a106580b42b8ae1dcabfa604cd993a357969", func := "sennit/sennitlaw34.FoldDoes", spec := "foldDoes", inPlace := ["slices.overlaps[sennit/ptree.Node]"], unfollowed := true, recurses := true, apart := false, narrowed := true }
def FoldDoesUptoSaid : Prop := foldDoesUptoRow.holds Try.pinned (OpenSpec.upto foldDoesSpec)

/-- 'sennitlaw34.FoldTells', WHERE WHAT IT READS IS OF BULK AT MOST 1048576: true; the input reads as it did. -/
def foldTellsUptoRow : OpenClaim := { program := "ythjfhdlaockolaa", sum := "eda05eab9515bf647627d4f3f3a5a106580b42b8ae1dcabfa604cd993a357969", func := "sennit/sennitlaw34.FoldTells", spec := "foldTells", inPlace := ["slices.overlaps[sennit/ptree.Node]"], unfollowed := true, recurses := true, apart := false, narrowed := true }
def FoldTellsUptoSaid : Prop := foldTellsUptoRow.holds Try.pinned (OpenSpec.upto foldTellsSpec)

/-- 'sennitlaw34.FoldDeeper', WHERE WHAT IT READS IS OF BULK AT MOST 1048576: true; the input reads as it did. -/
def foldDeeperUptoRow : OpenClaim := { program := "ythjfhdlaockolaa", sum := "eda05eab9515bf647627d4f3f3a5a106580b42b8ae1dcabfa604cd993a357969", func := "sennit/sennitlaw34.FoldDeeper", spec := "foldDeeper", inPlace := ["slices.overlaps[sennit/ptree.Node]"], unfollowed := true, recurses := true, apart := false, narrowed := true }
def FoldDeeperUptoSaid : Prop := foldDeeperUptoRow.holds Try.pinned (OpenSpec.upto foldDeeperSpec)

/-- 'sennitlaw34.FoldWeights', WHERE WHAT IT READS IS OF BULK AT MOST 1048576: true; the input reads as it did. -/
def foldWeightsUptoRow : OpenClaim := { program := "ythjfhdlaockolaa", sum := "eda05eab9515bf647627d4f3f3a5a106580b42b8ae1dcabfa604cd993a357969", func := "sennit/sennitlaw34.FoldWeights", spec := "foldWeights", inPlace := ["slices.overlaps[sennit/ptree.Node]"], unfollowed := true, recurses := true, apart := false, narrowed := true }
def FoldWeightsUptoSaid : Prop := foldWeightsUptoRow.holds Try.pinned (OpenSpec.upto foldWeightsSpec)

end Rows
end Go.Proofs.Ythjfhdlaockolaa
