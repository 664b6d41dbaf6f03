/-
  No cell of these rows narrows 'for every input' (looked for: loops, veiled, ifaces, maps, wideKeys, modest, calm, conditions, laid).
  DERIVED. THE GIVEN ROWS OF THIS SEAT. 4 by the template 'for every input the law returns true; each argument reads behind the call as it read before'; 0 by the template 'total and deterministic' (their statements: YtkkpkabamlabdaaTotals.lean).
  GIVEN WITH THE SEED: the statements are not yours to turn. If you find one false, say at which input.
  Laid BY PROGRAM, IN A SANDBOX (cutbox-rows.mjs): the forced cells as the released guide's own fill.sh prints them over the translation a75684394a0e1162… (all of the seat's roots in one cut). By AI agents, Wed Nov 11 2026. No macro, syntax, notation, axiom, sorry.
-/
import Derived.Test.YtkkpkabamlabdaaChecked
import GoSem.Claim
import GoSem.ClaimJoined
import GoSem.ClaimMapViews
import Derived.JoinedTies
import Derived.KernelRfl
namespace Go.Proofs.Ytkkpkabamlabdaa
/- THE CELL 'sum', in the pinned program and in every row, IS THE sha256 OF THE DUMP (.gsa) THAT YtkkpkabamlabdaaProg.lean LOADS. Nothing in Lean hashes anything: it is a label: what it is worth is what the hold of that sum in a sandbox is worth. -/
noncomputable def Try.pinned : Pinned := { name := "ytkkpkabamlabdaa", sum := "a75684394a0e1162ff63c052022fc624fc54e276d5042d3f22d6e4e8d449099f", checked := Try.checked }
namespace Rows
def none {H : Type} : Left H := { results := [], args := [] }

/-- 'sennitlaw28.PathsChange': WHATEVER THE INPUT: true; the input reads as it did. -/
def pathsChangeSpec : ChangeSpec := { name := "pathsChange", fn := fun _ => fun
  | [d1, d2, d3] => { results := [.lit (.bool true)], args := [d1, d2, d3] }
  | _ => none }
def pathsChangeRow : OpenClaim := { program := "ytkkpkabamlabdaa", sum := "a75684394a0e1162ff63c052022fc624fc54e276d5042d3f22d6e4e8d449099f", func := "sennit/sennitlaw28.PathsChange", spec := "pathsChange", inPlace := ["slices.overlaps[sennit/paths.Bind]", "math.Float64bits", "math.Float64frombits"], unfollowed := true, recurses := true, apart := false }
def PathsChangeSaid : Prop := pathsChangeRow.holds Try.pinned (OpenSpec.ofChange pathsChangeSpec)

/-- ITS FALSE NEIGHBOUR: 'it returns false'. Refute it at one input. -/
def pathsChangeWrong : ChangeSpec := { name := "pathsChange", fn := fun _ => fun
  | [d1, d2, d3] => { results := [.lit (.bool false)], args := [d1, d2, d3] }
  | _ => none }
def PathsChangeWrongFalsely : Prop := pathsChangeRow.holds Try.pinned (OpenSpec.ofChange pathsChangeWrong)

/-- 'sennitlaw28.PathsTell': WHATEVER THE INPUT: true; the input reads as it did. -/
def pathsTellSpec : ChangeSpec := { name := "pathsTell", fn := fun _ => fun
  | [d1, d2] => { results := [.lit (.bool true)], args := [d1, d2] }
  | _ => none }
def pathsTellRow : OpenClaim := { program := "ytkkpkabamlabdaa", sum := "a75684394a0e1162ff63c052022fc624fc54e276d5042d3f22d6e4e8d449099f", func := "sennit/sennitlaw28.PathsTell", spec := "pathsTell", inPlace := ["slices.overlaps[sennit/paths.Bind]", "math.Float64bits", "math.Float64frombits"], unfollowed := true, recurses := true, apart := false }
def PathsTellSaid : Prop := pathsTellRow.holds Try.pinned (OpenSpec.ofChange pathsTellSpec)

/-- ITS FALSE NEIGHBOUR: 'it returns false'. Refute it at one input. -/
def pathsTellWrong : ChangeSpec := { name := "pathsTell", fn := fun _ => fun
  | [d1, d2] => { results := [.lit (.bool false)], args := [d1, d2] }
  | _ => none }
def PathsTellWrongFalsely : Prop := pathsTellRow.holds Try.pinned (OpenSpec.ofChange pathsTellWrong)

/-- 'sennitlaw28.PathsStay': WHATEVER THE INPUT: true; the input reads as it did. -/
def pathsStaySpec : ChangeSpec := { name := "pathsStay", fn := fun _ => fun
  | [d] => { results := [.lit (.bool true)], args := [d] }
  | _ => none }
def pathsStayRow : OpenClaim := { program := "ytkkpkabamlabdaa", sum := "a75684394a0e1162ff63c052022fc624fc54e276d5042d3f22d6e4e8d449099f", func := "sennit/sennitlaw28.PathsStay", spec := "pathsStay", inPlace := ["slices.overlaps[sennit/paths.Bind]", "math.Float64bits", "math.Float64frombits"], unfollowed := true, recurses := true, apart := false }
def PathsStaySaid : Prop := pathsStayRow.holds Try.pinned (OpenSpec.ofChange pathsStaySpec)

/-- ITS FALSE NEIGHBOUR: 'it returns false'. Refute it at one input. -/
def pathsStayWrong : ChangeSpec := { name := "pathsStay", fn := fun _ => fun
  | [d] => { results := [.lit (.bool false)], args := [d] }
  | _ => none }
def PathsStayWrongFalsely : Prop := pathsStayRow.holds Try.pinned (OpenSpec.ofChange pathsStayWrong)

/-- 'sennitlaw28.PathsBest': WHATEVER THE INPUT: true; the input reads as it did. -/
def pathsBestSpec : ChangeSpec := { name := "pathsBest", fn := fun _ => fun
  | [d1, d2] => { results := [.lit (.bool true)], args := [d1, d2] }
  | _ => none }
def pathsBestRow : OpenClaim := { program := "ytkkpkabamlabdaa", sum := "a75684394a0e1162ff63c052022fc624fc54e276d5042d3f22d6e4e8d449099f", func := "sennit/sennitlaw28.PathsBest", spec := "pathsBest", inPlace := ["slices.overlaps[sennit/paths.Bind]", "math.Float64bits", "math.Float64frombits"], unfollowed := true, recurses := true, apart := false }
def PathsBestSaid : Prop := pathsBestRow.holds Try.pinned (OpenSpec.ofChange pathsBestSpec)

/-- ITS FALSE NEIGHBOUR: 'it returns false'. Refute it at one input. -/
def pathsBestWrong : ChangeSpec := { name := "pathsBest", fn := fun _ => fun
  | [d1, d2] => { results := [.lit (.bool false)], args := [d1, d2] }
  | _ => none }
def PathsBestWrongFalsely : Prop := pathsBestRow.holds Try.pinned (OpenSpec.ofChange pathsBestWrong)

/- THE SECOND FORM. 'bulk': how many values and letters a reading holds, each counted each time it is reached (what is shared counts as often as it is met; a slice's spare places count too). A statement '..UptoSaid' is the law's where the arguments, and the package variables that the reading takes, are together of bulk at most 1048576: NARROWER than '..Said'. Prove '..Said' where nothing that the law and all that it calls make is longer than what came in: it says more and counts as full. Else prove '..UptoSaid'. A law counts once. -/
mutual
def uptoBulk {H : Type} : DataW H → Nat
  | .lit (.string bytes) => bytes.length + 1
  | .lit _ => 1
  | .nil => 1
  | .ptr d => uptoBulk d + 1
  | .slice elems spare => uptoBulkAll elems + uptoBulkAll spare + 1
  | .agg parts => uptoBulkAll parts + 1
  | .iface _ d => uptoBulk d + 1
  | .map entries => uptoBulkEntries entries + 1
  | .held _ => 1
def uptoBulkAll {H : Type} : List (DataW H) → Nat
  | [] => 0
  | d :: r => uptoBulk d + uptoBulkAll r
def uptoBulkEntries {H : Type} : List (Lit × DataW H) → Nat
  | [] => 0
  | x :: r => uptoBulkEntry x + uptoBulkEntries r
def uptoBulkEntry {H : Type} : Lit × DataW H → Nat
  | (.string bytes, d) => bytes.length + uptoBulk d + 1
  | (_, d) => uptoBulk d + 1
 end
def uptoSmall : (H : Type) → List (DataW H) → Bool := fun _ ds => decide (uptoBulkAll ds ≤ 1048576)
def OpenSpec.upto (s : _root_.Go.ChangeSpec) : _root_.Go.OpenSpec := { _root_.Go.OpenSpec.ofChange s with cond := some uptoSmall }

/-- 'sennitlaw28.PathsChange', WHERE WHAT IT READS IS OF BULK AT MOST 1048576: true; the input reads as it did. -/
def pathsChangeUptoRow : OpenClaim := { program := "ytkkpkabamlabdaa", sum := "a75684394a0e1162ff63c052022fc624fc54e276d5042d3f22d6e4e8d449099f", func := "sennit/sennitlaw28.PathsChange", spec := "pathsChange", inPlace := ["slices.overlaps[sennit/paths.Bind]", "math.Float64bits", "math.Float64frombits"], unfollowed := true, recurses := true, apart := false, narrowed := true }
def PathsChangeUptoSaid : Prop := pathsChangeUptoRow.holds Try.pinned (OpenSpec.upto pathsChangeSpec)

/-- 'sennitlaw28.PathsTell', WHERE WHAT IT READS IS OF BULK AT MOST 1048576: true; the input reads as it did. -/
def pathsTellUptoRow : OpenClaim := { program := "ytkkpkabamlabdaa", sum := "a75684394a0e1162ff63c052022fc624fc54e276d5042d3f22d6e4e8d449099f", func := "sennit/sennitlaw28.PathsTell", spec := "pathsTell", inPlace := ["slices.overlaps[sennit/paths.Bind]", "math.Float64bits", "math.Float64frombits"], unfollowed := true, recurses := true, apart := false, narrowed := true }
def PathsTellUptoSaid : Prop := pathsTellUptoRow.holds Try.pinned (OpenSpec.upto pathsTellSpec)

/-- 'sennitlaw28.PathsStay', WHERE WHAT IT READS IS OF BULK AT MOST 1048576: true; the input reads as it did. -/
def pathsStayUptoRow : OpenClaim := { program := "ytkkpkabamlabdaa", sum := "a75684394a0e1162ff63c052022fc624fc54e276d5042d3f22d6e4e8d449099f", func := "sennit/sennitlaw28.PathsStay", spec := "pathsStay", inPlace := ["slices.overlaps[sennit/paths.Bind]", "math.Float64bits", "math.Float64frombits"], unfollowed := true, recurses := true, apart := false, narrowed := true }
def PathsStayUptoSaid : Prop := pathsStayUptoRow.holds Try.pinned (OpenSpec.upto pathsStaySpec)

/-- 'sennitlaw28.PathsBest', WHERE WHAT IT READS IS OF BULK AT MOST 1048576: true; the input reads as it did. -/
def pathsBestUptoRow : OpenClaim := { program := "ytkkpkabamlabdaa", sum := "a75684394a0e1162ff63c052022fc624fc54e276d5042d3f22d6e4e8d449099f", func := "sennit/sennitlaw28.PathsBest", spec := "pathsBest", inPlace := ["slices.overlaps[sennit/paths.Bind]", "math.Float64bits", "math.Float64frombits"], unfollowed := true, recurses := true, apart := false, narrowed := true }
def PathsBestUptoSaid : Prop := pathsBestUptoRow.holds Try.pinned (OpenSpec.upto pathsBestSpec)

end Rows
end Go.Proofs.Ytkkpkabamlabdaa
