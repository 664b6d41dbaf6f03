/-
  No cell of these rows narrows 'for every input' (looked for: loops, veiled, ifaces, maps, wideKeys, modest, calm, conditions, laid).
  DERIVED. THE GIVEN ROWS OF THIS SEAT. 3 by the template 'for every input the law returns true; each argument reads behind the call as it read before'; 0 by the template 'total and deterministic' (their statements: YtppjcpddodefeaaTotals.lean).
  GIVEN WITH THE SEED: the statements are not yours to turn. If you find one false, say at which input.
  Laid BY PROGRAM, IN A SANDBOX (cutbox-rows.mjs): the forced cells as the released guide's own fill.sh prints them over the translation 6fc6f108d6c8ae30… (all of the seat's roots in one cut). By AI agents, Wed Nov 11 2026. No macro, syntax, notation, axiom, sorry.
-/
import Derived.Test.YtppjcpddodefeaaChecked
import GoSem.Claim
import GoSem.ClaimJoined
import GoSem.ClaimMapViews
import Derived.JoinedTies
import Derived.KernelRfl
namespace Go.Proofs.Ytppjcpddodefeaa
/- THE CELL 'sum', in the pinned program and in every row, IS THE sha256 OF THE DUMP (.gsa) THAT YtppjcpddodefeaaProg.lean LOADS. Nothing in Lean hashes anything: it is a label: what it is worth is what the hold of that sum in a sandbox is worth. -/
noncomputable def Try.pinned : Pinned := { name := "ytppjcpddodefeaa", sum := "6fc6f108d6c8ae30be933ed6f0c3948484cca83b6c556790f13103b42f3aeb01", checked := Try.checked }
namespace Rows
def none {H : Type} : Left H := { results := [], args := [] }

/-- 'sennitlaw23.SbufKeeps': WHATEVER THE INPUT: true; the input reads as it did. -/
def sbufKeepsSpec : ChangeSpec := { name := "sbufKeeps", fn := fun _ => fun
  | [d1, d2] => { results := [.lit (.bool true)], args := [d1, d2] }
  | _ => none }
def sbufKeepsRow : OpenClaim := { program := "ytppjcpddodefeaa", sum := "6fc6f108d6c8ae30be933ed6f0c3948484cca83b6c556790f13103b42f3aeb01", func := "sennit/sennitlaw23.SbufKeeps", spec := "sbufKeeps", inPlace := ["slices.overlaps[sennit/sbuf.Piece]"], unfollowed := true, recurses := true, apart := false }
def SbufKeepsSaid : Prop := sbufKeepsRow.holds Try.pinned (OpenSpec.ofChange sbufKeepsSpec)

/-- ITS FALSE NEIGHBOUR: 'it returns false'. Refute it at one input. -/
def sbufKeepsWrong : ChangeSpec := { name := "sbufKeeps", fn := fun _ => fun
  | [d1, d2] => { results := [.lit (.bool false)], args := [d1, d2] }
  | _ => none }
def SbufKeepsWrongFalsely : Prop := sbufKeepsRow.holds Try.pinned (OpenSpec.ofChange sbufKeepsWrong)

/-- 'sennitlaw23.SbufEnds': WHATEVER THE INPUT: true; the input reads as it did. -/
def sbufEndsSpec : ChangeSpec := { name := "sbufEnds", fn := fun _ => fun
  | [d] => { results := [.lit (.bool true)], args := [d] }
  | _ => none }
def sbufEndsRow : OpenClaim := { program := "ytppjcpddodefeaa", sum := "6fc6f108d6c8ae30be933ed6f0c3948484cca83b6c556790f13103b42f3aeb01", func := "sennit/sennitlaw23.SbufEnds", spec := "sbufEnds", inPlace := ["slices.overlaps[sennit/sbuf.Piece]"], unfollowed := true, recurses := true, apart := false }
def SbufEndsSaid : Prop := sbufEndsRow.holds Try.pinned (OpenSpec.ofChange sbufEndsSpec)

/-- ITS FALSE NEIGHBOUR: 'it returns false'. Refute it at one input. -/
def sbufEndsWrong : ChangeSpec := { name := "sbufEnds", fn := fun _ => fun
  | [d] => { results := [.lit (.bool false)], args := [d] }
  | _ => none }
def SbufEndsWrongFalsely : Prop := sbufEndsRow.holds Try.pinned (OpenSpec.ofChange sbufEndsWrong)

/-- 'sennitlaw23.SbufTwice': WHATEVER THE INPUT: true; the input reads as it did. -/
def sbufTwiceSpec : ChangeSpec := { name := "sbufTwice", fn := fun _ => fun
  | [d1, d2, d3] => { results := [.lit (.bool true)], args := [d1, d2, d3] }
  | _ => none }
def sbufTwiceRow : OpenClaim := { program := "ytppjcpddodefeaa", sum := "6fc6f108d6c8ae30be933ed6f0c3948484cca83b6c556790f13103b42f3aeb01", func := "sennit/sennitlaw23.SbufTwice", spec := "sbufTwice", inPlace := ["slices.overlaps[sennit/sbuf.Piece]"], unfollowed := true, recurses := true, apart := false }
def SbufTwiceSaid : Prop := sbufTwiceRow.holds Try.pinned (OpenSpec.ofChange sbufTwiceSpec)

/-- ITS FALSE NEIGHBOUR: 'it returns false'. Refute it at one input. -/
def sbufTwiceWrong : ChangeSpec := { name := "sbufTwice", fn := fun _ => fun
  | [d1, d2, d3] => { results := [.lit (.bool false)], args := [d1, d2, d3] }
  | _ => none }
def SbufTwiceWrongFalsely : Prop := sbufTwiceRow.holds Try.pinned (OpenSpec.ofChange sbufTwiceWrong)

/- THE SECOND FORM. 'bulk': how many values and letters a reading holds, each counted each time it is reached (what is shared counts as often as it is met; a slice's spare places count too). A statement '..UptoSaid' is the law's where the arguments, and the package variables that the reading takes, are together of bulk at most 1048576: NARROWER than '..Said'. Prove '..Said' where nothing that the law and all that it calls make is longer than what came in: it says more and counts as full. Else prove '..UptoSaid'. A law counts once. -/
mutual
def uptoBulk {H : Type} : DataW H → Nat
  | .lit (.string bytes) => bytes.length + 1
  | .lit _ => 1
  | .nil => 1
  | .ptr d => uptoBulk d + 1
  | .slice elems spare => uptoBulkAll elems + uptoBulkAll spare + 1
  | .agg parts => uptoBulkAll parts + 1
  | .iface _ d => uptoBulk d + 1
  | .map entries => uptoBulkEntries entries + 1
  | .held _ => 1
def uptoBulkAll {H : Type} : List (DataW H) → Nat
  | [] => 0
  | d :: r => uptoBulk d + uptoBulkAll r
def uptoBulkEntries {H : Type} : List (Lit × DataW H) → Nat
  | [] => 0
  | x :: r => uptoBulkEntry x + uptoBulkEntries r
def uptoBulkEntry {H : Type} : Lit × DataW H → Nat
  | (.string bytes, d) => bytes.length + uptoBulk d + 1
  | (_, d) => uptoBulk d + 1
 end
def uptoSmall : (H : Type) → List (DataW H) → Bool := fun _ ds => decide (uptoBulkAll ds ≤ 1048576)
def OpenSpec.upto (s : _root_.Go.ChangeSpec) : _root_.Go.OpenSpec := { _root_.Go.OpenSpec.ofChange s with cond := some uptoSmall }

/-- 'sennitlaw23.SbufKeeps', WHERE WHAT IT READS IS OF BULK AT MOST 1048576: true; the input reads as it did. -/
def sbufKeepsUptoRow : OpenClaim := { program := "ytppjcpddodefeaa", sum := "6fc6f108d6c8ae30be933ed6f0c3948484cca83b6c556790f13103b42f3aeb01", func := "sennit/sennitlaw23.SbufKeeps", spec := "sbufKeeps", inPlace := ["slices.overlaps[sennit/sbuf.Piece]"], unfollowed := true, recurses := true, apart := false, narrowed := true }
def SbufKeepsUptoSaid : Prop := sbufKeepsUptoRow.holds Try.pinned (OpenSpec.upto sbufKeepsSpec)

/-- 'sennitlaw23.SbufEnds', WHERE WHAT IT READS IS OF BULK AT MOST 1048576: true; the input reads as it did. -/
def sbufEndsUptoRow : OpenClaim := { program := "ytppjcpddodefeaa", sum := "6fc6f108d6c8ae30be933ed6f0c3948484cca83b6c556790f13103b42f3aeb01", func := "sennit/sennitlaw23.SbufEnds", spec := "sbufEnds", inPlace := ["slices.overlaps[sennit/sbuf.Piece]"], unfollowed := true, recurses := true, apart := false, narrowed := true }
def SbufEndsUptoSaid : Prop := sbufEndsUptoRow.holds Try.pinned (OpenSpec.upto sbufEndsSpec)

/-- 'sennitlaw23.SbufTwice', WHERE WHAT IT READS IS OF BULK AT MOST 1048576: true; the input reads as it did. -/
def sbufTwiceUptoRow : OpenClaim := { program := "ytppjcpddodefeaa", sum := "6fc6f108d6c8ae30be933ed6f0c3948484cca83b6c556790f13103b42f3aeb01", func := "sennit/sennitlaw23.SbufTwice", spec := "sbufTwice", inPlace := ["slices.overlaps[sennit/sbuf.Piece]"], unfollowed := true, recurses := true, apart := false, narrowed := true }
def SbufTwiceUptoSaid : Prop := sbufTwiceUptoRow.holds Try.pinned (OpenSpec.upto sbufTwiceSpec)

end Rows
end Go.Proofs.Ytppjcpddodefeaa
