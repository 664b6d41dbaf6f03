/-
  No cell of these rows narrows 'for every input' (looked for: loops, veiled, ifaces, maps, wideKeys, modest, calm, conditions, laid).
  DERIVED. THE GIVEN ROWS OF THIS SEAT. 3 by the template 'for every input the law returns true; each argument reads behind the call as it read before'; 0 by the template 'total and deterministic' (their statements: YtalalambgppmpaaTotals.lean).
  GIVEN WITH THE SEED: the statements are not yours to turn. If you find one false, say at which input.
  Laid BY PROGRAM, IN A SANDBOX (cutbox-rows.mjs): the forced cells as the released guide's own fill.sh prints them over the translation 14560bb3d1d26432… (all of the seat's roots in one cut). By AI agents, Wed Nov 11 2026. No macro, syntax, notation, axiom, sorry.
-/
import Derived.Test.YtalalambgppmpaaChecked
import GoSem.Claim
import GoSem.ClaimJoined
import GoSem.ClaimMapViews
import Derived.JoinedTies
import Derived.KernelRfl
namespace Go.Proofs.Ytalalambgppmpaa
/- THE CELL 'sum', in the pinned program and in every row, IS THE sha256 OF THE DUMP (.gsa) THAT YtalalambgppmpaaProg.lean LOADS. Nothing in Lean hashes anything: it is a label: what it is worth is what the hold of that sum in a sandbox is worth. -/
noncomputable def Try.pinned : Pinned := { name := "ytalalambgppmpaa", sum := "14560bb3d1d26432f80b7d20b177e3a4f40d48cd92ba9c8cd51de2b8848cc1b7", checked := Try.checked }
namespace Rows
def none {H : Type} : Left H := { results := [], args := [] }

/-- 'sennitlaw22.StidChanges': WHATEVER THE INPUT: true; the input reads as it did. -/
def stidChangesSpec : ChangeSpec := { name := "stidChanges", fn := fun _ => fun
  | [d1, d2, d3] => { results := [.lit (.bool true)], args := [d1, d2, d3] }
  | _ => none }
def stidChangesRow : OpenClaim := { program := "ytalalambgppmpaa", sum := "14560bb3d1d26432f80b7d20b177e3a4f40d48cd92ba9c8cd51de2b8848cc1b7", func := "sennit/sennitlaw22.StidChanges", spec := "stidChanges", inPlace := ["slices.overlaps[int]"], unfollowed := true, recurses := true, apart := false }
def StidChangesSaid : Prop := stidChangesRow.holds Try.pinned (OpenSpec.ofChange stidChangesSpec)

/-- ITS FALSE NEIGHBOUR: 'it returns false'. Refute it at one input. -/
def stidChangesWrong : ChangeSpec := { name := "stidChanges", fn := fun _ => fun
  | [d1, d2, d3] => { results := [.lit (.bool false)], args := [d1, d2, d3] }
  | _ => none }
def StidChangesWrongFalsely : Prop := stidChangesRow.holds Try.pinned (OpenSpec.ofChange stidChangesWrong)

/-- 'sennitlaw22.StidOnce': WHATEVER THE INPUT: true; the input reads as it did. -/
def stidOnceSpec : ChangeSpec := { name := "stidOnce", fn := fun _ => fun
  | [d1, d2] => { results := [.lit (.bool true)], args := [d1, d2] }
  | _ => none }
def stidOnceRow : OpenClaim := { program := "ytalalambgppmpaa", sum := "14560bb3d1d26432f80b7d20b177e3a4f40d48cd92ba9c8cd51de2b8848cc1b7", func := "sennit/sennitlaw22.StidOnce", spec := "stidOnce", inPlace := ["slices.overlaps[int]"], unfollowed := true, recurses := true, apart := false }
def StidOnceSaid : Prop := stidOnceRow.holds Try.pinned (OpenSpec.ofChange stidOnceSpec)

/-- ITS FALSE NEIGHBOUR: 'it returns false'. Refute it at one input. -/
def stidOnceWrong : ChangeSpec := { name := "stidOnce", fn := fun _ => fun
  | [d1, d2] => { results := [.lit (.bool false)], args := [d1, d2] }
  | _ => none }
def StidOnceWrongFalsely : Prop := stidOnceRow.holds Try.pinned (OpenSpec.ofChange stidOnceWrong)

/-- 'sennitlaw22.StidAway': WHATEVER THE INPUT: true; the input reads as it did. -/
def stidAwaySpec : ChangeSpec := { name := "stidAway", fn := fun _ => fun
  | [d1, d2, d3] => { results := [.lit (.bool true)], args := [d1, d2, d3] }
  | _ => none }
def stidAwayRow : OpenClaim := { program := "ytalalambgppmpaa", sum := "14560bb3d1d26432f80b7d20b177e3a4f40d48cd92ba9c8cd51de2b8848cc1b7", func := "sennit/sennitlaw22.StidAway", spec := "stidAway", inPlace := ["slices.overlaps[int]"], unfollowed := true, recurses := true, apart := false }
def StidAwaySaid : Prop := stidAwayRow.holds Try.pinned (OpenSpec.ofChange stidAwaySpec)

/-- ITS FALSE NEIGHBOUR: 'it returns false'. Refute it at one input. -/
def stidAwayWrong : ChangeSpec := { name := "stidAway", fn := fun _ => fun
  | [d1, d2, d3] => { results := [.lit (.bool false)], args := [d1, d2, d3] }
  | _ => none }
def StidAwayWrongFalsely : Prop := stidAwayRow.holds Try.pinned (OpenSpec.ofChange stidAwayWrong)

/- THE SECOND FORM. 'bulk': how many values and letters a reading holds, each counted each time it is reached (what is shared counts as often as it is met; a slice's spare places count too). A statement '..UptoSaid' is the law's where the arguments, and the package variables that the reading takes, are together of bulk at most 1048576: NARROWER than '..Said'. Prove '..Said' where nothing that the law and all that it calls make is longer than what came in: it says more and counts as full. Else prove '..UptoSaid'. A law counts once. -/
mutual
def uptoBulk {H : Type} : DataW H → Nat
  | .lit (.string bytes) => bytes.length + 1
  | .lit _ => 1
  | .nil => 1
  | .ptr d => uptoBulk d + 1
  | .slice elems spare => uptoBulkAll elems + uptoBulkAll spare + 1
  | .agg parts => uptoBulkAll parts + 1
  | .iface _ d => uptoBulk d + 1
  | .map entries => uptoBulkEntries entries + 1
  | .held _ => 1
def uptoBulkAll {H : Type} : List (DataW H) → Nat
  | [] => 0
  | d :: r => uptoBulk d + uptoBulkAll r
def uptoBulkEntries {H : Type} : List (Lit × DataW H) → Nat
  | [] => 0
  | x :: r => uptoBulkEntry x + uptoBulkEntries r
def uptoBulkEntry {H : Type} : Lit × DataW H → Nat
  | (.string bytes, d) => bytes.length + uptoBulk d + 1
  | (_, d) => uptoBulk d + 1
 end
def uptoSmall : (H : Type) → List (DataW H) → Bool := fun _ ds => decide (uptoBulkAll ds ≤ 1048576)
def OpenSpec.upto (s : _root_.Go.ChangeSpec) : _root_.Go.OpenSpec := { _root_.Go.OpenSpec.ofChange s with cond := some uptoSmall }

/-- 'sennitlaw22.StidChanges', WHERE WHAT IT READS IS OF BULK AT MOST 1048576: true; the input reads as it did. -/
def stidChangesUptoRow : OpenClaim := { program := "ytalalambgppmpaa", sum := "14560bb3d1d26432f80b7d20b177e3a4f40d48cd92ba9c8cd51de2b8848cc1b7", func := "sennit/sennitlaw22.StidChanges", spec := "stidChanges", inPlace := ["slices.overlaps[int]"], unfollowed := true, recurses := true, apart := false, narrowed := true }
def StidChangesUptoSaid : Prop := stidChangesUptoRow.holds Try.pinned (OpenSpec.upto stidChangesSpec)

/-- 'sennitlaw22.StidOnce', WHERE WHAT IT READS IS OF BULK AT MOST 1048576: true; the input reads as it did. -/
def stidOnceUptoRow : OpenClaim := { program := "ytalalambgppmpaa", sum := "14560bb3d1d26432f80b7d20b177e3a4f40d48cd92ba9c8cd51de2b8848cc1b7", func := "sennit/sennitlaw22.StidOnce", spec := "stidOnce", inPlace := ["slices.overlaps[int]"], unfollowed := true, recurses := true, apart := false, narrowed := true }
def StidOnceUptoSaid : Prop := stidOnceUptoRow.holds Try.pinned (OpenSpec.upto stidOnceSpec)

/-- 'sennitlaw22.StidAway', WHERE WHAT IT READS IS OF BULK AT MOST 1048576: true; the input reads as it did. -/
def stidAwayUptoRow : OpenClaim := { program := "ytalalambgppmpaa", sum := "14560bb3d1d26432f80b7d20b177e3a4f40d48cd92ba9c8cd51de2b8848cc1b7", func := "sennit/sennitlaw22.StidAway", spec := "stidAway", inPlace := ["slices.overlaps[int]"], unfollowed := true, recurses := true, apart := false, narrowed := true }
def StidAwayUptoSaid : Prop := stidAwayUptoRow.holds Try.pinned (OpenSpec.upto stidAwaySpec)

end Rows
end Go.Proofs.Ytalalambgppmpaa
