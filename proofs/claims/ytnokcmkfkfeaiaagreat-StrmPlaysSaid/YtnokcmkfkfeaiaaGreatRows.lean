/-
  No cell of these rows narrows 'for every input' (looked for: loops, veiled, ifaces, maps, wideKeys, modest, calm, conditions, laid).
  DERIVED. THE GIVEN ROWS OF THIS SEAT. 4 by the template 'for every input the law returns true; each argument reads behind the call as it read before'; 0 by the template 'total and deterministic' (their statements: YtnokcmkfkfeaiaaGreatTotals.lean).
  GIVEN WITH THE SEED: the statements are not yours to turn. If you find one false, say at which input.
  Laid BY PROGRAM, IN A SANDBOX (cutbox-rows.mjs): the forced cells as the released guide's own fill.sh prints them over the translation 719768a4ae5e9696… (all of the seat's roots in one cut). By AI agents, Wed Nov 11 2026. No macro, syntax, notation, axiom, sorry.
-/
import Derived.Test.YtnokcmkfkfeaiaaGreatChecked
import GoSem.Claim
import GoSem.ClaimJoined
import GoSem.ClaimMapViews
import Derived.JoinedTies
import Derived.KernelRfl
namespace Go.Proofs.YtnokcmkfkfeaiaaGreat
/- THE CELL 'sum', in the pinned program and in every row, IS THE sha256 OF THE DUMP (.gsa) THAT YtnokcmkfkfeaiaaGreatProg.lean LOADS. Nothing in Lean hashes anything: it is a label: what it is worth is what the hold of that sum in a sandbox is worth. -/
noncomputable def Tryz.pinned : Pinned := { name := "ytnokcmkfkfeaiaagreat", sum := "719768a4ae5e9696b64ca29580897a79db446bf661c93483dd3a850711f70f10", checked := Tryz.checked }
namespace Rows
def none {H : Type} : Left H := { results := [], args := [] }

/-- 'sennitlaw25.StrmPrefix': WHATEVER THE INPUT: true; the input reads as it did. -/
def strmPrefixSpec : ChangeSpec := { name := "strmPrefix", fn := fun _ => fun
  | [d1, d2] => { results := [.lit (.bool true)], args := [d1, d2] }
  | _ => none }
def strmPrefixRow : OpenClaim := { program := "ytnokcmkfkfeaiaagreat", sum := "719768a4ae5e9696b64ca29580897a79db446bf661c93483dd3a850711f70f10", func := "sennit/sennitlaw25.StrmPrefix", spec := "strmPrefix", inPlace := ["slices.overlaps[sennit/sbuf.Piece]"], unfollowed := true, recurses := true, apart := false }
def StrmPrefixSaid : Prop := strmPrefixRow.holds Tryz.pinned (OpenSpec.ofChange strmPrefixSpec)

/-- ITS FALSE NEIGHBOUR: 'it returns false'. Refute it at one input. -/
def strmPrefixWrong : ChangeSpec := { name := "strmPrefix", fn := fun _ => fun
  | [d1, d2] => { results := [.lit (.bool false)], args := [d1, d2] }
  | _ => none }
def StrmPrefixWrongFalsely : Prop := strmPrefixRow.holds Tryz.pinned (OpenSpec.ofChange strmPrefixWrong)

/-- 'sennitlaw25.StrmEnds': WHATEVER THE INPUT: true; the input reads as it did. -/
def strmEndsSpec : ChangeSpec := { name := "strmEnds", fn := fun _ => fun
  | [d1, d2] => { results := [.lit (.bool true)], args := [d1, d2] }
  | _ => none }
def strmEndsRow : OpenClaim := { program := "ytnokcmkfkfeaiaagreat", sum := "719768a4ae5e9696b64ca29580897a79db446bf661c93483dd3a850711f70f10", func := "sennit/sennitlaw25.StrmEnds", spec := "strmEnds", inPlace := ["slices.overlaps[sennit/sbuf.Piece]"], unfollowed := true, recurses := true, apart := false }
def StrmEndsSaid : Prop := strmEndsRow.holds Tryz.pinned (OpenSpec.ofChange strmEndsSpec)

/-- ITS FALSE NEIGHBOUR: 'it returns false'. Refute it at one input. -/
def strmEndsWrong : ChangeSpec := { name := "strmEnds", fn := fun _ => fun
  | [d1, d2] => { results := [.lit (.bool false)], args := [d1, d2] }
  | _ => none }
def StrmEndsWrongFalsely : Prop := strmEndsRow.holds Tryz.pinned (OpenSpec.ofChange strmEndsWrong)

/-- 'sennitlaw25.StrmPlays': WHATEVER THE INPUT: true; the input reads as it did. -/
def strmPlaysSpec : ChangeSpec := { name := "strmPlays", fn := fun _ => fun
  | [d1, d2] => { results := [.lit (.bool true)], args := [d1, d2] }
  | _ => none }
def strmPlaysRow : OpenClaim := { program := "ytnokcmkfkfeaiaagreat", sum := "719768a4ae5e9696b64ca29580897a79db446bf661c93483dd3a850711f70f10", func := "sennit/sennitlaw25.StrmPlays", spec := "strmPlays", inPlace := ["slices.overlaps[sennit/sbuf.Piece]"], unfollowed := true, recurses := true, apart := false }
def StrmPlaysSaid : Prop := strmPlaysRow.holds Tryz.pinned (OpenSpec.ofChange strmPlaysSpec)

/-- ITS FALSE NEIGHBOUR: 'it returns false'. Refute it at one input. -/
def strmPlaysWrong : ChangeSpec := { name := "strmPlays", fn := fun _ => fun
  | [d1, d2] => { results := [.lit (.bool false)], args := [d1, d2] }
  | _ => none }
def StrmPlaysWrongFalsely : Prop := strmPlaysRow.holds Tryz.pinned (OpenSpec.ofChange strmPlaysWrong)

/-- 'sennitlaw25.StrmCut': WHATEVER THE INPUT: true; the input reads as it did. -/
def strmCutSpec : ChangeSpec := { name := "strmCut", fn := fun _ => fun
  | [d1, d2, d3] => { results := [.lit (.bool true)], args := [d1, d2, d3] }
  | _ => none }
def strmCutRow : OpenClaim := { program := "ytnokcmkfkfeaiaagreat", sum := "719768a4ae5e9696b64ca29580897a79db446bf661c93483dd3a850711f70f10", func := "sennit/sennitlaw25.StrmCut", spec := "strmCut", inPlace := ["slices.overlaps[sennit/sbuf.Piece]"], unfollowed := true, recurses := true, apart := false }
def StrmCutSaid : Prop := strmCutRow.holds Tryz.pinned (OpenSpec.ofChange strmCutSpec)

/-- ITS FALSE NEIGHBOUR: 'it returns false'. Refute it at one input. -/
def strmCutWrong : ChangeSpec := { name := "strmCut", fn := fun _ => fun
  | [d1, d2, d3] => { results := [.lit (.bool false)], args := [d1, d2, d3] }
  | _ => none }
def StrmCutWrongFalsely : Prop := strmCutRow.holds Tryz.pinned (OpenSpec.ofChange strmCutWrong)

/- THE SECOND FORM. 'bulk': how many values and letters a reading holds, each counted each time it is reached (what is shared counts as often as it is met; a slice's spare places count too). A statement '..UptoSaid' is the law's where the arguments, and the package variables that the reading takes, are together of bulk at most 1048576: NARROWER than '..Said'. Prove '..Said' where nothing that the law and all that it calls make is longer than what came in: it says more and counts as full. Else prove '..UptoSaid'. A law counts once. -/
mutual
def uptoBulk {H : Type} : DataW H → Nat
  | .lit (.string bytes) => bytes.length + 1
  | .lit _ => 1
  | .nil => 1
  | .ptr d => uptoBulk d + 1
  | .slice elems spare => uptoBulkAll elems + uptoBulkAll spare + 1
  | .agg parts => uptoBulkAll parts + 1
  | .iface _ d => uptoBulk d + 1
  | .map entries => uptoBulkEntries entries + 1
  | .held _ => 1
def uptoBulkAll {H : Type} : List (DataW H) → Nat
  | [] => 0
  | d :: r => uptoBulk d + uptoBulkAll r
def uptoBulkEntries {H : Type} : List (Lit × DataW H) → Nat
  | [] => 0
  | x :: r => uptoBulkEntry x + uptoBulkEntries r
def uptoBulkEntry {H : Type} : Lit × DataW H → Nat
  | (.string bytes, d) => bytes.length + uptoBulk d + 1
  | (_, d) => uptoBulk d + 1
 end
def uptoSmall : (H : Type) → List (DataW H) → Bool := fun _ ds => decide (uptoBulkAll ds ≤ 1048576)
def OpenSpec.upto (s : _root_.Go.ChangeSpec) : _root_.Go.OpenSpec := { _root_.Go.OpenSpec.ofChange s with cond := some uptoSmall }

/-- 'sennitlaw25.StrmPrefix', WHERE WHAT IT READS IS OF BULK AT MOST 1048576: true; the input reads as it did. -/
def strmPrefixUptoRow : OpenClaim := { program := "ytnokcmkfkfeaiaagreat", sum := "719768a4ae5e9696b64ca29580897a79db446bf661c93483dd3a850711f70f10", func := "sennit/sennitlaw25.StrmPrefix", spec := "strmPrefix", inPlace := ["slices.overlaps[sennit/sbuf.Piece]"], unfollowed := true, recurses := true, apart := false, narrowed := true }
def StrmPrefixUptoSaid : Prop := strmPrefixUptoRow.holds Tryz.pinned (OpenSpec.upto strmPrefixSpec)

/-- 'sennitlaw25.StrmEnds', WHERE WHAT IT READS IS OF BULK AT MOST 1048576: true; the input reads as it did. -/
def strmEndsUptoRow : OpenClaim := { program := "ytnokcmkfkfeaiaagreat", sum := "719768a4ae5e9696b64ca29580897a79db446bf661c93483dd3a850711f70f10", func := "sennit/sennitlaw25.StrmEnds", spec := "strmEnds", inPlace := ["slices.overlaps[sennit/sbuf.Piece]"], unfollowed := true, recurses := true, apart := false, narrowed := true }
def StrmEndsUptoSaid : Prop := strmEndsUptoRow.holds Tryz.pinned (OpenSpec.upto strmEndsSpec)

/-- 'sennitlaw25.StrmPlays', WHERE WHAT IT READS IS OF BULK AT MOST 1048576: true; the input reads as it did. -/
def strmPlaysUptoRow : OpenClaim := { program := "ytnokcmkfkfeaiaagreat", sum := "719768a4ae5e9696b64ca29580897a79db446bf661c93483dd3a850711f70f10", func := "sennit/sennitlaw25.StrmPlays", spec := "strmPlays", inPlace := ["slices.overlaps[sennit/sbuf.Piece]"], unfollowed := true, recurses := true, apart := false, narrowed := true }
def StrmPlaysUptoSaid : Prop := strmPlaysUptoRow.holds Tryz.pinned (OpenSpec.upto strmPlaysSpec)

/-- 'sennitlaw25.StrmCut', WHERE WHAT IT READS IS OF BULK AT MOST 1048576: true; the input reads as it did. -/
def strmCutUptoRow : OpenClaim := { program := "ytnokcmkfkfeaiaagreat", sum := "719768a4ae5e9696b64ca29580897a79db446bf661c93483dd3a850711f70f10", func := "sennit/sennitlaw25.StrmCut", spec := "strmCut", inPlace := ["slices.overlaps[sennit/sbuf.Piece]"], unfollowed := true, recurses := true, apart := false, narrowed := true }
def StrmCutUptoSaid : Prop := strmCutUptoRow.holds Tryz.pinned (OpenSpec.upto strmCutSpec)

end Rows
end Go.Proofs.YtnokcmkfkfeaiaaGreat
