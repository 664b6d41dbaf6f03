/-
  No cell of these rows narrows 'for every input' (looked for: loops, veiled, ifaces, maps, wideKeys, modest, calm, conditions, laid).
  DERIVED. THE GIVEN ROWS OF THIS SEAT. 8 by the template 'for every input the law returns true; each argument reads behind the call as it read before'; 0 by the template 'total and deterministic' (their statements: YtleninhggapmeaaTotals.lean).
  GIVEN WITH THE SEED: the statements are not yours to turn. If you find one false, say at which input.
  Laid BY PROGRAM, IN A SANDBOX (cutbox-rows.mjs): the forced cells as the released guide's own fill.sh prints them over the translation 3a30be92d0630019… (all of the seat's roots in one cut). By AI agents, Wed Nov 11 2026. No macro, syntax, notation, axiom, sorry.
-/
import Derived.Test.YtleninhggapmeaaChecked
import GoSem.Claim
import GoSem.ClaimJoined
import GoSem.ClaimMapViews
import Derived.JoinedTies
import Derived.KernelRfl
namespace Go.Proofs.Ytleninhggapmeaa
/- THE CELL 'sum', in the pinned program and in every row, IS THE sha256 OF THE DUMP (.gsa) THAT YtleninhggapmeaaProg.lean LOADS. Nothing in Lean hashes anything: it is a label: what it is worth is what the hold of that sum in a sandbox is worth. -/
noncomputable def Try.pinned : Pinned := { name := "ytleninhggapmeaa", sum := "3a30be92d063001928da92138594699ed57507faf172ca5e3d606927bffcaf7c", checked := Try.checked }
namespace Rows
def none {H : Type} : Left H := { results := [], args := [] }

/-- 'sennitlaw16.DeframePieces': WHATEVER THE INPUT: true; the input reads as it did. -/
def deframePiecesSpec : ChangeSpec := { name := "deframePieces", fn := fun _ => fun
  | [d1, d2] => { results := [.lit (.bool true)], args := [d1, d2] }
  | _ => none }
def deframePiecesRow : OpenClaim := { program := "ytleninhggapmeaa", sum := "3a30be92d063001928da92138594699ed57507faf172ca5e3d606927bffcaf7c", func := "sennit/sennitlaw16.DeframePieces", spec := "deframePieces", unfollowed := true, recurses := true, apart := false }
def DeframePiecesSaid : Prop := deframePiecesRow.holds Try.pinned (OpenSpec.ofChange deframePiecesSpec)

/-- ITS FALSE NEIGHBOUR: 'it returns false'. Refute it at one input. -/
def deframePiecesWrong : ChangeSpec := { name := "deframePieces", fn := fun _ => fun
  | [d1, d2] => { results := [.lit (.bool false)], args := [d1, d2] }
  | _ => none }
def DeframePiecesWrongFalsely : Prop := deframePiecesRow.holds Try.pinned (OpenSpec.ofChange deframePiecesWrong)

/-- 'sennitlaw16.DeframeBad': WHATEVER THE INPUT: true; the input reads as it did. -/
def deframeBadSpec : ChangeSpec := { name := "deframeBad", fn := fun _ => fun
  | [d1, d2, d3] => { results := [.lit (.bool true)], args := [d1, d2, d3] }
  | _ => none }
def deframeBadRow : OpenClaim := { program := "ytleninhggapmeaa", sum := "3a30be92d063001928da92138594699ed57507faf172ca5e3d606927bffcaf7c", func := "sennit/sennitlaw16.DeframeBad", spec := "deframeBad", unfollowed := true, recurses := true, apart := false }
def DeframeBadSaid : Prop := deframeBadRow.holds Try.pinned (OpenSpec.ofChange deframeBadSpec)

/-- ITS FALSE NEIGHBOUR: 'it returns false'. Refute it at one input. -/
def deframeBadWrong : ChangeSpec := { name := "deframeBad", fn := fun _ => fun
  | [d1, d2, d3] => { results := [.lit (.bool false)], args := [d1, d2, d3] }
  | _ => none }
def DeframeBadWrongFalsely : Prop := deframeBadRow.holds Try.pinned (OpenSpec.ofChange deframeBadWrong)

/-- 'sennitlaw15.FramePuts': WHATEVER THE INPUT: true; the input reads as it did. -/
def framePutsSpec : ChangeSpec := { name := "framePuts", fn := fun _ => fun
  | [d1, d2] => { results := [.lit (.bool true)], args := [d1, d2] }
  | _ => none }
def framePutsRow : OpenClaim := { program := "ytleninhggapmeaa", sum := "3a30be92d063001928da92138594699ed57507faf172ca5e3d606927bffcaf7c", func := "sennit/sennitlaw15.FramePuts", spec := "framePuts", unfollowed := true, recurses := true, apart := false }
def FramePutsSaid : Prop := framePutsRow.holds Try.pinned (OpenSpec.ofChange framePutsSpec)

/-- ITS FALSE NEIGHBOUR: 'it returns false'. Refute it at one input. -/
def framePutsWrong : ChangeSpec := { name := "framePuts", fn := fun _ => fun
  | [d1, d2] => { results := [.lit (.bool false)], args := [d1, d2] }
  | _ => none }
def FramePutsWrongFalsely : Prop := framePutsRow.holds Try.pinned (OpenSpec.ofChange framePutsWrong)

/-- 'sennitlaw15.FrameGets': WHATEVER THE INPUT: true; the input reads as it did. -/
def frameGetsSpec : ChangeSpec := { name := "frameGets", fn := fun _ => fun
  | [d] => { results := [.lit (.bool true)], args := [d] }
  | _ => none }
def frameGetsRow : OpenClaim := { program := "ytleninhggapmeaa", sum := "3a30be92d063001928da92138594699ed57507faf172ca5e3d606927bffcaf7c", func := "sennit/sennitlaw15.FrameGets", spec := "frameGets", unfollowed := true, recurses := true, apart := false }
def FrameGetsSaid : Prop := frameGetsRow.holds Try.pinned (OpenSpec.ofChange frameGetsSpec)

/-- ITS FALSE NEIGHBOUR: 'it returns false'. Refute it at one input. -/
def frameGetsWrong : ChangeSpec := { name := "frameGets", fn := fun _ => fun
  | [d] => { results := [.lit (.bool false)], args := [d] }
  | _ => none }
def FrameGetsWrongFalsely : Prop := frameGetsRow.holds Try.pinned (OpenSpec.ofChange frameGetsWrong)

/-- 'sennitlaw15.FrameBack': WHATEVER THE INPUT: true; the input reads as it did. -/
def frameBackSpec : ChangeSpec := { name := "frameBack", fn := fun _ => fun
  | [d1, d2] => { results := [.lit (.bool true)], args := [d1, d2] }
  | _ => none }
def frameBackRow : OpenClaim := { program := "ytleninhggapmeaa", sum := "3a30be92d063001928da92138594699ed57507faf172ca5e3d606927bffcaf7c", func := "sennit/sennitlaw15.FrameBack", spec := "frameBack", unfollowed := true, recurses := true, apart := false }
def FrameBackSaid : Prop := frameBackRow.holds Try.pinned (OpenSpec.ofChange frameBackSpec)

/-- ITS FALSE NEIGHBOUR: 'it returns false'. Refute it at one input. -/
def frameBackWrong : ChangeSpec := { name := "frameBack", fn := fun _ => fun
  | [d1, d2] => { results := [.lit (.bool false)], args := [d1, d2] }
  | _ => none }
def FrameBackWrongFalsely : Prop := frameBackRow.holds Try.pinned (OpenSpec.ofChange frameBackWrong)

/-- 'sennitlaw15.FrameAgain': WHATEVER THE INPUT: true; the input reads as it did. -/
def frameAgainSpec : ChangeSpec := { name := "frameAgain", fn := fun _ => fun
  | [d] => { results := [.lit (.bool true)], args := [d] }
  | _ => none }
def frameAgainRow : OpenClaim := { program := "ytleninhggapmeaa", sum := "3a30be92d063001928da92138594699ed57507faf172ca5e3d606927bffcaf7c", func := "sennit/sennitlaw15.FrameAgain", spec := "frameAgain", unfollowed := true, recurses := true, apart := false }
def FrameAgainSaid : Prop := frameAgainRow.holds Try.pinned (OpenSpec.ofChange frameAgainSpec)

/-- ITS FALSE NEIGHBOUR: 'it returns false'. Refute it at one input. -/
def frameAgainWrong : ChangeSpec := { name := "frameAgain", fn := fun _ => fun
  | [d] => { results := [.lit (.bool false)], args := [d] }
  | _ => none }
def FrameAgainWrongFalsely : Prop := frameAgainRow.holds Try.pinned (OpenSpec.ofChange frameAgainWrong)

/-- 'sennitlaw15.FrameUnlike': WHATEVER THE INPUT: true; the input reads as it did. -/
def frameUnlikeSpec : ChangeSpec := { name := "frameUnlike", fn := fun _ => fun
  | [d1, d2] => { results := [.lit (.bool true)], args := [d1, d2] }
  | _ => none }
def frameUnlikeRow : OpenClaim := { program := "ytleninhggapmeaa", sum := "3a30be92d063001928da92138594699ed57507faf172ca5e3d606927bffcaf7c", func := "sennit/sennitlaw15.FrameUnlike", spec := "frameUnlike", unfollowed := true, recurses := true, apart := false }
def FrameUnlikeSaid : Prop := frameUnlikeRow.holds Try.pinned (OpenSpec.ofChange frameUnlikeSpec)

/-- ITS FALSE NEIGHBOUR: 'it returns false'. Refute it at one input. -/
def frameUnlikeWrong : ChangeSpec := { name := "frameUnlike", fn := fun _ => fun
  | [d1, d2] => { results := [.lit (.bool false)], args := [d1, d2] }
  | _ => none }
def FrameUnlikeWrongFalsely : Prop := frameUnlikeRow.holds Try.pinned (OpenSpec.ofChange frameUnlikeWrong)

/-- 'sennitlaw16.DeframeBack': WHATEVER THE INPUT: true; the input reads as it did. -/
def deframeBackSpec : ChangeSpec := { name := "deframeBack", fn := fun _ => fun
  | [d] => { results := [.lit (.bool true)], args := [d] }
  | _ => none }
def deframeBackRow : OpenClaim := { program := "ytleninhggapmeaa", sum := "3a30be92d063001928da92138594699ed57507faf172ca5e3d606927bffcaf7c", func := "sennit/sennitlaw16.DeframeBack", spec := "deframeBack", unfollowed := true, recurses := true, apart := false }
def DeframeBackSaid : Prop := deframeBackRow.holds Try.pinned (OpenSpec.ofChange deframeBackSpec)

/-- ITS FALSE NEIGHBOUR: 'it returns false'. Refute it at one input. -/
def deframeBackWrong : ChangeSpec := { name := "deframeBack", fn := fun _ => fun
  | [d] => { results := [.lit (.bool false)], args := [d] }
  | _ => none }
def DeframeBackWrongFalsely : Prop := deframeBackRow.holds Try.pinned (OpenSpec.ofChange deframeBackWrong)

/- THE SECOND FORM. 'bulk': how many values and letters a reading holds, each counted each time it is reached (what is shared counts as often as it is met; a slice's spare places count too). A statement '..UptoSaid' is the law's where the arguments, and the package variables that the reading takes, are together of bulk at most 1048576: NARROWER than '..Said'. Prove '..Said' where nothing that the law and all that it calls make is longer than what came in: it says more and counts as full. Else prove '..UptoSaid'. A law counts once. -/
mutual
def uptoBulk {H : Type} : DataW H → Nat
  | .lit (.string bytes) => bytes.length + 1
  | .lit _ => 1
  | .nil => 1
  | .ptr d => uptoBulk d + 1
  | .slice elems spare => uptoBulkAll elems + uptoBulkAll spare + 1
  | .agg parts => uptoBulkAll parts + 1
  | .iface _ d => uptoBulk d + 1
  | .map entries => uptoBulkEntries entries + 1
  | .held _ => 1
def uptoBulkAll {H : Type} : List (DataW H) → Nat
  | [] => 0
  | d :: r => uptoBulk d + uptoBulkAll r
def uptoBulkEntries {H : Type} : List (Lit × DataW H) → Nat
  | [] => 0
  | x :: r => uptoBulkEntry x + uptoBulkEntries r
def uptoBulkEntry {H : Type} : Lit × DataW H → Nat
  | (.string bytes, d) => bytes.length + uptoBulk d + 1
  | (_, d) => uptoBulk d + 1
 end
def uptoSmall : (H : Type) → List (DataW H) → Bool := fun _ ds => decide (uptoBulkAll ds ≤ 1048576)
def OpenSpec.upto (s : _root_.Go.ChangeSpec) : _root_.Go.OpenSpec := { _root_.Go.OpenSpec.ofChange s with cond := some uptoSmall }

/-- 'sennitlaw16.DeframePieces', WHERE WHAT IT READS IS OF BULK AT MOST 1048576: true; the input reads as it did. -/
def deframePiecesUptoRow : OpenClaim := { program := "ytleninhggapmeaa", sum := "3a30be92d063001928da92138594699ed57507faf172ca5e3d606927bffcaf7c", func := "sennit/sennitlaw16.DeframePieces", spec := "deframePieces", unfollowed := true, recurses := true, apart := false, narrowed := true }
def DeframePiecesUptoSaid : Prop := deframePiecesUptoRow.holds Try.pinned (OpenSpec.upto deframePiecesSpec)

/-- 'sennitlaw16.DeframeBad', WHERE WHAT IT READS IS OF BULK AT MOST 1048576: true; the input reads as it did. -/
def deframeBadUptoRow : OpenClaim := { program := "ytleninhggapmeaa", sum := "3a30be92d063001928da92138594699ed57507faf172ca5e3d606927bffcaf7c", func := "sennit/sennitlaw16.DeframeBad", spec := "deframeBad", unfollowed := true, recurses := true, apart := false, narrowed := true }
def DeframeBadUptoSaid : Prop := deframeBadUptoRow.holds Try.pinned (OpenSpec.upto deframeBadSpec)

/-- 'sennitlaw15.FramePuts', WHERE WHAT IT READS IS OF BULK AT MOST 1048576: true; the input reads as it did. -/
def framePutsUptoRow : OpenClaim := { program := "ytleninhggapmeaa", sum := "3a30be92d063001928da92138594699ed57507faf172ca5e3d606927bffcaf7c", func := "sennit/sennitlaw15.FramePuts", spec := "framePuts", unfollowed := true, recurses := true, apart := false, narrowed := true }
def FramePutsUptoSaid : Prop := framePutsUptoRow.holds Try.pinned (OpenSpec.upto framePutsSpec)

/-- 'sennitlaw15.FrameGets', WHERE WHAT IT READS IS OF BULK AT MOST 1048576: true; the input reads as it did. -/
def frameGetsUptoRow : OpenClaim := { program := "ytleninhggapmeaa", sum := "3a30be92d063001928da92138594699ed57507faf172ca5e3d606927bffcaf7c", func := "sennit/sennitlaw15.FrameGets", spec := "frameGets", unfollowed := true, recurses := true, apart := false, narrowed := true }
def FrameGetsUptoSaid : Prop := frameGetsUptoRow.holds Try.pinned (OpenSpec.upto frameGetsSpec)

/-- 'sennitlaw15.FrameBack', WHERE WHAT IT READS IS OF BULK AT MOST 1048576: true; the input reads as it did. -/
def frameBackUptoRow : OpenClaim := { program := "ytleninhggapmeaa", sum := "3a30be92d063001928da92138594699ed57507faf172ca5e3d606927bffcaf7c", func := "sennit/sennitlaw15.FrameBack", spec := "frameBack", unfollowed := true, recurses := true, apart := false, narrowed := true }
def FrameBackUptoSaid : Prop := frameBackUptoRow.holds Try.pinned (OpenSpec.upto frameBackSpec)

/-- 'sennitlaw15.FrameAgain', WHERE WHAT IT READS IS OF BULK AT MOST 1048576: true; the input reads as it did. -/
def frameAgainUptoRow : OpenClaim := { program := "ytleninhggapmeaa", sum := "3a30be92d063001928da92138594699ed57507faf172ca5e3d606927bffcaf7c", func := "sennit/sennitlaw15.FrameAgain", spec := "frameAgain", unfollowed := true, recurses := true, apart := false, narrowed := true }
def FrameAgainUptoSaid : Prop := frameAgainUptoRow.holds Try.pinned (OpenSpec.upto frameAgainSpec)

/-- 'sennitlaw15.FrameUnlike', WHERE WHAT IT READS IS OF BULK AT MOST 1048576: true; the input reads as it did. -/
def frameUnlikeUptoRow : OpenClaim := { program := "ytleninhggapmeaa", sum := "3a30be92d063001928da92138594699ed57507faf172ca5e3d606927bffcaf7c", func := "sennit/sennitlaw15.FrameUnlike", spec := "frameUnlike", unfollowed := true, recurses := true, apart := false, narrowed := true }
def FrameUnlikeUptoSaid : Prop := frameUnlikeUptoRow.holds Try.pinned (OpenSpec.upto frameUnlikeSpec)

/-- 'sennitlaw16.DeframeBack', WHERE WHAT IT READS IS OF BULK AT MOST 1048576: true; the input reads as it did. -/
def deframeBackUptoRow : OpenClaim := { program := "ytleninhggapmeaa", sum := "3a30be92d063001928da92138594699ed57507faf172ca5e3d606927bffcaf7c", func := "sennit/sennitlaw16.DeframeBack", spec := "deframeBack", unfollowed := true, recurses := true, apart := false, narrowed := true }
def DeframeBackUptoSaid : Prop := deframeBackUptoRow.holds Try.pinned (OpenSpec.upto deframeBackSpec)

end Rows
end Go.Proofs.Ytleninhggapmeaa
