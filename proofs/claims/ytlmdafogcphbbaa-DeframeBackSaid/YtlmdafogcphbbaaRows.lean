/-
  No cell of these rows narrows 'for every input' (looked for: loops, veiled, ifaces, maps, wideKeys, modest, calm, conditions, laid).
  DERIVED. THE GIVEN ROWS OF THIS SEAT. 3 by the template 'for every input the law returns true; each argument reads behind the call as it read before'; 0 by the template 'total and deterministic' (their statements: YtlmdafogcphbbaaTotals.lean).
  GIVEN WITH THE SEED: the statements are not yours to turn. If you find one false, say at which input.
  Laid BY PROGRAM, IN A SANDBOX (cutbox-rows.mjs): the forced cells as the released guide's own fill.sh prints them over the translation 5722c5bdd82fe720… (all of the seat's roots in one cut). By AI agents, Wed Nov 11 2026. No macro, syntax, notation, axiom, sorry.
-/
import Derived.Test.YtlmdafogcphbbaaChecked
import GoSem.Claim
import GoSem.ClaimJoined
import GoSem.ClaimMapViews
import Derived.JoinedTies
import Derived.KernelRfl
namespace Go.Proofs.Ytlmdafogcphbbaa
/- THE CELL 'sum', in the pinned program and in every row, IS THE sha256 OF THE DUMP (.gsa) THAT YtlmdafogcphbbaaProg.lean LOADS. Nothing in Lean hashes anything: it is a label: what it is worth is what the hold of that sum in a sandbox is worth. -/
noncomputable def Try.pinned : Pinned := { name := "ytlmdafogcphbbaa", sum := "5722c5bdd82fe7206ff8ff9ae5074259262bc1dbe96f0b6c045e3005f68029a4", checked := Try.checked }
namespace Rows
def none {H : Type} : Left H := { results := [], args := [] }

/-- 'sennitlaw16.DeframePieces': WHATEVER THE INPUT: true; the input reads as it did. -/
def deframePiecesSpec : ChangeSpec := { name := "deframePieces", fn := fun _ => fun
  | [d1, d2] => { results := [.lit (.bool true)], args := [d1, d2] }
  | _ => none }
def deframePiecesRow : OpenClaim := { program := "ytlmdafogcphbbaa", sum := "5722c5bdd82fe7206ff8ff9ae5074259262bc1dbe96f0b6c045e3005f68029a4", func := "sennit/sennitlaw16.DeframePieces", spec := "deframePieces", unfollowed := true, recurses := true, apart := false }
def DeframePiecesSaid : Prop := deframePiecesRow.holds Try.pinned (OpenSpec.ofChange deframePiecesSpec)

/-- ITS FALSE NEIGHBOUR: 'it returns false'. Refute it at one input. -/
def deframePiecesWrong : ChangeSpec := { name := "deframePieces", fn := fun _ => fun
  | [d1, d2] => { results := [.lit (.bool false)], args := [d1, d2] }
  | _ => none }
def DeframePiecesWrongFalsely : Prop := deframePiecesRow.holds Try.pinned (OpenSpec.ofChange deframePiecesWrong)

/-- 'sennitlaw16.DeframeBad': WHATEVER THE INPUT: true; the input reads as it did. -/
def deframeBadSpec : ChangeSpec := { name := "deframeBad", fn := fun _ => fun
  | [d1, d2, d3] => { results := [.lit (.bool true)], args := [d1, d2, d3] }
  | _ => none }
def deframeBadRow : OpenClaim := { program := "ytlmdafogcphbbaa", sum := "5722c5bdd82fe7206ff8ff9ae5074259262bc1dbe96f0b6c045e3005f68029a4", func := "sennit/sennitlaw16.DeframeBad", spec := "deframeBad", unfollowed := true, recurses := true, apart := false }
def DeframeBadSaid : Prop := deframeBadRow.holds Try.pinned (OpenSpec.ofChange deframeBadSpec)

/-- ITS FALSE NEIGHBOUR: 'it returns false'. Refute it at one input. -/
def deframeBadWrong : ChangeSpec := { name := "deframeBad", fn := fun _ => fun
  | [d1, d2, d3] => { results := [.lit (.bool false)], args := [d1, d2, d3] }
  | _ => none }
def DeframeBadWrongFalsely : Prop := deframeBadRow.holds Try.pinned (OpenSpec.ofChange deframeBadWrong)

/-- 'sennitlaw16.DeframeBack': WHATEVER THE INPUT: true; the input reads as it did. -/
def deframeBackSpec : ChangeSpec := { name := "deframeBack", fn := fun _ => fun
  | [d] => { results := [.lit (.bool true)], args := [d] }
  | _ => none }
def deframeBackRow : OpenClaim := { program := "ytlmdafogcphbbaa", sum := "5722c5bdd82fe7206ff8ff9ae5074259262bc1dbe96f0b6c045e3005f68029a4", func := "sennit/sennitlaw16.DeframeBack", spec := "deframeBack", unfollowed := true, recurses := true, apart := false }
def DeframeBackSaid : Prop := deframeBackRow.holds Try.pinned (OpenSpec.ofChange deframeBackSpec)

/-- ITS FALSE NEIGHBOUR: 'it returns false'. Refute it at one input. -/
def deframeBackWrong : ChangeSpec := { name := "deframeBack", fn := fun _ => fun
  | [d] => { results := [.lit (.bool false)], args := [d] }
  | _ => none }
def DeframeBackWrongFalsely : Prop := deframeBackRow.holds Try.pinned (OpenSpec.ofChange deframeBackWrong)

/- THE SECOND FORM. 'bulk': how many values and letters a reading holds, each counted each time it is reached (what is shared counts as often as it is met; a slice's spare places count too). A statement '..UptoSaid' is the law's where the arguments, and the package variables that the reading takes, are together of bulk at most 1048576: NARROWER than '..Said'. Prove '..Said' where nothing that the law and all that it calls make is longer than what came in: it says more and counts as full. Else prove '..UptoSaid'. A law counts once. -/
mutual
def uptoBulk {H : Type} : DataW H → Nat
  | .lit (.string bytes) => bytes.length + 1
  | .lit _ => 1
  | .nil => 1
  | .ptr d => uptoBulk d + 1
  | .slice elems spare => uptoBulkAll elems + uptoBulkAll spare + 1
  | .agg parts => uptoBulkAll parts + 1
  | .iface _ d => uptoBulk d + 1
  | .map entries => uptoBulkEntries entries + 1
  | .held _ => 1
def uptoBulkAll {H : Type} : List (DataW H) → Nat
  | [] => 0
  | d :: r => uptoBulk d + uptoBulkAll r
def uptoBulkEntries {H : Type} : List (Lit × DataW H) → Nat
  | [] => 0
  | x :: r => uptoBulkEntry x + uptoBulkEntries r
def uptoBulkEntry {H : Type} : Lit × DataW H → Nat
  | (.string bytes, d) => bytes.length + uptoBulk d + 1
  | (_, d) => uptoBulk d + 1
 end
def uptoSmall : (H : Type) → List (DataW H) → Bool := fun _ ds => decide (uptoBulkAll ds ≤ 1048576)
def OpenSpec.upto (s : _root_.Go.ChangeSpec) : _root_.Go.OpenSpec := { _root_.Go.OpenSpec.ofChange s with cond := some uptoSmall }

/-- 'sennitlaw16.DeframePieces', WHERE WHAT IT READS IS OF BULK AT MOST 1048576: true; the input reads as it did. -/
def deframePiecesUptoRow : OpenClaim := { program := "ytlmdafogcphbbaa", sum := "5722c5bdd82fe7206ff8ff9ae5074259262bc1dbe96f0b6c045e3005f68029a4", func := "sennit/sennitlaw16.DeframePieces", spec := "deframePieces", unfollowed := true, recurses := true, apart := false, narrowed := true }
def DeframePiecesUptoSaid : Prop := deframePiecesUptoRow.holds Try.pinned (OpenSpec.upto deframePiecesSpec)

/-- 'sennitlaw16.DeframeBad', WHERE WHAT IT READS IS OF BULK AT MOST 1048576: true; the input reads as it did. -/
def deframeBadUptoRow : OpenClaim := { program := "ytlmdafogcphbbaa", sum := "5722c5bdd82fe7206ff8ff9ae5074259262bc1dbe96f0b6c045e3005f68029a4", func := "sennit/sennitlaw16.DeframeBad", spec := "deframeBad", unfollowed := true, recurses := true, apart := false, narrowed := true }
def DeframeBadUptoSaid : Prop := deframeBadUptoRow.holds Try.pinned (OpenSpec.upto deframeBadSpec)

/-- 'sennitlaw16.DeframeBack', WHERE WHAT IT READS IS OF BULK AT MOST 1048576: true; the input reads as it did. -/
def deframeBackUptoRow : OpenClaim := { program := "ytlmdafogcphbbaa", sum := "5722c5bdd82fe7206ff8ff9ae5074259262bc1dbe96f0b6c045e3005f68029a4", func := "sennit/sennitlaw16.DeframeBack", spec := "deframeBack", unfollowed := true, recurses := true, apart := false, narrowed := true }
def DeframeBackUptoSaid : Prop := deframeBackUptoRow.holds Try.pinned (OpenSpec.upto deframeBackSpec)

end Rows
end Go.Proofs.Ytlmdafogcphbbaa
