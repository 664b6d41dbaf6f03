/-
  No cell of these rows narrows 'for every input' (looked for: loops, veiled, ifaces, maps, wideKeys, modest, calm, conditions, laid).
  DERIVED. THE GIVEN ROWS OF THIS SEAT. 4 by the template 'for every input the law returns true; each argument reads behind the call as it read before'; 0 by the template 'total and deterministic' (their statements: YtdnjagkihgjpcaaTotals.lean).
  GIVEN WITH THE SEED: the statements are not yours to turn. If you find one false, say at which input.
  Laid BY PROGRAM, IN A SANDBOX (cutbox-rows.mjs): the forced cells as the released guide's own fill.sh prints them over the translation 7207d1f3f2bff849… (all of the seat's roots in one cut). By AI agents, Wed Nov 11 2026. No macro, syntax, notation, axiom, sorry.
-/
import Derived.Test.YtdnjagkihgjpcaaChecked
import GoSem.Claim
import GoSem.ClaimJoined
import GoSem.ClaimMapViews
import Derived.JoinedTies
import Derived.KernelRfl
namespace Go.Proofs.Ytdnjagkihgjpcaa
/- THE CELL 'sum', in the pinned program and in every row, IS THE sha256 OF THE DUMP (.gsa) THAT YtdnjagkihgjpcaaProg.lean LOADS. Nothing in Lean hashes anything: it is a label: what it is worth is what the hold of that sum in a sandbox is worth. -/
noncomputable def Try.pinned : Pinned := { name := "ytdnjagkihgjpcaa", sum := "7207d1f3f2bff849a32aac2bffc83e58c1e2094890d956fdfcab7478791be5a7", checked := Try.checked }
namespace Rows
def none {H : Type} : Left H := { results := [], args := [] }

/-- 'sennitlaw19.PtreeNobody': WHATEVER THE INPUT: true; the input reads as it did. -/
def ptreeNobodySpec : ChangeSpec := { name := "ptreeNobody", fn := fun _ => fun
  | [d1, d2] => { results := [.lit (.bool true)], args := [d1, d2] }
  | _ => none }
def ptreeNobodyRow : OpenClaim := { program := "ytdnjagkihgjpcaa", sum := "7207d1f3f2bff849a32aac2bffc83e58c1e2094890d956fdfcab7478791be5a7", func := "sennit/sennitlaw19.PtreeNobody", spec := "ptreeNobody", unfollowed := true, recurses := true, apart := false }
def PtreeNobodySaid : Prop := ptreeNobodyRow.holds Try.pinned (OpenSpec.ofChange ptreeNobodySpec)

/-- ITS FALSE NEIGHBOUR: 'it returns false'. Refute it at one input. -/
def ptreeNobodyWrong : ChangeSpec := { name := "ptreeNobody", fn := fun _ => fun
  | [d1, d2] => { results := [.lit (.bool false)], args := [d1, d2] }
  | _ => none }
def PtreeNobodyWrongFalsely : Prop := ptreeNobodyRow.holds Try.pinned (OpenSpec.ofChange ptreeNobodyWrong)

/-- 'sennitlaw19.PtreeTree': WHATEVER THE INPUT: true; the input reads as it did. -/
def ptreeTreeSpec : ChangeSpec := { name := "ptreeTree", fn := fun _ => fun
  | [d1, d2] => { results := [.lit (.bool true)], args := [d1, d2] }
  | _ => none }
def ptreeTreeRow : OpenClaim := { program := "ytdnjagkihgjpcaa", sum := "7207d1f3f2bff849a32aac2bffc83e58c1e2094890d956fdfcab7478791be5a7", func := "sennit/sennitlaw19.PtreeTree", spec := "ptreeTree", unfollowed := true, recurses := true, apart := false }
def PtreeTreeSaid : Prop := ptreeTreeRow.holds Try.pinned (OpenSpec.ofChange ptreeTreeSpec)

/-- ITS FALSE NEIGHBOUR: 'it returns false'. Refute it at one input. -/
def ptreeTreeWrong : ChangeSpec := { name := "ptreeTree", fn := fun _ => fun
  | [d1, d2] => { results := [.lit (.bool false)], args := [d1, d2] }
  | _ => none }
def PtreeTreeWrongFalsely : Prop := ptreeTreeRow.holds Try.pinned (OpenSpec.ofChange ptreeTreeWrong)

/-- 'sennitlaw19.PtreeReady': WHATEVER THE INPUT: true; the input reads as it did. -/
def ptreeReadySpec : ChangeSpec := { name := "ptreeReady", fn := fun _ => fun
  | [d1, d2] => { results := [.lit (.bool true)], args := [d1, d2] }
  | _ => none }
def ptreeReadyRow : OpenClaim := { program := "ytdnjagkihgjpcaa", sum := "7207d1f3f2bff849a32aac2bffc83e58c1e2094890d956fdfcab7478791be5a7", func := "sennit/sennitlaw19.PtreeReady", spec := "ptreeReady", unfollowed := true, recurses := true, apart := false }
def PtreeReadySaid : Prop := ptreeReadyRow.holds Try.pinned (OpenSpec.ofChange ptreeReadySpec)

/-- ITS FALSE NEIGHBOUR: 'it returns false'. Refute it at one input. -/
def ptreeReadyWrong : ChangeSpec := { name := "ptreeReady", fn := fun _ => fun
  | [d1, d2] => { results := [.lit (.bool false)], args := [d1, d2] }
  | _ => none }
def PtreeReadyWrongFalsely : Prop := ptreeReadyRow.holds Try.pinned (OpenSpec.ofChange ptreeReadyWrong)

/-- 'sennitlaw19.PtreeOnly': WHATEVER THE INPUT: true; the input reads as it did. -/
def ptreeOnlySpec : ChangeSpec := { name := "ptreeOnly", fn := fun _ => fun
  | [d1, d2, d3] => { results := [.lit (.bool true)], args := [d1, d2, d3] }
  | _ => none }
def ptreeOnlyRow : OpenClaim := { program := "ytdnjagkihgjpcaa", sum := "7207d1f3f2bff849a32aac2bffc83e58c1e2094890d956fdfcab7478791be5a7", func := "sennit/sennitlaw19.PtreeOnly", spec := "ptreeOnly", unfollowed := true, recurses := true, apart := false }
def PtreeOnlySaid : Prop := ptreeOnlyRow.holds Try.pinned (OpenSpec.ofChange ptreeOnlySpec)

/-- ITS FALSE NEIGHBOUR: 'it returns false'. Refute it at one input. -/
def ptreeOnlyWrong : ChangeSpec := { name := "ptreeOnly", fn := fun _ => fun
  | [d1, d2, d3] => { results := [.lit (.bool false)], args := [d1, d2, d3] }
  | _ => none }
def PtreeOnlyWrongFalsely : Prop := ptreeOnlyRow.holds Try.pinned (OpenSpec.ofChange ptreeOnlyWrong)

/- THE SECOND FORM. 'bulk': how many values and letters a reading holds, each counted each time it is reached (what is shared counts as often as it is met; a slice's spare places count too). A statement '..UptoSaid' is the law's where the arguments, and the package variables that the reading takes, are together of bulk at most 1048576: NARROWER than '..Said'. Prove '..Said' where nothing that the law and all that it calls make is longer than what came in: it says more and counts as full. Else prove '..UptoSaid'. A law counts once. -/
mutual
def uptoBulk {H : Type} : DataW H → Nat
  | .lit (.string bytes) => bytes.length + 1
  | .lit _ => 1
  | .nil => 1
  | .ptr d => uptoBulk d + 1
  | .slice elems spare => uptoBulkAll elems + uptoBulkAll spare + 1
  | .agg parts => uptoBulkAll parts + 1
  | .iface _ d => uptoBulk d + 1
  | .map entries => uptoBulkEntries entries + 1
  | .held _ => 1
def uptoBulkAll {H : Type} : List (DataW H) → Nat
  | [] => 0
  | d :: r => uptoBulk d + uptoBulkAll r
def uptoBulkEntries {H : Type} : List (Lit × DataW H) → Nat
  | [] => 0
  | x :: r => uptoBulkEntry x + uptoBulkEntries r
def uptoBulkEntry {H : Type} : Lit × DataW H → Nat
  | (.string bytes, d) => bytes.length + uptoBulk d + 1
  | (_, d) => uptoBulk d + 1
 end
def uptoSmall : (H : Type) → List (DataW H) → Bool := fun _ ds => decide (uptoBulkAll ds ≤ 1048576)
def OpenSpec.upto (s : _root_.Go.ChangeSpec) : _root_.Go.OpenSpec := { _root_.Go.OpenSpec.ofChange s with cond := some uptoSmall }

/-- 'sennitlaw19.PtreeNobody', WHERE WHAT IT READS IS OF BULK AT MOST 1048576: true; the input reads as it did. -/
def ptreeNobodyUptoRow : OpenClaim := { program := "ytdnjagkihgjpcaa", sum := "7207d1f3f2bff849a32aac2bffc83e58c1e2094890d956fdfcab7478791be5a7", func := "sennit/sennitlaw19.PtreeNobody", spec := "ptreeNobody", unfollowed := true, recurses := true, apart := false, narrowed := true }
def PtreeNobodyUptoSaid : Prop := ptreeNobodyUptoRow.holds Try.pinned (OpenSpec.upto ptreeNobodySpec)

/-- 'sennitlaw19.PtreeTree', WHERE WHAT IT READS IS OF BULK AT MOST 1048576: true; the input reads as it did. -/
def ptreeTreeUptoRow : OpenClaim := { program := "ytdnjagkihgjpcaa", sum := "7207d1f3f2bff849a32aac2bffc83e58c1e2094890d956fdfcab7478791be5a7", func := "sennit/sennitlaw19.PtreeTree", spec := "ptreeTree", unfollowed := true, recurses := true, apart := false, narrowed := true }
def PtreeTreeUptoSaid : Prop := ptreeTreeUptoRow.holds Try.pinned (OpenSpec.upto ptreeTreeSpec)

/-- 'sennitlaw19.PtreeReady', WHERE WHAT IT READS IS OF BULK AT MOST 1048576: true; the input reads as it did. -/
def ptreeReadyUptoRow : OpenClaim := { program := "ytdnjagkihgjpcaa", sum := "7207d1f3f2bff849a32aac2bffc83e58c1e2094890d956fdfcab7478791be5a7", func := "sennit/sennitlaw19.PtreeReady", spec := "ptreeReady", unfollowed := true, recurses := true, apart := false, narrowed := true }
def PtreeReadyUptoSaid : Prop := ptreeReadyUptoRow.holds Try.pinned (OpenSpec.upto ptreeReadySpec)

/-- 'sennitlaw19.PtreeOnly', WHERE WHAT IT READS IS OF BULK AT MOST 1048576: true; the input reads as it did. -/
def ptreeOnlyUptoRow : OpenClaim := { program := "ytdnjagkihgjpcaa", sum := "7207d1f3f2bff849a32aac2bffc83e58c1e2094890d956fdfcab7478791be5a7", func := "sennit/sennitlaw19.PtreeOnly", spec := "ptreeOnly", unfollowed := true, recurses := true, apart := false, narrowed := true }
def PtreeOnlyUptoSaid : Prop := ptreeOnlyUptoRow.holds Try.pinned (OpenSpec.upto ptreeOnlySpec)

end Rows
end Go.Proofs.Ytdnjagkihgjpcaa
