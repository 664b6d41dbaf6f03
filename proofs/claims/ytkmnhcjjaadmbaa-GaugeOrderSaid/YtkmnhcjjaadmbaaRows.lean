/-
  No cell of these rows narrows 'for every input' (looked for: loops, veiled, ifaces, maps, wideKeys, modest, calm, conditions, laid).
  DERIVED. THE GIVEN ROWS OF THIS SEAT. 5 by the template 'for every input the law returns true; each argument reads behind the call as it read before'; 0 by the template 'total and deterministic' (their statements: YtkmnhcjjaadmbaaTotals.lean).
  GIVEN WITH THE SEED: the statements are not yours to turn. If you find one false, say at which input.
  Laid BY PROGRAM, IN A SANDBOX (cutbox-rows.mjs): the forced cells as the released guide's own fill.sh prints them over the translation 17da6c5e479c9949… (all of the seat's roots in one cut). By AI agents, Wed Nov 11 2026. No macro, syntax, notation, axiom, sorry.
-/
import Derived.Test.YtkmnhcjjaadmbaaChecked
import GoSem.Claim
import GoSem.ClaimJoined
import GoSem.ClaimMapViews
import Derived.JoinedTies
import Derived.KernelRfl
namespace Go.Proofs.Ytkmnhcjjaadmbaa
/- THE CELL 'sum', in the pinned program and in every row, IS THE sha256 OF THE DUMP (.gsa) THAT YtkmnhcjjaadmbaaProg.lean LOADS. Nothing in Lean hashes anything: it is a label: what it is worth is what the hold of that sum in a sandbox is worth. -/
noncomputable def Try.pinned : Pinned := { name := "ytkmnhcjjaadmbaa", sum := "17da6c5e479c99494f723ae2f22777539d540752baaa8a76a396d1c78b5c6002", checked := Try.checked }
namespace Rows
def none {H : Type} : Left H := { results := [], args := [] }

/-- 'sennitlaw27.GaugeTells': WHATEVER THE INPUT: true; the input reads as it did. -/
def gaugeTellsSpec : ChangeSpec := { name := "gaugeTells", fn := fun _ => fun
  | [d1, d2, d3] => { results := [.lit (.bool true)], args := [d1, d2, d3] }
  | _ => none }
def gaugeTellsRow : OpenClaim := { program := "ytkmnhcjjaadmbaa", sum := "17da6c5e479c99494f723ae2f22777539d540752baaa8a76a396d1c78b5c6002", func := "sennit/sennitlaw27.GaugeTells", spec := "gaugeTells", inPlace := ["math.Float64frombits", "math.Float64bits"], unfollowed := true, recurses := true, apart := false }
def GaugeTellsSaid : Prop := gaugeTellsRow.holds Try.pinned (OpenSpec.ofChange gaugeTellsSpec)

/-- ITS FALSE NEIGHBOUR: 'it returns false'. Refute it at one input. -/
def gaugeTellsWrong : ChangeSpec := { name := "gaugeTells", fn := fun _ => fun
  | [d1, d2, d3] => { results := [.lit (.bool false)], args := [d1, d2, d3] }
  | _ => none }
def GaugeTellsWrongFalsely : Prop := gaugeTellsRow.holds Try.pinned (OpenSpec.ofChange gaugeTellsWrong)

/-- 'sennitlaw27.GaugeOrders': WHATEVER THE INPUT: true; the input reads as it did. -/
def gaugeOrdersSpec : ChangeSpec := { name := "gaugeOrders", fn := fun _ => fun
  | [d] => { results := [.lit (.bool true)], args := [d] }
  | _ => none }
def gaugeOrdersRow : OpenClaim := { program := "ytkmnhcjjaadmbaa", sum := "17da6c5e479c99494f723ae2f22777539d540752baaa8a76a396d1c78b5c6002", func := "sennit/sennitlaw27.GaugeOrders", spec := "gaugeOrders", inPlace := ["math.Float64bits", "math.Float64frombits"], unfollowed := true, recurses := true, apart := false }
def GaugeOrdersSaid : Prop := gaugeOrdersRow.holds Try.pinned (OpenSpec.ofChange gaugeOrdersSpec)

/-- ITS FALSE NEIGHBOUR: 'it returns false'. Refute it at one input. -/
def gaugeOrdersWrong : ChangeSpec := { name := "gaugeOrders", fn := fun _ => fun
  | [d] => { results := [.lit (.bool false)], args := [d] }
  | _ => none }
def GaugeOrdersWrongFalsely : Prop := gaugeOrdersRow.holds Try.pinned (OpenSpec.ofChange gaugeOrdersWrong)

/-- 'sennitlaw27.GaugeOrder': WHATEVER THE INPUT: true; the input reads as it did. -/
def gaugeOrderSpec : ChangeSpec := { name := "gaugeOrder", fn := fun _ => fun
  | [d1, d2] => { results := [.lit (.bool true)], args := [d1, d2] }
  | _ => none }
def gaugeOrderRow : OpenClaim := { program := "ytkmnhcjjaadmbaa", sum := "17da6c5e479c99494f723ae2f22777539d540752baaa8a76a396d1c78b5c6002", func := "sennit/sennitlaw27.GaugeOrder", spec := "gaugeOrder", inPlace := ["math.Float64bits", "math.Float64frombits"], unfollowed := true, recurses := true, apart := false }
def GaugeOrderSaid : Prop := gaugeOrderRow.holds Try.pinned (OpenSpec.ofChange gaugeOrderSpec)

/-- ITS FALSE NEIGHBOUR: 'it returns false'. Refute it at one input. -/
def gaugeOrderWrong : ChangeSpec := { name := "gaugeOrder", fn := fun _ => fun
  | [d1, d2] => { results := [.lit (.bool false)], args := [d1, d2] }
  | _ => none }
def GaugeOrderWrongFalsely : Prop := gaugeOrderRow.holds Try.pinned (OpenSpec.ofChange gaugeOrderWrong)

/-- 'sennitlaw27.GaugeBetween': WHATEVER THE INPUT: true; the input reads as it did. -/
def gaugeBetweenSpec : ChangeSpec := { name := "gaugeBetween", fn := fun _ => fun
  | [d1, d2] => { results := [.lit (.bool true)], args := [d1, d2] }
  | _ => none }
def gaugeBetweenRow : OpenClaim := { program := "ytkmnhcjjaadmbaa", sum := "17da6c5e479c99494f723ae2f22777539d540752baaa8a76a396d1c78b5c6002", func := "sennit/sennitlaw27.GaugeBetween", spec := "gaugeBetween", inPlace := ["math.Float64bits", "math.Float64frombits"], unfollowed := true, recurses := true, apart := false }
def GaugeBetweenSaid : Prop := gaugeBetweenRow.holds Try.pinned (OpenSpec.ofChange gaugeBetweenSpec)

/-- ITS FALSE NEIGHBOUR: 'it returns false'. Refute it at one input. -/
def gaugeBetweenWrong : ChangeSpec := { name := "gaugeBetween", fn := fun _ => fun
  | [d1, d2] => { results := [.lit (.bool false)], args := [d1, d2] }
  | _ => none }
def GaugeBetweenWrongFalsely : Prop := gaugeBetweenRow.holds Try.pinned (OpenSpec.ofChange gaugeBetweenWrong)

/-- 'sennitlaw27.GaugeRates': WHATEVER THE INPUT: true; the input reads as it did. -/
def gaugeRatesSpec : ChangeSpec := { name := "gaugeRates", fn := fun _ => fun
  | [d1, d2] => { results := [.lit (.bool true)], args := [d1, d2] }
  | _ => none }
def gaugeRatesRow : OpenClaim := { program := "ytkmnhcjjaadmbaa", sum := "17da6c5e479c99494f723ae2f22777539d540752baaa8a76a396d1c78b5c6002", func := "sennit/sennitlaw27.GaugeRates", spec := "gaugeRates", inPlace := ["math.Float64bits", "math.Float64frombits"], unfollowed := true, recurses := true, apart := false }
def GaugeRatesSaid : Prop := gaugeRatesRow.holds Try.pinned (OpenSpec.ofChange gaugeRatesSpec)

/-- ITS FALSE NEIGHBOUR: 'it returns false'. Refute it at one input. -/
def gaugeRatesWrong : ChangeSpec := { name := "gaugeRates", fn := fun _ => fun
  | [d1, d2] => { results := [.lit (.bool false)], args := [d1, d2] }
  | _ => none }
def GaugeRatesWrongFalsely : Prop := gaugeRatesRow.holds Try.pinned (OpenSpec.ofChange gaugeRatesWrong)

/- THE SECOND FORM. 'bulk': how many values and letters a reading holds, each counted each time it is reached (what is shared counts as often as it is met; a slice's spare places count too). A statement '..UptoSaid' is the law's where the arguments, and the package variables that the reading takes, are together of bulk at most 1048576: NARROWER than '..Said'. Prove '..Said' where nothing that the law and all that it calls make is longer than what came in: it says more and counts as full. Else prove '..UptoSaid'. A law counts once. -/
mutual
def uptoBulk {H : Type} : DataW H → Nat
  | .lit (.string bytes) => bytes.length + 1
  | .lit _ => 1
  | .nil => 1
  | .ptr d => uptoBulk d + 1
  | .slice elems spare => uptoBulkAll elems + uptoBulkAll spare + 1
  | .agg parts => uptoBulkAll parts + 1
  | .iface _ d => uptoBulk d + 1
  | .map entries => uptoBulkEntries entries + 1
  | .held _ => 1
def uptoBulkAll {H : Type} : List (DataW H) → Nat
  | [] => 0
  | d :: r => uptoBulk d + uptoBulkAll r
def uptoBulkEntries {H : Type} : List (Lit × DataW H) → Nat
  | [] => 0
  | x :: r => uptoBulkEntry x + uptoBulkEntries r
def uptoBulkEntry {H : Type} : Lit × DataW H → Nat
  | (.string bytes, d) => bytes.length + uptoBulk d + 1
  | (_, d) => uptoBulk d + 1
 end
def uptoSmall : (H : Type) → List (DataW H) → Bool := fun _ ds => decide (uptoBulkAll ds ≤ 1048576)
def OpenSpec.upto (s : _root_.Go.ChangeSpec) : _root_.Go.OpenSpec := { _root_.Go.OpenSpec.ofChange s with cond := some uptoSmall }

/-- 'sennitlaw27.GaugeTells', WHERE WHAT IT READS IS OF BULK AT MOST 1048576: true; the input reads as it did. -/
def gaugeTellsUptoRow : OpenClaim := { program := "ytkmnhcjjaadmbaa", sum := "17da6c5e479c99494f723ae2f22777539d540752baaa8a76a396d1c78b5c6002", func := "sennit/sennitlaw27.GaugeTells", spec := "gaugeTells", inPlace := ["math.Float64frombits", "math.Float64bits"], unfollowed := true, recurses := true, apart := false, narrowed := true }
def GaugeTellsUptoSaid : Prop := gaugeTellsUptoRow.holds Try.pinned (OpenSpec.upto gaugeTellsSpec)

/-- 'sennitlaw27.GaugeOrders', WHERE WHAT IT READS IS OF BULK AT MOST 1048576: true; the input reads as it did. -/
def gaugeOrdersUptoRow : OpenClaim := { program := "ytkmnhcjjaadmbaa", sum := "17da6c5e479c99494f723ae2f22777539d540752baaa8a76a396d1c78b5c6002", func := "sennit/sennitlaw27.GaugeOrders", spec := "gaugeOrders", inPlace := ["math.Float64bits", "math.Float64frombits"], unfollowed := true, recurses := true, apart := false, narrowed := true }
def GaugeOrdersUptoSaid : Prop := gaugeOrdersUptoRow.holds Try.pinned (OpenSpec.upto gaugeOrdersSpec)

/-- 'sennitlaw27.GaugeOrder', WHERE WHAT IT READS IS OF BULK AT MOST 1048576: true; the input reads as it did. -/
def gaugeOrderUptoRow : OpenClaim := { program := "ytkmnhcjjaadmbaa", sum := "17da6c5e479c99494f723ae2f22777539d540752baaa8a76a396d1c78b5c6002", func := "sennit/sennitlaw27.GaugeOrder", spec := "gaugeOrder", inPlace := ["math.Float64bits", "math.Float64frombits"], unfollowed := true, recurses := true, apart := false, narrowed := true }
def GaugeOrderUptoSaid : Prop := gaugeOrderUptoRow.holds Try.pinned (OpenSpec.upto gaugeOrderSpec)

/-- 'sennitlaw27.GaugeBetween', WHERE WHAT IT READS IS OF BULK AT MOST 1048576: true; the input reads as it did. -/
def gaugeBetweenUptoRow : OpenClaim := { program := "ytkmnhcjjaadmbaa", sum := "17da6c5e479c99494f723ae2f22777539d540752baaa8a76a396d1c78b5c6002", func := "sennit/sennitlaw27.GaugeBetween", spec := "gaugeBetween", inPlace := ["math.Float64bits", "math.Float64frombits"], unfollowed := true, recurses := true, apart := false, narrowed := true }
def GaugeBetweenUptoSaid : Prop := gaugeBetweenUptoRow.holds Try.pinned (OpenSpec.upto gaugeBetweenSpec)

/-- 'sennitlaw27.GaugeRates', WHERE WHAT IT READS IS OF BULK AT MOST 1048576: true; the input reads as it did. -/
def gaugeRatesUptoRow : OpenClaim := { program := "ytkmnhcjjaadmbaa", sum := "17da6c5e479c99494f723ae2f22777539d540752baaa8a76a396d1c78b5c6002", func := "sennit/sennitlaw27.GaugeRates", spec := "gaugeRates", inPlace := ["math.Float64bits", "math.Float64frombits"], unfollowed := true, recurses := true, apart := false, narrowed := true }
def GaugeRatesUptoSaid : Prop := gaugeRatesUptoRow.holds Try.pinned (OpenSpec.upto gaugeRatesSpec)

end Rows
end Go.Proofs.Ytkmnhcjjaadmbaa
