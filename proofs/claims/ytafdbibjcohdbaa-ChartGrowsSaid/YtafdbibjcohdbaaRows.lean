/-
  No cell of these rows narrows 'for every input' (looked for: loops, veiled, ifaces, maps, wideKeys, modest, calm, conditions, laid).
  DERIVED. THE GIVEN ROWS OF THIS SEAT. 6 by the template 'for every input the law returns true; each argument reads behind the call as it read before'; 0 by the template 'total and deterministic' (their statements: YtafdbibjcohdbaaTotals.lean).
  GIVEN WITH THE SEED: the statements are not yours to turn. If you find one false, say at which input.
  Laid BY PROGRAM, IN A SANDBOX (cutbox-rows.mjs): the forced cells as the released guide's own fill.sh prints them over the translation 7c8a78bc228b530f… (all of the seat's roots in one cut). By AI agents, Wed Nov 11 2026. No macro, syntax, notation, axiom, sorry.
-/
import Derived.Test.YtafdbibjcohdbaaChecked
import GoSem.Claim
import GoSem.ClaimJoined
import GoSem.ClaimMapViews
import Derived.JoinedTies
import Derived.KernelRfl
namespace Go.Proofs.Ytafdbibjcohdbaa
/- THE CELL 'sum', in the pinned program and in every row, IS THE sha256 OF THE DUMP (.gsa) THAT YtafdbibjcohdbaaProg.lean LOADS. Nothing in Lean hashes anything: it is a label: what it is worth is what the hold of that sum in a sandbox is worth. -/
noncomputable def Try.pinned : Pinned := { name := "ytafdbibjcohdbaa", sum := "7c8a78bc228b530f6ce16a86bbe4c4d91f6ea0572af82fc634e580e637339980", checked := Try.checked }
namespace Rows
def none {H : Type} : Left H := { results := [], args := [] }

/-- 'hamperlaw26.ChartWalks': WHATEVER THE INPUT: true; the input reads as it did. -/
def chartWalksSpec : ChangeSpec := { name := "chartWalks", fn := fun _ => fun
  | [d1, d2] => { results := [.lit (.bool true)], args := [d1, d2] }
  | _ => none }
def chartWalksRow : OpenClaim := { program := "ytafdbibjcohdbaa", sum := "7c8a78bc228b530f6ce16a86bbe4c4d91f6ea0572af82fc634e580e637339980", func := "hamper/hamperlaw26.ChartWalks", spec := "chartWalks", unfollowed := true, recurses := true, apart := false }
def ChartWalksSaid : Prop := chartWalksRow.holds Try.pinned (OpenSpec.ofChange chartWalksSpec)

/-- ITS FALSE NEIGHBOUR: 'it returns false'. Refute it at one input. -/
def chartWalksWrong : ChangeSpec := { name := "chartWalks", fn := fun _ => fun
  | [d1, d2] => { results := [.lit (.bool false)], args := [d1, d2] }
  | _ => none }
def ChartWalksWrongFalsely : Prop := chartWalksRow.holds Try.pinned (OpenSpec.ofChange chartWalksWrong)

/-- 'hamperlaw26.ChartSpots': WHATEVER THE INPUT: true; the input reads as it did. -/
def chartSpotsSpec : ChangeSpec := { name := "chartSpots", fn := fun _ => fun
  | [d1, d2, d3] => { results := [.lit (.bool true)], args := [d1, d2, d3] }
  | _ => none }
def chartSpotsRow : OpenClaim := { program := "ytafdbibjcohdbaa", sum := "7c8a78bc228b530f6ce16a86bbe4c4d91f6ea0572af82fc634e580e637339980", func := "hamper/hamperlaw26.ChartSpots", spec := "chartSpots", apart := false }
def ChartSpotsSaid : Prop := chartSpotsRow.holds Try.pinned (OpenSpec.ofChange chartSpotsSpec)

/-- ITS FALSE NEIGHBOUR: 'it returns false'. Refute it at one input. -/
def chartSpotsWrong : ChangeSpec := { name := "chartSpots", fn := fun _ => fun
  | [d1, d2, d3] => { results := [.lit (.bool false)], args := [d1, d2, d3] }
  | _ => none }
def ChartSpotsWrongFalsely : Prop := chartSpotsRow.holds Try.pinned (OpenSpec.ofChange chartSpotsWrong)

/-- 'hamperlaw26.ChartBack': WHATEVER THE INPUT: true; the input reads as it did. -/
def chartBackSpec : ChangeSpec := { name := "chartBack", fn := fun _ => fun
  | [d] => { results := [.lit (.bool true)], args := [d] }
  | _ => none }
def chartBackRow : OpenClaim := { program := "ytafdbibjcohdbaa", sum := "7c8a78bc228b530f6ce16a86bbe4c4d91f6ea0572af82fc634e580e637339980", func := "hamper/hamperlaw26.ChartBack", spec := "chartBack", apart := false }
def ChartBackSaid : Prop := chartBackRow.holds Try.pinned (OpenSpec.ofChange chartBackSpec)

/-- ITS FALSE NEIGHBOUR: 'it returns false'. Refute it at one input. -/
def chartBackWrong : ChangeSpec := { name := "chartBack", fn := fun _ => fun
  | [d] => { results := [.lit (.bool false)], args := [d] }
  | _ => none }
def ChartBackWrongFalsely : Prop := chartBackRow.holds Try.pinned (OpenSpec.ofChange chartBackWrong)

/-- 'hamperlaw26.ChartCounts': WHATEVER THE INPUT: true; the input reads as it did. -/
def chartCountsSpec : ChangeSpec := { name := "chartCounts", fn := fun _ => fun
  | [d] => { results := [.lit (.bool true)], args := [d] }
  | _ => none }
def chartCountsRow : OpenClaim := { program := "ytafdbibjcohdbaa", sum := "7c8a78bc228b530f6ce16a86bbe4c4d91f6ea0572af82fc634e580e637339980", func := "hamper/hamperlaw26.ChartCounts", spec := "chartCounts", inPlace := ["internal/abi.NoEscape", "internal/bytealg.MakeNoZero"], unfollowed := true, recurses := true, apart := false }
def ChartCountsSaid : Prop := chartCountsRow.holds Try.pinned (OpenSpec.ofChange chartCountsSpec)

/-- ITS FALSE NEIGHBOUR: 'it returns false'. Refute it at one input. -/
def chartCountsWrong : ChangeSpec := { name := "chartCounts", fn := fun _ => fun
  | [d] => { results := [.lit (.bool false)], args := [d] }
  | _ => none }
def ChartCountsWrongFalsely : Prop := chartCountsRow.holds Try.pinned (OpenSpec.ofChange chartCountsWrong)

/-- 'hamperlaw26.ChartGrows': WHATEVER THE INPUT: true; the input reads as it did. -/
def chartGrowsSpec : ChangeSpec := { name := "chartGrows", fn := fun _ => fun
  | [d1, d2] => { results := [.lit (.bool true)], args := [d1, d2] }
  | _ => none }
def chartGrowsRow : OpenClaim := { program := "ytafdbibjcohdbaa", sum := "7c8a78bc228b530f6ce16a86bbe4c4d91f6ea0572af82fc634e580e637339980", func := "hamper/hamperlaw26.ChartGrows", spec := "chartGrows", inPlace := ["internal/abi.NoEscape", "internal/bytealg.MakeNoZero"], unfollowed := true, recurses := true, apart := false }
def ChartGrowsSaid : Prop := chartGrowsRow.holds Try.pinned (OpenSpec.ofChange chartGrowsSpec)

/-- ITS FALSE NEIGHBOUR: 'it returns false'. Refute it at one input. -/
def chartGrowsWrong : ChangeSpec := { name := "chartGrows", fn := fun _ => fun
  | [d1, d2] => { results := [.lit (.bool false)], args := [d1, d2] }
  | _ => none }
def ChartGrowsWrongFalsely : Prop := chartGrowsRow.holds Try.pinned (OpenSpec.ofChange chartGrowsWrong)

/-- 'hamperlaw26.ChartDraws': WHATEVER THE INPUT: true; the input reads as it did. -/
def chartDrawsSpec : ChangeSpec := { name := "chartDraws", fn := fun _ => fun
  | [d1, d2, d3] => { results := [.lit (.bool true)], args := [d1, d2, d3] }
  | _ => none }
def chartDrawsRow : OpenClaim := { program := "ytafdbibjcohdbaa", sum := "7c8a78bc228b530f6ce16a86bbe4c4d91f6ea0572af82fc634e580e637339980", func := "hamper/hamperlaw26.ChartDraws", spec := "chartDraws", inPlace := ["internal/abi.NoEscape", "internal/bytealg.MakeNoZero"], unfollowed := true, recurses := true, apart := false }
def ChartDrawsSaid : Prop := chartDrawsRow.holds Try.pinned (OpenSpec.ofChange chartDrawsSpec)

/-- ITS FALSE NEIGHBOUR: 'it returns false'. Refute it at one input. -/
def chartDrawsWrong : ChangeSpec := { name := "chartDraws", fn := fun _ => fun
  | [d1, d2, d3] => { results := [.lit (.bool false)], args := [d1, d2, d3] }
  | _ => none }
def ChartDrawsWrongFalsely : Prop := chartDrawsRow.holds Try.pinned (OpenSpec.ofChange chartDrawsWrong)

/- THE SECOND FORM. 'bulk': how many values and letters a reading holds, each counted each time it is reached (what is shared counts as often as it is met; a slice's spare places count too). A statement '..UptoSaid' is the law's where the arguments, and the package variables that the reading takes, are together of bulk at most 1048576: NARROWER than '..Said'. Prove '..Said' where nothing that the law and all that it calls make is longer than what came in: it says more and counts as full. Else prove '..UptoSaid'. A law counts once. -/
mutual
def uptoBulk {H : Type} : DataW H → Nat
  | .lit (.string bytes) => bytes.length + 1
  | .lit _ => 1
  | .nil => 1
  | .ptr d => uptoBulk d + 1
  | .slice elems spare => uptoBulkAll elems + uptoBulkAll spare + 1
  | .agg parts => uptoBulkAll parts + 1
  | .iface _ d => uptoBulk d + 1
  | .map entries => uptoBulkEntries entries + 1
  | .held _ => 1
def uptoBulkAll {H : Type} : List (DataW H) → Nat
  | [] => 0
  | d :: r => uptoBulk d + uptoBulkAll r
def uptoBulkEntries {H : Type} : List (Lit × DataW H) → Nat
  | [] => 0
  | x :: r => uptoBulkEntry x + uptoBulkEntries r
def uptoBulkEntry {H : Type} : Lit × DataW H → Nat
  | (.string bytes, d) => bytes.length + uptoBulk d + 1
  | (_, d) => uptoBulk d + 1
 end
def uptoSmall : (H : Type) → List (DataW H) → Bool := fun _ ds => decide (uptoBulkAll ds ≤ 1048576)
def OpenSpec.upto (s : _root_.Go.ChangeSpec) : _root_.Go.OpenSpec := { _root_.Go.OpenSpec.ofChange s with cond := some uptoSmall }

/-- 'hamperlaw26.ChartWalks', WHERE WHAT IT READS IS OF BULK AT MOST 1048576: true; the input reads as it did. -/
def chartWalksUptoRow : OpenClaim := { program := "ytafdbibjcohdbaa", sum := "7c8a78bc228b530f6ce16a86bbe4c4d91f6ea0572af82fc634e580e637339980", func := "hamper/hamperlaw26.ChartWalks", spec := "chartWalks", unfollowed := true, recurses := true, apart := false, narrowed := true }
def ChartWalksUptoSaid : Prop := chartWalksUptoRow.holds Try.pinned (OpenSpec.upto chartWalksSpec)

/-- 'hamperlaw26.ChartSpots', WHERE WHAT IT READS IS OF BULK AT MOST 1048576: true; the input reads as it did. -/
def chartSpotsUptoRow : OpenClaim := { program := "ytafdbibjcohdbaa", sum := "7c8a78bc228b530f6ce16a86bbe4c4d91f6ea0572af82fc634e580e637339980", func := "hamper/hamperlaw26.ChartSpots", spec := "chartSpots", apart := false, narrowed := true }
def ChartSpotsUptoSaid : Prop := chartSpotsUptoRow.holds Try.pinned (OpenSpec.upto chartSpotsSpec)

/-- 'hamperlaw26.ChartBack', WHERE WHAT IT READS IS OF BULK AT MOST 1048576: true; the input reads as it did. -/
def chartBackUptoRow : OpenClaim := { program := "ytafdbibjcohdbaa", sum := "7c8a78bc228b530f6ce16a86bbe4c4d91f6ea0572af82fc634e580e637339980", func := "hamper/hamperlaw26.ChartBack", spec := "chartBack", apart := false, narrowed := true }
def ChartBackUptoSaid : Prop := chartBackUptoRow.holds Try.pinned (OpenSpec.upto chartBackSpec)

/-- 'hamperlaw26.ChartCounts', WHERE WHAT IT READS IS OF BULK AT MOST 1048576: true; the input reads as it did. -/
def chartCountsUptoRow : OpenClaim := { program := "ytafdbibjcohdbaa", sum := "7c8a78bc228b530f6ce16a86bbe4c4d91f6ea0572af82fc634e580e637339980", func := "hamper/hamperlaw26.ChartCounts", spec := "chartCounts", inPlace := ["internal/abi.NoEscape", "internal/bytealg.MakeNoZero"], unfollowed := true, recurses := true, apart := false, narrowed := true }
def ChartCountsUptoSaid : Prop := chartCountsUptoRow.holds Try.pinned (OpenSpec.upto chartCountsSpec)

/-- 'hamperlaw26.ChartGrows', WHERE WHAT IT READS IS OF BULK AT MOST 1048576: true; the input reads as it did. -/
def chartGrowsUptoRow : OpenClaim := { program := "ytafdbibjcohdbaa", sum := "7c8a78bc228b530f6ce16a86bbe4c4d91f6ea0572af82fc634e580e637339980", func := "hamper/hamperlaw26.ChartGrows", spec := "chartGrows", inPlace := ["internal/abi.NoEscape", "internal/bytealg.MakeNoZero"], unfollowed := true, recurses := true, apart := false, narrowed := true }
def ChartGrowsUptoSaid : Prop := chartGrowsUptoRow.holds Try.pinned (OpenSpec.upto chartGrowsSpec)

/-- 'hamperlaw26.ChartDraws', WHERE WHAT IT READS IS OF BULK AT MOST 1048576: true; the input reads as it did. -/
def chartDrawsUptoRow : OpenClaim := { program := "ytafdbibjcohdbaa", sum := "7c8a78bc228b530f6ce16a86bbe4c4d91f6ea0572af82fc634e580e637339980", func := "hamper/hamperlaw26.ChartDraws", spec := "chartDraws", inPlace := ["internal/abi.NoEscape", "internal/bytealg.MakeNoZero"], unfollowed := true, recurses := true, apart := false, narrowed := true }
def ChartDrawsUptoSaid : Prop := chartDrawsUptoRow.holds Try.pinned (OpenSpec.upto chartDrawsSpec)

end Rows
end Go.Proofs.Ytafdbibjcohdbaa
