/-
  No cell of these rows narrows 'for every input' (looked for: loops, veiled, ifaces, maps, wideKeys, modest, calm, conditions, laid).
  DERIVED. THE GIVEN ROWS OF THIS SEAT. 18 by the template 'for every input the law returns true; each argument reads behind the call as it read before'; 0 by the template 'total and deterministic' (their statements: YtpehceccnjdfeaaTotals.lean).
  GIVEN WITH THE SEED: the statements are not yours to turn. If you find one false, say at which input.
  Laid BY PROGRAM, IN A SANDBOX (cutbox-rows.mjs): the forced cells as the released guide's own fill.sh prints them over the translation f4b579d3a0b4e726… (all of the seat's roots in one cut). By AI agents, Wed Nov 11 2026. No macro, syntax, notation, axiom, sorry.
-/
import Derived.Test.YtpehceccnjdfeaaChecked
import GoSem.Claim
import GoSem.ClaimJoined
import GoSem.ClaimMapViews
import Derived.JoinedTies
import Derived.KernelRfl
namespace Go.Proofs.Ytpehceccnjdfeaa
/- THE CELL 'sum', in the pinned program and in every row, IS THE sha256 OF THE DUMP (.gsa) THAT YtpehceccnjdfeaaProg.lean LOADS. Nothing in Lean hashes anything: it is a label: what it is worth is what the hold of that sum in a sandbox is worth. -/
noncomputable def Try.pinned : Pinned := { name := "ytpehceccnjdfeaa", sum := "f4b579d3a0b4e726dac5c61e5c8f19f194e37c8902fc94608f74c26cbef48aad", checked := Try.checked }
namespace Rows
def none {H : Type} : Left H := { results := [], args := [] }

/-- 'mullionlaw04.LayoutNews': WHATEVER THE INPUT: true; the input reads as it did. -/
def layoutNewsSpec : ChangeSpec := { name := "layoutNews", fn := fun _ => fun
  | [d1, d2, d3] => { results := [.lit (.bool true)], args := [d1, d2, d3] }
  | _ => none }
def layoutNewsRow : OpenClaim := { program := "ytpehceccnjdfeaa", sum := "f4b579d3a0b4e726dac5c61e5c8f19f194e37c8902fc94608f74c26cbef48aad", func := "mullion/mullionlaw04.LayoutNews", spec := "layoutNews", inPlace := ["slices.overlaps[mullion/layout.cell]"], unfollowed := true, recurses := true, apart := false }
def LayoutNewsSaid : Prop := layoutNewsRow.holds Try.pinned (OpenSpec.ofChange layoutNewsSpec)

/-- ITS FALSE NEIGHBOUR: 'it returns false'. Refute it at one input. -/
def layoutNewsWrong : ChangeSpec := { name := "layoutNews", fn := fun _ => fun
  | [d1, d2, d3] => { results := [.lit (.bool false)], args := [d1, d2, d3] }
  | _ => none }
def LayoutNewsWrongFalsely : Prop := layoutNewsRow.holds Try.pinned (OpenSpec.ofChange layoutNewsWrong)

/-- 'mullionlaw04.LayoutSplits': WHATEVER THE INPUT: true; the input reads as it did. -/
def layoutSplitsSpec : ChangeSpec := { name := "layoutSplits", fn := fun _ => fun
  | [d1, d2] => { results := [.lit (.bool true)], args := [d1, d2] }
  | _ => none }
def layoutSplitsRow : OpenClaim := { program := "ytpehceccnjdfeaa", sum := "f4b579d3a0b4e726dac5c61e5c8f19f194e37c8902fc94608f74c26cbef48aad", func := "mullion/mullionlaw04.LayoutSplits", spec := "layoutSplits", inPlace := ["slices.overlaps[mullion/layout.cell]"], unfollowed := true, recurses := true, apart := false }
def LayoutSplitsSaid : Prop := layoutSplitsRow.holds Try.pinned (OpenSpec.ofChange layoutSplitsSpec)

/-- ITS FALSE NEIGHBOUR: 'it returns false'. Refute it at one input. -/
def layoutSplitsWrong : ChangeSpec := { name := "layoutSplits", fn := fun _ => fun
  | [d1, d2] => { results := [.lit (.bool false)], args := [d1, d2] }
  | _ => none }
def LayoutSplitsWrongFalsely : Prop := layoutSplitsRow.holds Try.pinned (OpenSpec.ofChange layoutSplitsWrong)

/-- 'mullionlaw04.LayoutNexts': WHATEVER THE INPUT: true; the input reads as it did. -/
def layoutNextsSpec : ChangeSpec := { name := "layoutNexts", fn := fun _ => fun
  | [d1, d2, d3] => { results := [.lit (.bool true)], args := [d1, d2, d3] }
  | _ => none }
def layoutNextsRow : OpenClaim := { program := "ytpehceccnjdfeaa", sum := "f4b579d3a0b4e726dac5c61e5c8f19f194e37c8902fc94608f74c26cbef48aad", func := "mullion/mullionlaw04.LayoutNexts", spec := "layoutNexts", inPlace := ["slices.overlaps[mullion/layout.cell]"], unfollowed := true, recurses := true, apart := false }
def LayoutNextsSaid : Prop := layoutNextsRow.holds Try.pinned (OpenSpec.ofChange layoutNextsSpec)

/-- ITS FALSE NEIGHBOUR: 'it returns false'. Refute it at one input. -/
def layoutNextsWrong : ChangeSpec := { name := "layoutNexts", fn := fun _ => fun
  | [d1, d2, d3] => { results := [.lit (.bool false)], args := [d1, d2, d3] }
  | _ => none }
def LayoutNextsWrongFalsely : Prop := layoutNextsRow.holds Try.pinned (OpenSpec.ofChange layoutNextsWrong)

/-- 'mullionlaw04.LayoutLooks': WHATEVER THE INPUT: true; the input reads as it did. -/
def layoutLooksSpec : ChangeSpec := { name := "layoutLooks", fn := fun _ => fun
  | [d1, d2, d3] => { results := [.lit (.bool true)], args := [d1, d2, d3] }
  | _ => none }
def layoutLooksRow : OpenClaim := { program := "ytpehceccnjdfeaa", sum := "f4b579d3a0b4e726dac5c61e5c8f19f194e37c8902fc94608f74c26cbef48aad", func := "mullion/mullionlaw04.LayoutLooks", spec := "layoutLooks", inPlace := ["slices.overlaps[mullion/layout.cell]"], unfollowed := true, recurses := true, apart := false }
def LayoutLooksSaid : Prop := layoutLooksRow.holds Try.pinned (OpenSpec.ofChange layoutLooksSpec)

/-- ITS FALSE NEIGHBOUR: 'it returns false'. Refute it at one input. -/
def layoutLooksWrong : ChangeSpec := { name := "layoutLooks", fn := fun _ => fun
  | [d1, d2, d3] => { results := [.lit (.bool false)], args := [d1, d2, d3] }
  | _ => none }
def LayoutLooksWrongFalsely : Prop := layoutLooksRow.holds Try.pinned (OpenSpec.ofChange layoutLooksWrong)

/-- 'mullionlaw04.LayoutOwn': WHATEVER THE INPUT: true; the input reads as it did. -/
def layoutOwnSpec : ChangeSpec := { name := "layoutOwn", fn := fun _ => fun
  | [d1, d2, d3] => { results := [.lit (.bool true)], args := [d1, d2, d3] }
  | _ => none }
def layoutOwnRow : OpenClaim := { program := "ytpehceccnjdfeaa", sum := "f4b579d3a0b4e726dac5c61e5c8f19f194e37c8902fc94608f74c26cbef48aad", func := "mullion/mullionlaw04.LayoutOwn", spec := "layoutOwn", inPlace := ["slices.overlaps[mullion/layout.cell]"], unfollowed := true, recurses := true, apart := false }
def LayoutOwnSaid : Prop := layoutOwnRow.holds Try.pinned (OpenSpec.ofChange layoutOwnSpec)

/-- ITS FALSE NEIGHBOUR: 'it returns false'. Refute it at one input. -/
def layoutOwnWrong : ChangeSpec := { name := "layoutOwn", fn := fun _ => fun
  | [d1, d2, d3] => { results := [.lit (.bool false)], args := [d1, d2, d3] }
  | _ => none }
def LayoutOwnWrongFalsely : Prop := layoutOwnRow.holds Try.pinned (OpenSpec.ofChange layoutOwnWrong)

/-- 'mullionlaw04.LayoutChecks': WHATEVER THE INPUT: true; the input reads as it did. -/
def layoutChecksSpec : ChangeSpec := { name := "layoutChecks", fn := fun _ => fun
  | [d] => { results := [.lit (.bool true)], args := [d] }
  | _ => none }
def layoutChecksRow : OpenClaim := { program := "ytpehceccnjdfeaa", sum := "f4b579d3a0b4e726dac5c61e5c8f19f194e37c8902fc94608f74c26cbef48aad", func := "mullion/mullionlaw04.LayoutChecks", spec := "layoutChecks", inPlace := ["slices.overlaps[mullion/layout.cell]"], unfollowed := true, recurses := true, apart := false }
def LayoutChecksSaid : Prop := layoutChecksRow.holds Try.pinned (OpenSpec.ofChange layoutChecksSpec)

/-- ITS FALSE NEIGHBOUR: 'it returns false'. Refute it at one input. -/
def layoutChecksWrong : ChangeSpec := { name := "layoutChecks", fn := fun _ => fun
  | [d] => { results := [.lit (.bool false)], args := [d] }
  | _ => none }
def LayoutChecksWrongFalsely : Prop := layoutChecksRow.holds Try.pinned (OpenSpec.ofChange layoutChecksWrong)

/-- 'mullionlaw04.LayoutKeeps': WHATEVER THE INPUT: true; the input reads as it did. -/
def layoutKeepsSpec : ChangeSpec := { name := "layoutKeeps", fn := fun _ => fun
  | [d1, d2] => { results := [.lit (.bool true)], args := [d1, d2] }
  | _ => none }
def layoutKeepsRow : OpenClaim := { program := "ytpehceccnjdfeaa", sum := "f4b579d3a0b4e726dac5c61e5c8f19f194e37c8902fc94608f74c26cbef48aad", func := "mullion/mullionlaw04.LayoutKeeps", spec := "layoutKeeps", inPlace := ["slices.overlaps[mullion/layout.cell]"], unfollowed := true, recurses := true, apart := false }
def LayoutKeepsSaid : Prop := layoutKeepsRow.holds Try.pinned (OpenSpec.ofChange layoutKeepsSpec)

/-- ITS FALSE NEIGHBOUR: 'it returns false'. Refute it at one input. -/
def layoutKeepsWrong : ChangeSpec := { name := "layoutKeeps", fn := fun _ => fun
  | [d1, d2] => { results := [.lit (.bool false)], args := [d1, d2] }
  | _ => none }
def LayoutKeepsWrongFalsely : Prop := layoutKeepsRow.holds Try.pinned (OpenSpec.ofChange layoutKeepsWrong)

/-- 'mullionlaw04.LayoutSwaps': WHATEVER THE INPUT: true; the input reads as it did. -/
def layoutSwapsSpec : ChangeSpec := { name := "layoutSwaps", fn := fun _ => fun
  | [d1, d2, d3] => { results := [.lit (.bool true)], args := [d1, d2, d3] }
  | _ => none }
def layoutSwapsRow : OpenClaim := { program := "ytpehceccnjdfeaa", sum := "f4b579d3a0b4e726dac5c61e5c8f19f194e37c8902fc94608f74c26cbef48aad", func := "mullion/mullionlaw04.LayoutSwaps", spec := "layoutSwaps", inPlace := ["slices.overlaps[mullion/layout.cell]"], unfollowed := true, recurses := true, apart := false }
def LayoutSwapsSaid : Prop := layoutSwapsRow.holds Try.pinned (OpenSpec.ofChange layoutSwapsSpec)

/-- ITS FALSE NEIGHBOUR: 'it returns false'. Refute it at one input. -/
def layoutSwapsWrong : ChangeSpec := { name := "layoutSwaps", fn := fun _ => fun
  | [d1, d2, d3] => { results := [.lit (.bool false)], args := [d1, d2, d3] }
  | _ => none }
def LayoutSwapsWrongFalsely : Prop := layoutSwapsRow.holds Try.pinned (OpenSpec.ofChange layoutSwapsWrong)

/-- 'mullionlaw04.LayoutBesides': WHATEVER THE INPUT: true; the input reads as it did. -/
def layoutBesidesSpec : ChangeSpec := { name := "layoutBesides", fn := fun _ => fun
  | [d1, d2, d3] => { results := [.lit (.bool true)], args := [d1, d2, d3] }
  | _ => none }
def layoutBesidesRow : OpenClaim := { program := "ytpehceccnjdfeaa", sum := "f4b579d3a0b4e726dac5c61e5c8f19f194e37c8902fc94608f74c26cbef48aad", func := "mullion/mullionlaw04.LayoutBesides", spec := "layoutBesides", inPlace := ["slices.overlaps[mullion/layout.cell]"], unfollowed := true, recurses := true, apart := false }
def LayoutBesidesSaid : Prop := layoutBesidesRow.holds Try.pinned (OpenSpec.ofChange layoutBesidesSpec)

/-- ITS FALSE NEIGHBOUR: 'it returns false'. Refute it at one input. -/
def layoutBesidesWrong : ChangeSpec := { name := "layoutBesides", fn := fun _ => fun
  | [d1, d2, d3] => { results := [.lit (.bool false)], args := [d1, d2, d3] }
  | _ => none }
def LayoutBesidesWrongFalsely : Prop := layoutBesidesRow.holds Try.pinned (OpenSpec.ofChange layoutBesidesWrong)

/-- 'mullionlaw04.LayoutResizes': WHATEVER THE INPUT: true; the input reads as it did. -/
def layoutResizesSpec : ChangeSpec := { name := "layoutResizes", fn := fun _ => fun
  | [d1, d2, d3] => { results := [.lit (.bool true)], args := [d1, d2, d3] }
  | _ => none }
def layoutResizesRow : OpenClaim := { program := "ytpehceccnjdfeaa", sum := "f4b579d3a0b4e726dac5c61e5c8f19f194e37c8902fc94608f74c26cbef48aad", func := "mullion/mullionlaw04.LayoutResizes", spec := "layoutResizes", inPlace := ["slices.overlaps[mullion/layout.cell]"], unfollowed := true, recurses := true, apart := false }
def LayoutResizesSaid : Prop := layoutResizesRow.holds Try.pinned (OpenSpec.ofChange layoutResizesSpec)

/-- ITS FALSE NEIGHBOUR: 'it returns false'. Refute it at one input. -/
def layoutResizesWrong : ChangeSpec := { name := "layoutResizes", fn := fun _ => fun
  | [d1, d2, d3] => { results := [.lit (.bool false)], args := [d1, d2, d3] }
  | _ => none }
def LayoutResizesWrongFalsely : Prop := layoutResizesRow.holds Try.pinned (OpenSpec.ofChange layoutResizesWrong)

/-- 'mullionlaw04.LayoutFulls': WHATEVER THE INPUT: true; the input reads as it did. -/
def layoutFullsSpec : ChangeSpec := { name := "layoutFulls", fn := fun _ => fun
  | [d1, d2] => { results := [.lit (.bool true)], args := [d1, d2] }
  | _ => none }
def layoutFullsRow : OpenClaim := { program := "ytpehceccnjdfeaa", sum := "f4b579d3a0b4e726dac5c61e5c8f19f194e37c8902fc94608f74c26cbef48aad", func := "mullion/mullionlaw04.LayoutFulls", spec := "layoutFulls", inPlace := ["slices.overlaps[mullion/layout.cell]"], unfollowed := true, recurses := true, apart := false }
def LayoutFullsSaid : Prop := layoutFullsRow.holds Try.pinned (OpenSpec.ofChange layoutFullsSpec)

/-- ITS FALSE NEIGHBOUR: 'it returns false'. Refute it at one input. -/
def layoutFullsWrong : ChangeSpec := { name := "layoutFulls", fn := fun _ => fun
  | [d1, d2] => { results := [.lit (.bool false)], args := [d1, d2] }
  | _ => none }
def LayoutFullsWrongFalsely : Prop := layoutFullsRow.holds Try.pinned (OpenSpec.ofChange layoutFullsWrong)

/-- 'mullionlaw04.LayoutCloses': WHATEVER THE INPUT: true; the input reads as it did. -/
def layoutClosesSpec : ChangeSpec := { name := "layoutCloses", fn := fun _ => fun
  | [d1, d2] => { results := [.lit (.bool true)], args := [d1, d2] }
  | _ => none }
def layoutClosesRow : OpenClaim := { program := "ytpehceccnjdfeaa", sum := "f4b579d3a0b4e726dac5c61e5c8f19f194e37c8902fc94608f74c26cbef48aad", func := "mullion/mullionlaw04.LayoutCloses", spec := "layoutCloses", inPlace := ["slices.overlaps[mullion/layout.cell]"], unfollowed := true, recurses := true, apart := false }
def LayoutClosesSaid : Prop := layoutClosesRow.holds Try.pinned (OpenSpec.ofChange layoutClosesSpec)

/-- ITS FALSE NEIGHBOUR: 'it returns false'. Refute it at one input. -/
def layoutClosesWrong : ChangeSpec := { name := "layoutCloses", fn := fun _ => fun
  | [d1, d2] => { results := [.lit (.bool false)], args := [d1, d2] }
  | _ => none }
def LayoutClosesWrongFalsely : Prop := layoutClosesRow.holds Try.pinned (OpenSpec.ofChange layoutClosesWrong)

/-- 'mullionlaw04.LayoutPushes': WHATEVER THE INPUT: true; the input reads as it did. -/
def layoutPushesSpec : ChangeSpec := { name := "layoutPushes", fn := fun _ => fun
  | [d1, d2] => { results := [.lit (.bool true)], args := [d1, d2] }
  | _ => none }
def layoutPushesRow : OpenClaim := { program := "ytpehceccnjdfeaa", sum := "f4b579d3a0b4e726dac5c61e5c8f19f194e37c8902fc94608f74c26cbef48aad", func := "mullion/mullionlaw04.LayoutPushes", spec := "layoutPushes", inPlace := ["slices.overlaps[mullion/layout.cell]"], unfollowed := true, recurses := true, apart := false }
def LayoutPushesSaid : Prop := layoutPushesRow.holds Try.pinned (OpenSpec.ofChange layoutPushesSpec)

/-- ITS FALSE NEIGHBOUR: 'it returns false'. Refute it at one input. -/
def layoutPushesWrong : ChangeSpec := { name := "layoutPushes", fn := fun _ => fun
  | [d1, d2] => { results := [.lit (.bool false)], args := [d1, d2] }
  | _ => none }
def LayoutPushesWrongFalsely : Prop := layoutPushesRow.holds Try.pinned (OpenSpec.ofChange layoutPushesWrong)

/-- 'mullionlaw04.LayoutSets': WHATEVER THE INPUT: true; the input reads as it did. -/
def layoutSetsSpec : ChangeSpec := { name := "layoutSets", fn := fun _ => fun
  | [d1, d2] => { results := [.lit (.bool true)], args := [d1, d2] }
  | _ => none }
def layoutSetsRow : OpenClaim := { program := "ytpehceccnjdfeaa", sum := "f4b579d3a0b4e726dac5c61e5c8f19f194e37c8902fc94608f74c26cbef48aad", func := "mullion/mullionlaw04.LayoutSets", spec := "layoutSets", inPlace := ["slices.overlaps[mullion/layout.cell]"], unfollowed := true, recurses := true, apart := false }
def LayoutSetsSaid : Prop := layoutSetsRow.holds Try.pinned (OpenSpec.ofChange layoutSetsSpec)

/-- ITS FALSE NEIGHBOUR: 'it returns false'. Refute it at one input. -/
def layoutSetsWrong : ChangeSpec := { name := "layoutSets", fn := fun _ => fun
  | [d1, d2] => { results := [.lit (.bool false)], args := [d1, d2] }
  | _ => none }
def LayoutSetsWrongFalsely : Prop := layoutSetsRow.holds Try.pinned (OpenSpec.ofChange layoutSetsWrong)

/-- 'mullionlaw04.LayoutArranges': WHATEVER THE INPUT: true; the input reads as it did. -/
def layoutArrangesSpec : ChangeSpec := { name := "layoutArranges", fn := fun _ => fun
  | [d1, d2, d3] => { results := [.lit (.bool true)], args := [d1, d2, d3] }
  | _ => none }
def layoutArrangesRow : OpenClaim := { program := "ytpehceccnjdfeaa", sum := "f4b579d3a0b4e726dac5c61e5c8f19f194e37c8902fc94608f74c26cbef48aad", func := "mullion/mullionlaw04.LayoutArranges", spec := "layoutArranges", inPlace := ["slices.overlaps[mullion/layout.cell]"], unfollowed := true, recurses := true, apart := false }
def LayoutArrangesSaid : Prop := layoutArrangesRow.holds Try.pinned (OpenSpec.ofChange layoutArrangesSpec)

/-- ITS FALSE NEIGHBOUR: 'it returns false'. Refute it at one input. -/
def layoutArrangesWrong : ChangeSpec := { name := "layoutArranges", fn := fun _ => fun
  | [d1, d2, d3] => { results := [.lit (.bool false)], args := [d1, d2, d3] }
  | _ => none }
def LayoutArrangesWrongFalsely : Prop := layoutArrangesRow.holds Try.pinned (OpenSpec.ofChange layoutArrangesWrong)

/-- 'mullionlaw04.LayoutBack': WHATEVER THE INPUT: true; the input reads as it did. -/
def layoutBackSpec : ChangeSpec := { name := "layoutBack", fn := fun _ => fun
  | [d1, d2, d3] => { results := [.lit (.bool true)], args := [d1, d2, d3] }
  | _ => none }
def layoutBackRow : OpenClaim := { program := "ytpehceccnjdfeaa", sum := "f4b579d3a0b4e726dac5c61e5c8f19f194e37c8902fc94608f74c26cbef48aad", func := "mullion/mullionlaw04.LayoutBack", spec := "layoutBack", inPlace := ["slices.overlaps[mullion/layout.cell]"], unfollowed := true, recurses := true, apart := false }
def LayoutBackSaid : Prop := layoutBackRow.holds Try.pinned (OpenSpec.ofChange layoutBackSpec)

/-- ITS FALSE NEIGHBOUR: 'it returns false'. Refute it at one input. -/
def layoutBackWrong : ChangeSpec := { name := "layoutBack", fn := fun _ => fun
  | [d1, d2, d3] => { results := [.lit (.bool false)], args := [d1, d2, d3] }
  | _ => none }
def LayoutBackWrongFalsely : Prop := layoutBackRow.holds Try.pinned (OpenSpec.ofChange layoutBackWrong)

/-- 'mullionlaw04.LayoutPlays': WHATEVER THE INPUT: true; the input reads as it did. -/
def layoutPlaysSpec : ChangeSpec := { name := "layoutPlays", fn := fun _ => fun
  | [d1, d2, d3] => { results := [.lit (.bool true)], args := [d1, d2, d3] }
  | _ => none }
def layoutPlaysRow : OpenClaim := { program := "ytpehceccnjdfeaa", sum := "f4b579d3a0b4e726dac5c61e5c8f19f194e37c8902fc94608f74c26cbef48aad", func := "mullion/mullionlaw04.LayoutPlays", spec := "layoutPlays", inPlace := ["slices.overlaps[mullion/layout.cell]"], unfollowed := true, recurses := true, apart := false }
def LayoutPlaysSaid : Prop := layoutPlaysRow.holds Try.pinned (OpenSpec.ofChange layoutPlaysSpec)

/-- ITS FALSE NEIGHBOUR: 'it returns false'. Refute it at one input. -/
def layoutPlaysWrong : ChangeSpec := { name := "layoutPlays", fn := fun _ => fun
  | [d1, d2, d3] => { results := [.lit (.bool false)], args := [d1, d2, d3] }
  | _ => none }
def LayoutPlaysWrongFalsely : Prop := layoutPlaysRow.holds Try.pinned (OpenSpec.ofChange layoutPlaysWrong)

/-- 'mullionlaw04.LayoutTiles': WHATEVER THE INPUT: true; the input reads as it did. -/
def layoutTilesSpec : ChangeSpec := { name := "layoutTiles", fn := fun _ => fun
  | [d1, d2, d3] => { results := [.lit (.bool true)], args := [d1, d2, d3] }
  | _ => none }
def layoutTilesRow : OpenClaim := { program := "ytpehceccnjdfeaa", sum := "f4b579d3a0b4e726dac5c61e5c8f19f194e37c8902fc94608f74c26cbef48aad", func := "mullion/mullionlaw04.LayoutTiles", spec := "layoutTiles", inPlace := ["slices.overlaps[mullion/layout.cell]"], unfollowed := true, recurses := true, apart := false }
def LayoutTilesSaid : Prop := layoutTilesRow.holds Try.pinned (OpenSpec.ofChange layoutTilesSpec)

/-- ITS FALSE NEIGHBOUR: 'it returns false'. Refute it at one input. -/
def layoutTilesWrong : ChangeSpec := { name := "layoutTiles", fn := fun _ => fun
  | [d1, d2, d3] => { results := [.lit (.bool false)], args := [d1, d2, d3] }
  | _ => none }
def LayoutTilesWrongFalsely : Prop := layoutTilesRow.holds Try.pinned (OpenSpec.ofChange layoutTilesWrong)

/- THE SECOND FORM. 'bulk': how many values and letters a reading holds, each counted each time it is reached (what is shared counts as often as it is met; a slice's spare places count too). A statement '..UptoSaid' is the law's where the arguments, and the package variables that the reading takes, are together of bulk at most 1048576: NARROWER than '..Said'. Prove '..Said' where nothing that the law and all that it calls make is longer than what came in: it says more and counts as full. Else prove '..UptoSaid'. A law counts once. -/
mutual
def uptoBulk {H : Type} : DataW H → Nat
  | .lit (.string bytes) => bytes.length + 1
  | .lit _ => 1
  | .nil => 1
  | .ptr d => uptoBulk d + 1
  | .slice elems spare => uptoBulkAll elems + uptoBulkAll spare + 1
  | .agg parts => uptoBulkAll parts + 1
  | .iface _ d => uptoBulk d + 1
  | .map entries => uptoBulkEntries entries + 1
  | .held _ => 1
def uptoBulkAll {H : Type} : List (DataW H) → Nat
  | [] => 0
  | d :: r => uptoBulk d + uptoBulkAll r
def uptoBulkEntries {H : Type} : List (Lit × DataW H) → Nat
  | [] => 0
  | x :: r => uptoBulkEntry x + uptoBulkEntries r
def uptoBulkEntry {H : Type} : Lit × DataW H → Nat
  | (.string bytes, d) => bytes.length + uptoBulk d + 1
  | (_, d) => uptoBulk d + 1
 end
def uptoSmall : (H : Type) → List (DataW H) → Bool := fun _ ds => decide (uptoBulkAll ds ≤ 1048576)
def OpenSpec.upto (s : _root_.Go.ChangeSpec) : _root_.Go.OpenSpec := { _root_.Go.OpenSpec.ofChange s with cond := some uptoSmall }

/-- 'mullionlaw04.LayoutNews', WHERE WHAT IT READS IS OF BULK AT MOST 1048576: true; the input reads as it did. -/
def layoutNewsUptoRow : OpenClaim := { program := "ytpehceccnjdfeaa", sum := "f4b579d3a0b4e726dac5c61e5c8f19f194e37c8902fc94608f74c26cbef48aad", func := "mullion/mullionlaw04.LayoutNews", spec := "layoutNews", inPlace := ["slices.overlaps[mullion/layout.cell]"], unfollowed := true, recurses := true, apart := false, narrowed := true }
def LayoutNewsUptoSaid : Prop := layoutNewsUptoRow.holds Try.pinned (OpenSpec.upto layoutNewsSpec)

/-- 'mullionlaw04.LayoutSplits', WHERE WHAT IT READS IS OF BULK AT MOST 1048576: true; the input reads as it did. -/
def layoutSplitsUptoRow : OpenClaim := { program := "ytpehceccnjdfeaa", sum := "f4b579d3a0b4e726dac5c61e5c8f19f194e37c8902fc94608f74c26cbef48aad", func := "mullion/mullionlaw04.LayoutSplits", spec := "layoutSplits", inPlace := ["slices.overlaps[mullion/layout.cell]"], unfollowed := true, recurses := true, apart := false, narrowed := true }
def LayoutSplitsUptoSaid : Prop := layoutSplitsUptoRow.holds Try.pinned (OpenSpec.upto layoutSplitsSpec)

/-- 'mullionlaw04.LayoutNexts', WHERE WHAT IT READS IS OF BULK AT MOST 1048576: true; the input reads as it did. -/
def layoutNextsUptoRow : OpenClaim := { program := "ytpehceccnjdfeaa", sum := "f4b579d3a0b4e726dac5c61e5c8f19f194e37c8902fc94608f74c26cbef48aad", func := "mullion/mullionlaw04.LayoutNexts", spec := "layoutNexts", inPlace := ["slices.overlaps[mullion/layout.cell]"], unfollowed := true, recurses := true, apart := false, narrowed := true }
def LayoutNextsUptoSaid : Prop := layoutNextsUptoRow.holds Try.pinned (OpenSpec.upto layoutNextsSpec)

/-- 'mullionlaw04.LayoutLooks', WHERE WHAT IT READS IS OF BULK AT MOST 1048576: true; the input reads as it did. -/
def layoutLooksUptoRow : OpenClaim := { program := "ytpehceccnjdfeaa", sum := "f4b579d3a0b4e726dac5c61e5c8f19f194e37c8902fc94608f74c26cbef48aad", func := "mullion/mullionlaw04.LayoutLooks", spec := "layoutLooks", inPlace := ["slices.overlaps[mullion/layout.cell]"], unfollowed := true, recurses := true, apart := false, narrowed := true }
def LayoutLooksUptoSaid : Prop := layoutLooksUptoRow.holds Try.pinned (OpenSpec.upto layoutLooksSpec)

/-- 'mullionlaw04.LayoutOwn', WHERE WHAT IT READS IS OF BULK AT MOST 1048576: true; the input reads as it did. -/
def layoutOwnUptoRow : OpenClaim := { program := "ytpehceccnjdfeaa", sum := "f4b579d3a0b4e726dac5c61e5c8f19f194e37c8902fc94608f74c26cbef48aad", func := "mullion/mullionlaw04.LayoutOwn", spec := "layoutOwn", inPlace := ["slices.overlaps[mullion/layout.cell]"], unfollowed := true, recurses := true, apart := false, narrowed := true }
def LayoutOwnUptoSaid : Prop := layoutOwnUptoRow.holds Try.pinned (OpenSpec.upto layoutOwnSpec)

/-- 'mullionlaw04.LayoutChecks', WHERE WHAT IT READS IS OF BULK AT MOST 1048576: true; the input reads as it did. -/
def layoutChecksUptoRow : OpenClaim := { program := "ytpehceccnjdfeaa", sum := "f4b579d3a0b4e726dac5c61e5c8f19f194e37c8902fc94608f74c26cbef48aad", func := "mullion/mullionlaw04.LayoutChecks", spec := "layoutChecks", inPlace := ["slices.overlaps[mullion/layout.cell]"], unfollowed := true, recurses := true, apart := false, narrowed := true }
def LayoutChecksUptoSaid : Prop := layoutChecksUptoRow.holds Try.pinned (OpenSpec.upto layoutChecksSpec)

/-- 'mullionlaw04.LayoutKeeps', WHERE WHAT IT READS IS OF BULK AT MOST 1048576: true; the input reads as it did. -/
def layoutKeepsUptoRow : OpenClaim := { program := "ytpehceccnjdfeaa", sum := "f4b579d3a0b4e726dac5c61e5c8f19f194e37c8902fc94608f74c26cbef48aad", func := "mullion/mullionlaw04.LayoutKeeps", spec := "layoutKeeps", inPlace := ["slices.overlaps[mullion/layout.cell]"], unfollowed := true, recurses := true, apart := false, narrowed := true }
def LayoutKeepsUptoSaid : Prop := layoutKeepsUptoRow.holds Try.pinned (OpenSpec.upto layoutKeepsSpec)

/-- 'mullionlaw04.LayoutSwaps', WHERE WHAT IT READS IS OF BULK AT MOST 1048576: true; the input reads as it did. -/
def layoutSwapsUptoRow : OpenClaim := { program := "ytpehceccnjdfeaa", sum := "f4b579d3a0b4e726dac5c61e5c8f19f194e37c8902fc94608f74c26cbef48aad", func := "mullion/mullionlaw04.LayoutSwaps", spec := "layoutSwaps", inPlace := ["slices.overlaps[mullion/layout.cell]"], unfollowed := true, recurses := true, apart := false, narrowed := true }
def LayoutSwapsUptoSaid : Prop := layoutSwapsUptoRow.holds Try.pinned (OpenSpec.upto layoutSwapsSpec)

/-- 'mullionlaw04.LayoutBesides', WHERE WHAT IT READS IS OF BULK AT MOST 1048576: true; the input reads as it did. -/
def layoutBesidesUptoRow : OpenClaim := { program := "ytpehceccnjdfeaa", sum := "f4b579d3a0b4e726dac5c61e5c8f19f194e37c8902fc94608f74c26cbef48aad", func := "mullion/mullionlaw04.LayoutBesides", spec := "layoutBesides", inPlace := ["slices.overlaps[mullion/layout.cell]"], unfollowed := true, recurses := true, apart := false, narrowed := true }
def LayoutBesidesUptoSaid : Prop := layoutBesidesUptoRow.holds Try.pinned (OpenSpec.upto layoutBesidesSpec)

/-- 'mullionlaw04.LayoutResizes', WHERE WHAT IT READS IS OF BULK AT MOST 1048576: true; the input reads as it did. -/
def layoutResizesUptoRow : OpenClaim := { program := "ytpehceccnjdfeaa", sum := "f4b579d3a0b4e726dac5c61e5c8f19f194e37c8902fc94608f74c26cbef48aad", func := "mullion/mullionlaw04.LayoutResizes", spec := "layoutResizes", inPlace := ["slices.overlaps[mullion/layout.cell]"], unfollowed := true, recurses := true, apart := false, narrowed := true }
def LayoutResizesUptoSaid : Prop := layoutResizesUptoRow.holds Try.pinned (OpenSpec.upto layoutResizesSpec)

/-- 'mullionlaw04.LayoutFulls', WHERE WHAT IT READS IS OF BULK AT MOST 1048576: true; the input reads as it did. -/
def layoutFullsUptoRow : OpenClaim := { program := "ytpehceccnjdfeaa", sum := "f4b579d3a0b4e726dac5c61e5c8f19f194e37c8902fc94608f74c26cbef48aad", func := "mullion/mullionlaw04.LayoutFulls", spec := "layoutFulls", inPlace := ["slices.overlaps[mullion/layout.cell]"], unfollowed := true, recurses := true, apart := false, narrowed := true }
def LayoutFullsUptoSaid : Prop := layoutFullsUptoRow.holds Try.pinned (OpenSpec.upto layoutFullsSpec)

/-- 'mullionlaw04.LayoutCloses', WHERE WHAT IT READS IS OF BULK AT MOST 1048576: true; the input reads as it did. -/
def layoutClosesUptoRow : OpenClaim := { program := "ytpehceccnjdfeaa", sum := "f4b579d3a0b4e726dac5c61e5c8f19f194e37c8902fc94608f74c26cbef48aad", func := "mullion/mullionlaw04.LayoutCloses", spec := "layoutCloses", inPlace := ["slices.overlaps[mullion/layout.cell]"], unfollowed := true, recurses := true, apart := false, narrowed := true }
def LayoutClosesUptoSaid : Prop := layoutClosesUptoRow.holds Try.pinned (OpenSpec.upto layoutClosesSpec)

/-- 'mullionlaw04.LayoutPushes', WHERE WHAT IT READS IS OF BULK AT MOST 1048576: true; the input reads as it did. -/
def layoutPushesUptoRow : OpenClaim := { program := "ytpehceccnjdfeaa", sum := "f4b579d3a0b4e726dac5c61e5c8f19f194e37c8902fc94608f74c26cbef48aad", func := "mullion/mullionlaw04.LayoutPushes", spec := "layoutPushes", inPlace := ["slices.overlaps[mullion/layout.cell]"], unfollowed := true, recurses := true, apart := false, narrowed := true }
def LayoutPushesUptoSaid : Prop := layoutPushesUptoRow.holds Try.pinned (OpenSpec.upto layoutPushesSpec)

/-- 'mullionlaw04.LayoutSets', WHERE WHAT IT READS IS OF BULK AT MOST 1048576: true; the input reads as it did. -/
def layoutSetsUptoRow : OpenClaim := { program := "ytpehceccnjdfeaa", sum := "f4b579d3a0b4e726dac5c61e5c8f19f194e37c8902fc94608f74c26cbef48aad", func := "mullion/mullionlaw04.LayoutSets", spec := "layoutSets", inPlace := ["slices.overlaps[mullion/layout.cell]"], unfollowed := true, recurses := true, apart := false, narrowed := true }
def LayoutSetsUptoSaid : Prop := layoutSetsUptoRow.holds Try.pinned (OpenSpec.upto layoutSetsSpec)

/-- 'mullionlaw04.LayoutArranges', WHERE WHAT IT READS IS OF BULK AT MOST 1048576: true; the input reads as it did. -/
def layoutArrangesUptoRow : OpenClaim := { program := "ytpehceccnjdfeaa", sum := "f4b579d3a0b4e726dac5c61e5c8f19f194e37c8902fc94608f74c26cbef48aad", func := "mullion/mullionlaw04.LayoutArranges", spec := "layoutArranges", inPlace := ["slices.overlaps[mullion/layout.cell]"], unfollowed := true, recurses := true, apart := false, narrowed := true }
def LayoutArrangesUptoSaid : Prop := layoutArrangesUptoRow.holds Try.pinned (OpenSpec.upto layoutArrangesSpec)

/-- 'mullionlaw04.LayoutBack', WHERE WHAT IT READS IS OF BULK AT MOST 1048576: true; the input reads as it did. -/
def layoutBackUptoRow : OpenClaim := { program := "ytpehceccnjdfeaa", sum := "f4b579d3a0b4e726dac5c61e5c8f19f194e37c8902fc94608f74c26cbef48aad", func := "mullion/mullionlaw04.LayoutBack", spec := "layoutBack", inPlace := ["slices.overlaps[mullion/layout.cell]"], unfollowed := true, recurses := true, apart := false, narrowed := true }
def LayoutBackUptoSaid : Prop := layoutBackUptoRow.holds Try.pinned (OpenSpec.upto layoutBackSpec)

/-- 'mullionlaw04.LayoutPlays', WHERE WHAT IT READS IS OF BULK AT MOST 1048576: true; the input reads as it did. -/
def layoutPlaysUptoRow : OpenClaim := { program := "ytpehceccnjdfeaa", sum := "f4b579d3a0b4e726dac5c61e5c8f19f194e37c8902fc94608f74c26cbef48aad", func := "mullion/mullionlaw04.LayoutPlays", spec := "layoutPlays", inPlace := ["slices.overlaps[mullion/layout.cell]"], unfollowed := true, recurses := true, apart := false, narrowed := true }
def LayoutPlaysUptoSaid : Prop := layoutPlaysUptoRow.holds Try.pinned (OpenSpec.upto layoutPlaysSpec)

/-- 'mullionlaw04.LayoutTiles', WHERE WHAT IT READS IS OF BULK AT MOST 1048576: true; the input reads as it did. -/
def layoutTilesUptoRow : OpenClaim := { program := "ytpehceccnjdfeaa", sum := "f4b579d3a0b4e726dac5c61e5c8f19f194e37c8902fc94608f74c26cbef48aad", func := "mullion/mullionlaw04.LayoutTiles", spec := "layoutTiles", inPlace := ["slices.overlaps[mullion/layout.cell]"], unfollowed := true, recurses := true, apart := false, narrowed := true }
def LayoutTilesUptoSaid : Prop := layoutTilesUptoRow.holds Try.pinned (OpenSpec.upto layoutTilesSpec)

end Rows
end Go.Proofs.Ytpehceccnjdfeaa
