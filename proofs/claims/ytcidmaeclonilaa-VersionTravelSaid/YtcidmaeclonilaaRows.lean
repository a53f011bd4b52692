/-
  No cell of these rows narrows 'for every input' (looked for: loops, veiled, ifaces, maps, wideKeys, modest, calm, conditions, laid).
  DERIVED. THE GIVEN ROWS OF THIS SEAT. 9 by the template 'for every input the law returns true; each argument reads behind the call as it read before'; 0 by the template 'total and deterministic' (their statements: YtcidmaeclonilaaTotals.lean).
  GIVEN WITH THE SEED: the statements are not yours to turn. If you find one false, say at which input.
  Laid BY PROGRAM, IN A SANDBOX (cutbox-rows.mjs): the forced cells as the released guide's own fill.sh prints them over the translation 52b96368e191f873… (all of the seat's roots in one cut). By AI agents, Wed Nov 11 2026. No macro, syntax, notation, axiom, sorry.
-/
import Derived.Test.YtcidmaeclonilaaChecked
import GoSem.Claim
import GoSem.ClaimJoined
import GoSem.ClaimMapViews
import Derived.JoinedTies
import Derived.KernelRfl
namespace Go.Proofs.Ytcidmaeclonilaa
/- THE CELL 'sum', in the pinned program and in every row, IS THE sha256 OF THE DUMP (.gsa) THAT YtcidmaeclonilaaProg.lean LOADS. Nothing in Lean hashes anything: it is a label: what it is worth is what the hold of that sum in a sandbox is worth. -/
noncomputable def Try.pinned : Pinned := { name := "ytcidmaeclonilaa", sum := "52b96368e191f873e6d6f0f9e6e6629453045b270a2d5414ea8d8965348d73a2", checked := Try.checked }
namespace Rows
def none {H : Type} : Left H := { results := [], args := [] }

/-- 'barbicanlaw13.CursorRanges': WHATEVER THE INPUT: true; the input reads as it did. -/
def cursorRangesSpec : ChangeSpec := { name := "cursorRanges", fn := fun _ => fun
  | [d1, d2, d3] => { results := [.lit (.bool true)], args := [d1, d2, d3] }
  | _ => none }
def cursorRangesRow : OpenClaim := { program := "ytcidmaeclonilaa", sum := "52b96368e191f873e6d6f0f9e6e6629453045b270a2d5414ea8d8965348d73a2", func := "barbican/barbicanlaw13.CursorRanges", spec := "cursorRanges", inPlace := ["internal/abi.NoEscape"], apart := false }
def CursorRangesSaid : Prop := cursorRangesRow.holds Try.pinned (OpenSpec.ofChange cursorRangesSpec)

/-- ITS FALSE NEIGHBOUR: 'it returns false'. Refute it at one input. -/
def cursorRangesWrong : ChangeSpec := { name := "cursorRanges", fn := fun _ => fun
  | [d1, d2, d3] => { results := [.lit (.bool false)], args := [d1, d2, d3] }
  | _ => none }
def CursorRangesWrongFalsely : Prop := cursorRangesRow.holds Try.pinned (OpenSpec.ofChange cursorRangesWrong)

/-- 'barbicanlaw13.CursorMeets': WHATEVER THE INPUT: true; the input reads as it did. -/
def cursorMeetsSpec : ChangeSpec := { name := "cursorMeets", fn := fun _ => fun
  | [d1, d2, d3] => { results := [.lit (.bool true)], args := [d1, d2, d3] }
  | _ => none }
def cursorMeetsRow : OpenClaim := { program := "ytcidmaeclonilaa", sum := "52b96368e191f873e6d6f0f9e6e6629453045b270a2d5414ea8d8965348d73a2", func := "barbican/barbicanlaw13.CursorMeets", spec := "cursorMeets", inPlace := ["internal/abi.NoEscape"], apart := false }
def CursorMeetsSaid : Prop := cursorMeetsRow.holds Try.pinned (OpenSpec.ofChange cursorMeetsSpec)

/-- ITS FALSE NEIGHBOUR: 'it returns false'. Refute it at one input. -/
def cursorMeetsWrong : ChangeSpec := { name := "cursorMeets", fn := fun _ => fun
  | [d1, d2, d3] => { results := [.lit (.bool false)], args := [d1, d2, d3] }
  | _ => none }
def CursorMeetsWrongFalsely : Prop := cursorMeetsRow.holds Try.pinned (OpenSpec.ofChange cursorMeetsWrong)

/-- 'barbicanlaw12.TreeNear': WHATEVER THE INPUT: true; the input reads as it did. -/
def treeNearSpec : ChangeSpec := { name := "treeNear", fn := fun _ => fun
  | [d] => { results := [.lit (.bool true)], args := [d] }
  | _ => none }
def treeNearRow : OpenClaim := { program := "ytcidmaeclonilaa", sum := "52b96368e191f873e6d6f0f9e6e6629453045b270a2d5414ea8d8965348d73a2", func := "barbican/barbicanlaw12.TreeNear", spec := "treeNear", inPlace := ["slices.overlaps[string]", "slices.overlaps[*barbican/tree.node[string]]"], unfollowed := true, recurses := true, apart := false }
def TreeNearSaid : Prop := treeNearRow.holds Try.pinned (OpenSpec.ofChange treeNearSpec)

/-- ITS FALSE NEIGHBOUR: 'it returns false'. Refute it at one input. -/
def treeNearWrong : ChangeSpec := { name := "treeNear", fn := fun _ => fun
  | [d] => { results := [.lit (.bool false)], args := [d] }
  | _ => none }
def TreeNearWrongFalsely : Prop := treeNearRow.holds Try.pinned (OpenSpec.ofChange treeNearWrong)

/-- 'barbicanlaw16.VersionTravel': WHATEVER THE INPUT: true; the input reads as it did. -/
def versionTravelSpec : ChangeSpec := { name := "versionTravel", fn := fun _ => fun
  | [d] => { results := [.lit (.bool true)], args := [d] }
  | _ => none }
def versionTravelRow : OpenClaim := { program := "ytcidmaeclonilaa", sum := "52b96368e191f873e6d6f0f9e6e6629453045b270a2d5414ea8d8965348d73a2", func := "barbican/barbicanlaw16.VersionTravel", spec := "versionTravel", inPlace := ["slices.overlaps[string]", "slices.overlaps[barbican/version.chain]", "slices.overlaps[*barbican/tree.node[barbican/version.chain]]"], unfollowed := true, recurses := true, apart := false }
def VersionTravelSaid : Prop := versionTravelRow.holds Try.pinned (OpenSpec.ofChange versionTravelSpec)

/-- ITS FALSE NEIGHBOUR: 'it returns false'. Refute it at one input. -/
def versionTravelWrong : ChangeSpec := { name := "versionTravel", fn := fun _ => fun
  | [d] => { results := [.lit (.bool false)], args := [d] }
  | _ => none }
def VersionTravelWrongFalsely : Prop := versionTravelRow.holds Try.pinned (OpenSpec.ofChange versionTravelWrong)

/-- 'barbicanlaw13.CursorSplits': WHATEVER THE INPUT: true; the input reads as it did. -/
def cursorSplitsSpec : ChangeSpec := { name := "cursorSplits", fn := fun _ => fun
  | [d1, d2, d3] => { results := [.lit (.bool true)], args := [d1, d2, d3] }
  | _ => none }
def cursorSplitsRow : OpenClaim := { program := "ytcidmaeclonilaa", sum := "52b96368e191f873e6d6f0f9e6e6629453045b270a2d5414ea8d8965348d73a2", func := "barbican/barbicanlaw13.CursorSplits", spec := "cursorSplits", inPlace := ["slices.overlaps[string]", "slices.overlaps[*barbican/tree.node[string]]", "internal/abi.NoEscape"], unfollowed := true, recurses := true, apart := false }
def CursorSplitsSaid : Prop := cursorSplitsRow.holds Try.pinned (OpenSpec.ofChange cursorSplitsSpec)

/-- ITS FALSE NEIGHBOUR: 'it returns false'. Refute it at one input. -/
def cursorSplitsWrong : ChangeSpec := { name := "cursorSplits", fn := fun _ => fun
  | [d1, d2, d3] => { results := [.lit (.bool false)], args := [d1, d2, d3] }
  | _ => none }
def CursorSplitsWrongFalsely : Prop := cursorSplitsRow.holds Try.pinned (OpenSpec.ofChange cursorSplitsWrong)

/-- 'barbicanlaw12.TreeSame': WHATEVER THE INPUT: true; the input reads as it did. -/
def treeSameSpec : ChangeSpec := { name := "treeSame", fn := fun _ => fun
  | [d1, d2] => { results := [.lit (.bool true)], args := [d1, d2] }
  | _ => none }
def treeSameRow : OpenClaim := { program := "ytcidmaeclonilaa", sum := "52b96368e191f873e6d6f0f9e6e6629453045b270a2d5414ea8d8965348d73a2", func := "barbican/barbicanlaw12.TreeSame", spec := "treeSame", inPlace := ["slices.overlaps[string]", "slices.overlaps[*barbican/tree.node[string]]"], unfollowed := true, recurses := true, apart := false }
def TreeSameSaid : Prop := treeSameRow.holds Try.pinned (OpenSpec.ofChange treeSameSpec)

/-- ITS FALSE NEIGHBOUR: 'it returns false'. Refute it at one input. -/
def treeSameWrong : ChangeSpec := { name := "treeSame", fn := fun _ => fun
  | [d1, d2] => { results := [.lit (.bool false)], args := [d1, d2] }
  | _ => none }
def TreeSameWrongFalsely : Prop := treeSameRow.holds Try.pinned (OpenSpec.ofChange treeSameWrong)

/-- 'barbicanlaw12.TreeShape': WHATEVER THE INPUT: true; the input reads as it did. -/
def treeShapeSpec : ChangeSpec := { name := "treeShape", fn := fun _ => fun
  | [d] => { results := [.lit (.bool true)], args := [d] }
  | _ => none }
def treeShapeRow : OpenClaim := { program := "ytcidmaeclonilaa", sum := "52b96368e191f873e6d6f0f9e6e6629453045b270a2d5414ea8d8965348d73a2", func := "barbican/barbicanlaw12.TreeShape", spec := "treeShape", inPlace := ["slices.overlaps[string]", "slices.overlaps[*barbican/tree.node[string]]"], unfollowed := true, recurses := true, apart := false }
def TreeShapeSaid : Prop := treeShapeRow.holds Try.pinned (OpenSpec.ofChange treeShapeSpec)

/-- ITS FALSE NEIGHBOUR: 'it returns false'. Refute it at one input. -/
def treeShapeWrong : ChangeSpec := { name := "treeShape", fn := fun _ => fun
  | [d] => { results := [.lit (.bool false)], args := [d] }
  | _ => none }
def TreeShapeWrongFalsely : Prop := treeShapeRow.holds Try.pinned (OpenSpec.ofChange treeShapeWrong)

/-- 'barbicanlaw12.TreeRuns': WHATEVER THE INPUT: true; the input reads as it did. -/
def treeRunsSpec : ChangeSpec := { name := "treeRuns", fn := fun _ => fun
  | [d] => { results := [.lit (.bool true)], args := [d] }
  | _ => none }
def treeRunsRow : OpenClaim := { program := "ytcidmaeclonilaa", sum := "52b96368e191f873e6d6f0f9e6e6629453045b270a2d5414ea8d8965348d73a2", func := "barbican/barbicanlaw12.TreeRuns", spec := "treeRuns", inPlace := ["slices.overlaps[string]", "slices.overlaps[*barbican/tree.node[string]]"], unfollowed := true, recurses := true, apart := false }
def TreeRunsSaid : Prop := treeRunsRow.holds Try.pinned (OpenSpec.ofChange treeRunsSpec)

/-- ITS FALSE NEIGHBOUR: 'it returns false'. Refute it at one input. -/
def treeRunsWrong : ChangeSpec := { name := "treeRuns", fn := fun _ => fun
  | [d] => { results := [.lit (.bool false)], args := [d] }
  | _ => none }
def TreeRunsWrongFalsely : Prop := treeRunsRow.holds Try.pinned (OpenSpec.ofChange treeRunsWrong)

/-- 'barbicanlaw13.CursorGoes': WHATEVER THE INPUT: true; the input reads as it did. -/
def cursorGoesSpec : ChangeSpec := { name := "cursorGoes", fn := fun _ => fun
  | [d1, d2, d3] => { results := [.lit (.bool true)], args := [d1, d2, d3] }
  | _ => none }
def cursorGoesRow : OpenClaim := { program := "ytcidmaeclonilaa", sum := "52b96368e191f873e6d6f0f9e6e6629453045b270a2d5414ea8d8965348d73a2", func := "barbican/barbicanlaw13.CursorGoes", spec := "cursorGoes", inPlace := ["slices.overlaps[string]", "slices.overlaps[*barbican/tree.node[string]]", "internal/abi.NoEscape"], unfollowed := true, recurses := true, apart := false }
def CursorGoesSaid : Prop := cursorGoesRow.holds Try.pinned (OpenSpec.ofChange cursorGoesSpec)

/-- ITS FALSE NEIGHBOUR: 'it returns false'. Refute it at one input. -/
def cursorGoesWrong : ChangeSpec := { name := "cursorGoes", fn := fun _ => fun
  | [d1, d2, d3] => { results := [.lit (.bool false)], args := [d1, d2, d3] }
  | _ => none }
def CursorGoesWrongFalsely : Prop := cursorGoesRow.holds Try.pinned (OpenSpec.ofChange cursorGoesWrong)

/- THE SECOND FORM. 'bulk': how many values and letters a reading holds, each counted each time it is reached (what is shared counts as often as it is met; a slice's spare places count too). A statement '..UptoSaid' is the law's where the arguments, and the package variables that the reading takes, are together of bulk at most 1048576: NARROWER than '..Said'. Prove '..Said' where nothing that the law and all that it calls make is longer than what came in: it says more and counts as full. Else prove '..UptoSaid'. A law counts once. -/
mutual
def uptoBulk {H : Type} : DataW H → Nat
  | .lit (.string bytes) => bytes.length + 1
  | .lit _ => 1
  | .nil => 1
  | .ptr d => uptoBulk d + 1
  | .slice elems spare => uptoBulkAll elems + uptoBulkAll spare + 1
  | .agg parts => uptoBulkAll parts + 1
  | .iface _ d => uptoBulk d + 1
  | .map entries => uptoBulkEntries entries + 1
  | .held _ => 1
def uptoBulkAll {H : Type} : List (DataW H) → Nat
  | [] => 0
  | d :: r => uptoBulk d + uptoBulkAll r
def uptoBulkEntries {H : Type} : List (Lit × DataW H) → Nat
  | [] => 0
  | x :: r => uptoBulkEntry x + uptoBulkEntries r
def uptoBulkEntry {H : Type} : Lit × DataW H → Nat
  | (.string bytes, d) => bytes.length + uptoBulk d + 1
  | (_, d) => uptoBulk d + 1
 end
def uptoSmall : (H : Type) → List (DataW H) → Bool := fun _ ds => decide (uptoBulkAll ds ≤ 1048576)
def OpenSpec.upto (s : _root_.Go.ChangeSpec) : _root_.Go.OpenSpec := { _root_.Go.OpenSpec.ofChange s with cond := some uptoSmall }

/-- 'barbicanlaw13.CursorRanges', WHERE WHAT IT READS IS OF BULK AT MOST 1048576: true; the input reads as it did. -/
def cursorRangesUptoRow : OpenClaim := { program := "ytcidmaeclonilaa", sum := "52b96368e191f873e6d6f0f9e6e6629453045b270a2d5414ea8d8965348d73a2", func := "barbican/barbicanlaw13.CursorRanges", spec := "cursorRanges", inPlace := ["internal/abi.NoEscape"], apart := false, narrowed := true }
def CursorRangesUptoSaid : Prop := cursorRangesUptoRow.holds Try.pinned (OpenSpec.upto cursorRangesSpec)

/-- 'barbicanlaw13.CursorMeets', WHERE WHAT IT READS IS OF BULK AT MOST 1048576: true; the input reads as it did. -/
def cursorMeetsUptoRow : OpenClaim := { program := "ytcidmaeclonilaa", sum := "52b96368e191f873e6d6f0f9e6e6629453045b270a2d5414ea8d8965348d73a2", func := "barbican/barbicanlaw13.CursorMeets", spec := "cursorMeets", inPlace := ["internal/abi.NoEscape"], apart := false, narrowed := true }
def CursorMeetsUptoSaid : Prop := cursorMeetsUptoRow.holds Try.pinned (OpenSpec.upto cursorMeetsSpec)

/-- 'barbicanlaw12.TreeNear', WHERE WHAT IT READS IS OF BULK AT MOST 1048576: true; the input reads as it did. -/
def treeNearUptoRow : OpenClaim := { program := "ytcidmaeclonilaa", sum := "52b96368e191f873e6d6f0f9e6e6629453045b270a2d5414ea8d8965348d73a2", func := "barbican/barbicanlaw12.TreeNear", spec := "treeNear", inPlace := ["slices.overlaps[string]", "slices.overlaps[*barbican/tree.node[string]]"], unfollowed := true, recurses := true, apart := false, narrowed := true }
def TreeNearUptoSaid : Prop := treeNearUptoRow.holds Try.pinned (OpenSpec.upto treeNearSpec)

/-- 'barbicanlaw16.VersionTravel', WHERE WHAT IT READS IS OF BULK AT MOST 1048576: true; the input reads as it did. -/
def versionTravelUptoRow : OpenClaim := { program := "ytcidmaeclonilaa", sum := "52b96368e191f873e6d6f0f9e6e6629453045b270a2d5414ea8d8965348d73a2", func := "barbican/barbicanlaw16.VersionTravel", spec := "versionTravel", inPlace := ["slices.overlaps[string]", "slices.overlaps[barbican/version.chain]", "slices.overlaps[*barbican/tree.node[barbican/version.chain]]"], unfollowed := true, recurses := true, apart := false, narrowed := true }
def VersionTravelUptoSaid : Prop := versionTravelUptoRow.holds Try.pinned (OpenSpec.upto versionTravelSpec)

/-- 'barbicanlaw13.CursorSplits', WHERE WHAT IT READS IS OF BULK AT MOST 1048576: true; the input reads as it did. -/
def cursorSplitsUptoRow : OpenClaim := { program := "ytcidmaeclonilaa", sum := "52b96368e191f873e6d6f0f9e6e6629453045b270a2d5414ea8d8965348d73a2", func := "barbican/barbicanlaw13.CursorSplits", spec := "cursorSplits", inPlace := ["slices.overlaps[string]", "slices.overlaps[*barbican/tree.node[string]]", "internal/abi.NoEscape"], unfollowed := true, recurses := true, apart := false, narrowed := true }
def CursorSplitsUptoSaid : Prop := cursorSplitsUptoRow.holds Try.pinned (OpenSpec.upto cursorSplitsSpec)

/-- 'barbicanlaw12.TreeSame', WHERE WHAT IT READS IS OF BULK AT MOST 1048576: true; the input reads as it did. -/
def treeSameUptoRow : OpenClaim := { program := "ytcidmaeclonilaa", sum := "52b96368e191f873e6d6f0f9e6e6629453045b270a2d5414ea8d8965348d73a2", func := "barbican/barbicanlaw12.TreeSame", spec := "treeSame", inPlace := ["slices.overlaps[string]", "slices.overlaps[*barbican/tree.node[string]]"], unfollowed := true, recurses := true, apart := false, narrowed := true }
def TreeSameUptoSaid : Prop := treeSameUptoRow.holds Try.pinned (OpenSpec.upto treeSameSpec)

/-- 'barbicanlaw12.TreeShape', WHERE WHAT IT READS IS OF BULK AT MOST 1048576: true; the input reads as it did. -/
def treeShapeUptoRow : OpenClaim := { program := "ytcidmaeclonilaa", sum := "52b96368e191f873e6d6f0f9e6e6629453045b270a2d5414ea8d8965348d73a2", func := "barbican/barbicanlaw12.TreeShape", spec := "treeShape", inPlace := ["slices.overlaps[string]", "slices.overlaps[*barbican/tree.node[string]]"], unfollowed := true, recurses := true, apart := false, narrowed := true }
def TreeShapeUptoSaid : Prop := treeShapeUptoRow.holds Try.pinned (OpenSpec.upto treeShapeSpec)

/-- 'barbicanlaw12.TreeRuns', WHERE WHAT IT READS IS OF BULK AT MOST 1048576: true; the input reads as it did. -/
def treeRunsUptoRow : OpenClaim := { program := "ytcidmaeclonilaa", sum := "52b96368e191f873e6d6f0f9e6e6629453045b270a2d5414ea8d8965348d73a2", func := "barbican/barbicanlaw12.TreeRuns", spec := "treeRuns", inPlace := ["slices.overlaps[string]", "slices.overlaps[*barbican/tree.node[string]]"], unfollowed := true, recurses := true, apart := false, narrowed := true }
def TreeRunsUptoSaid : Prop := treeRunsUptoRow.holds Try.pinned (OpenSpec.upto treeRunsSpec)

/-- 'barbicanlaw13.CursorGoes', WHERE WHAT IT READS IS OF BULK AT MOST 1048576: true; the input reads as it did. -/
def cursorGoesUptoRow : OpenClaim := { program := "ytcidmaeclonilaa", sum := "52b96368e191f873e6d6f0f9e6e6629453045b270a2d5414ea8d8965348d73a2", func := "barbican/barbicanlaw13.CursorGoes", spec := "cursorGoes", inPlace := ["slices.overlaps[string]", "slices.overlaps[*barbican/tree.node[string]]", "internal/abi.NoEscape"], unfollowed := true, recurses := true, apart := false, narrowed := true }
def CursorGoesUptoSaid : Prop := cursorGoesUptoRow.holds Try.pinned (OpenSpec.upto cursorGoesSpec)

end Rows
end Go.Proofs.Ytcidmaeclonilaa
