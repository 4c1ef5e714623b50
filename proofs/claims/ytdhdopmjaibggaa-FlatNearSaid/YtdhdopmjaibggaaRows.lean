/-
  No cell of these rows narrows 'for every input' (looked for: loops, veiled, ifaces, maps, wideKeys, modest, calm, conditions, laid).
  DERIVED. THE GIVEN ROWS OF THIS SEAT. 8 by the template 'for every input the law returns true; each argument reads behind the call as it read before'; 0 by the template 'total and deterministic' (their statements: YtdhdopmjaibggaaTotals.lean).
  GIVEN WITH THE SEED: the statements are not yours to turn. If you find one false, say at which input.
  Laid BY PROGRAM, IN A SANDBOX (cutbox-rows.mjs): the forced cells as the released guide's own fill.sh prints them over the translation 2ead8e37b7901f42… (all of the seat's roots in one cut). By AI agents, Wed Nov 11 2026. No macro, syntax, notation, axiom, sorry.
-/
import Derived.Test.YtdhdopmjaibggaaChecked
import GoSem.Claim
import GoSem.ClaimJoined
import GoSem.ClaimMapViews
import Derived.JoinedTies
import Derived.KernelRfl
namespace Go.Proofs.Ytdhdopmjaibggaa
/- THE CELL 'sum', in the pinned program and in every row, IS THE sha256 OF THE DUMP (.gsa) THAT YtdhdopmjaibggaaProg.lean LOADS. Nothing in Lean hashes anything: it is a label: what it is worth is what the hold of that sum in a sandbox is worth. -/
noncomputable def Try.pinned : Pinned := { name := "ytdhdopmjaibggaa", sum := "2ead8e37b7901f429e7ee2dc3a9a21f52010618b6e237fe42c10c375c39d823e", checked := Try.checked }
namespace Rows
def none {H : Type} : Left H := { results := [], args := [] }

/-- 'fleuronlaw16.FlatSegments': WHATEVER THE INPUT: true; the input reads as it did. -/
def flatSegmentsSpec : ChangeSpec := { name := "flatSegments", fn := fun _ => fun
  | [d1, d2, d3] => { results := [.lit (.bool true)], args := [d1, d2, d3] }
  | _ => none }
def flatSegmentsRow : OpenClaim := { program := "ytdhdopmjaibggaa", sum := "2ead8e37b7901f429e7ee2dc3a9a21f52010618b6e237fe42c10c375c39d823e", func := "fleuron/fleuronlaw16.FlatSegments", spec := "flatSegments", unfollowed := true, recurses := true, apart := false }
def FlatSegmentsSaid : Prop := flatSegmentsRow.holds Try.pinned (OpenSpec.ofChange flatSegmentsSpec)

/-- ITS FALSE NEIGHBOUR: 'it returns false'. Refute it at one input. -/
def flatSegmentsWrong : ChangeSpec := { name := "flatSegments", fn := fun _ => fun
  | [d1, d2, d3] => { results := [.lit (.bool false)], args := [d1, d2, d3] }
  | _ => none }
def FlatSegmentsWrongFalsely : Prop := flatSegmentsRow.holds Try.pinned (OpenSpec.ofChange flatSegmentsWrong)

/-- 'fleuronlaw16.FlatLimits': WHATEVER THE INPUT: true; the input reads as it did. -/
def flatLimitsSpec : ChangeSpec := { name := "flatLimits", fn := fun _ => fun
  | [d1, d2, d3] => { results := [.lit (.bool true)], args := [d1, d2, d3] }
  | _ => none }
def flatLimitsRow : OpenClaim := { program := "ytdhdopmjaibggaa", sum := "2ead8e37b7901f429e7ee2dc3a9a21f52010618b6e237fe42c10c375c39d823e", func := "fleuron/fleuronlaw16.FlatLimits", spec := "flatLimits", unfollowed := true, recurses := true, apart := false }
def FlatLimitsSaid : Prop := flatLimitsRow.holds Try.pinned (OpenSpec.ofChange flatLimitsSpec)

/-- ITS FALSE NEIGHBOUR: 'it returns false'. Refute it at one input. -/
def flatLimitsWrong : ChangeSpec := { name := "flatLimits", fn := fun _ => fun
  | [d1, d2, d3] => { results := [.lit (.bool false)], args := [d1, d2, d3] }
  | _ => none }
def FlatLimitsWrongFalsely : Prop := flatLimitsRow.holds Try.pinned (OpenSpec.ofChange flatLimitsWrong)

/-- 'fleuronlaw16.FlatStraight': WHATEVER THE INPUT: true; the input reads as it did. -/
def flatStraightSpec : ChangeSpec := { name := "flatStraight", fn := fun _ => fun
  | [d1, d2] => { results := [.lit (.bool true)], args := [d1, d2] }
  | _ => none }
def flatStraightRow : OpenClaim := { program := "ytdhdopmjaibggaa", sum := "2ead8e37b7901f429e7ee2dc3a9a21f52010618b6e237fe42c10c375c39d823e", func := "fleuron/fleuronlaw16.FlatStraight", spec := "flatStraight", unfollowed := true, recurses := true, apart := false }
def FlatStraightSaid : Prop := flatStraightRow.holds Try.pinned (OpenSpec.ofChange flatStraightSpec)

/-- ITS FALSE NEIGHBOUR: 'it returns false'. Refute it at one input. -/
def flatStraightWrong : ChangeSpec := { name := "flatStraight", fn := fun _ => fun
  | [d1, d2] => { results := [.lit (.bool false)], args := [d1, d2] }
  | _ => none }
def FlatStraightWrongFalsely : Prop := flatStraightRow.holds Try.pinned (OpenSpec.ofChange flatStraightWrong)

/-- 'fleuronlaw16.FlatEnds': WHATEVER THE INPUT: true; the input reads as it did. -/
def flatEndsSpec : ChangeSpec := { name := "flatEnds", fn := fun _ => fun
  | [d] => { results := [.lit (.bool true)], args := [d] }
  | _ => none }
def flatEndsRow : OpenClaim := { program := "ytdhdopmjaibggaa", sum := "2ead8e37b7901f429e7ee2dc3a9a21f52010618b6e237fe42c10c375c39d823e", func := "fleuron/fleuronlaw16.FlatEnds", spec := "flatEnds", unfollowed := true, recurses := true, apart := false }
def FlatEndsSaid : Prop := flatEndsRow.holds Try.pinned (OpenSpec.ofChange flatEndsSpec)

/-- ITS FALSE NEIGHBOUR: 'it returns false'. Refute it at one input. -/
def flatEndsWrong : ChangeSpec := { name := "flatEnds", fn := fun _ => fun
  | [d] => { results := [.lit (.bool false)], args := [d] }
  | _ => none }
def FlatEndsWrongFalsely : Prop := flatEndsRow.holds Try.pinned (OpenSpec.ofChange flatEndsWrong)

/-- 'fleuronlaw16.FlatNear': WHATEVER THE INPUT: true; the input reads as it did. -/
def flatNearSpec : ChangeSpec := { name := "flatNear", fn := fun _ => fun
  | [d] => { results := [.lit (.bool true)], args := [d] }
  | _ => none }
def flatNearRow : OpenClaim := { program := "ytdhdopmjaibggaa", sum := "2ead8e37b7901f429e7ee2dc3a9a21f52010618b6e237fe42c10c375c39d823e", func := "fleuron/fleuronlaw16.FlatNear", spec := "flatNear", unfollowed := true, recurses := true, apart := false }
def FlatNearSaid : Prop := flatNearRow.holds Try.pinned (OpenSpec.ofChange flatNearSpec)

/-- ITS FALSE NEIGHBOUR: 'it returns false'. Refute it at one input. -/
def flatNearWrong : ChangeSpec := { name := "flatNear", fn := fun _ => fun
  | [d] => { results := [.lit (.bool false)], args := [d] }
  | _ => none }
def FlatNearWrongFalsely : Prop := flatNearRow.holds Try.pinned (OpenSpec.ofChange flatNearWrong)

/-- 'fleuronlaw16.FlatMoved': WHATEVER THE INPUT: true; the input reads as it did. -/
def flatMovedSpec : ChangeSpec := { name := "flatMoved", fn := fun _ => fun
  | [d1, d2] => { results := [.lit (.bool true)], args := [d1, d2] }
  | _ => none }
def flatMovedRow : OpenClaim := { program := "ytdhdopmjaibggaa", sum := "2ead8e37b7901f429e7ee2dc3a9a21f52010618b6e237fe42c10c375c39d823e", func := "fleuron/fleuronlaw16.FlatMoved", spec := "flatMoved", unfollowed := true, recurses := true, apart := false }
def FlatMovedSaid : Prop := flatMovedRow.holds Try.pinned (OpenSpec.ofChange flatMovedSpec)

/-- ITS FALSE NEIGHBOUR: 'it returns false'. Refute it at one input. -/
def flatMovedWrong : ChangeSpec := { name := "flatMoved", fn := fun _ => fun
  | [d1, d2] => { results := [.lit (.bool false)], args := [d1, d2] }
  | _ => none }
def FlatMovedWrongFalsely : Prop := flatMovedRow.holds Try.pinned (OpenSpec.ofChange flatMovedWrong)

/-- 'fleuronlaw16.FlatBox': WHATEVER THE INPUT: true; the input reads as it did. -/
def flatBoxSpec : ChangeSpec := { name := "flatBox", fn := fun _ => fun
  | [d] => { results := [.lit (.bool true)], args := [d] }
  | _ => none }
def flatBoxRow : OpenClaim := { program := "ytdhdopmjaibggaa", sum := "2ead8e37b7901f429e7ee2dc3a9a21f52010618b6e237fe42c10c375c39d823e", func := "fleuron/fleuronlaw16.FlatBox", spec := "flatBox", unfollowed := true, recurses := true, apart := false }
def FlatBoxSaid : Prop := flatBoxRow.holds Try.pinned (OpenSpec.ofChange flatBoxSpec)

/-- ITS FALSE NEIGHBOUR: 'it returns false'. Refute it at one input. -/
def flatBoxWrong : ChangeSpec := { name := "flatBox", fn := fun _ => fun
  | [d] => { results := [.lit (.bool false)], args := [d] }
  | _ => none }
def FlatBoxWrongFalsely : Prop := flatBoxRow.holds Try.pinned (OpenSpec.ofChange flatBoxWrong)

/-- 'fleuronlaw16.FlatPaths': WHATEVER THE INPUT: true; the input reads as it did. -/
def flatPathsSpec : ChangeSpec := { name := "flatPaths", fn := fun _ => fun
  | [d] => { results := [.lit (.bool true)], args := [d] }
  | _ => none }
def flatPathsRow : OpenClaim := { program := "ytdhdopmjaibggaa", sum := "2ead8e37b7901f429e7ee2dc3a9a21f52010618b6e237fe42c10c375c39d823e", func := "fleuron/fleuronlaw16.FlatPaths", spec := "flatPaths", unfollowed := true, recurses := true, apart := false }
def FlatPathsSaid : Prop := flatPathsRow.holds Try.pinned (OpenSpec.ofChange flatPathsSpec)

/-- ITS FALSE NEIGHBOUR: 'it returns false'. Refute it at one input. -/
def flatPathsWrong : ChangeSpec := { name := "flatPaths", fn := fun _ => fun
  | [d] => { results := [.lit (.bool false)], args := [d] }
  | _ => none }
def FlatPathsWrongFalsely : Prop := flatPathsRow.holds Try.pinned (OpenSpec.ofChange flatPathsWrong)

/- THE SECOND FORM. 'bulk': how many values and letters a reading holds, each counted each time it is reached (what is shared counts as often as it is met; a slice's spare places count too). A statement '..UptoSaid' is the law's where the arguments, and the package variables that the reading takes, are together of bulk at most 1048576: NARROWER than '..Said'. Prove '..Said' where nothing that the law and all that it calls make is longer than what came in: it says more and counts as full. Else prove '..UptoSaid'. A law counts once. -/
mutual
def uptoBulk {H : Type} : DataW H → Nat
  | .lit (.string bytes) => bytes.length + 1
  | .lit _ => 1
  | .nil => 1
  | .ptr d => uptoBulk d + 1
  | .slice elems spare => uptoBulkAll elems + uptoBulkAll spare + 1
  | .agg parts => uptoBulkAll parts + 1
  | .iface _ d => uptoBulk d + 1
  | .map entries => uptoBulkEntries entries + 1
  | .held _ => 1
def uptoBulkAll {H : Type} : List (DataW H) → Nat
  | [] => 0
  | d :: r => uptoBulk d + uptoBulkAll r
def uptoBulkEntries {H : Type} : List (Lit × DataW H) → Nat
  | [] => 0
  | x :: r => uptoBulkEntry x + uptoBulkEntries r
def uptoBulkEntry {H : Type} : Lit × DataW H → Nat
  | (.string bytes, d) => bytes.length + uptoBulk d + 1
  | (_, d) => uptoBulk d + 1
 end
def uptoSmall : (H : Type) → List (DataW H) → Bool := fun _ ds => decide (uptoBulkAll ds ≤ 1048576)
def OpenSpec.upto (s : _root_.Go.ChangeSpec) : _root_.Go.OpenSpec := { _root_.Go.OpenSpec.ofChange s with cond := some uptoSmall }

/-- 'fleuronlaw16.FlatSegments', WHERE WHAT IT READS IS OF BULK AT MOST 1048576: true; the input reads as it did. -/
def flatSegmentsUptoRow : OpenClaim := { program := "ytdhdopmjaibggaa", sum := "2ead8e37b7901f429e7ee2dc3a9a21f52010618b6e237fe42c10c375c39d823e", func := "fleuron/fleuronlaw16.FlatSegments", spec := "flatSegments", unfollowed := true, recurses := true, apart := false, narrowed := true }
def FlatSegmentsUptoSaid : Prop := flatSegmentsUptoRow.holds Try.pinned (OpenSpec.upto flatSegmentsSpec)

/-- 'fleuronlaw16.FlatLimits', WHERE WHAT IT READS IS OF BULK AT MOST 1048576: true; the input reads as it did. -/
def flatLimitsUptoRow : OpenClaim := { program := "ytdhdopmjaibggaa", sum := "2ead8e37b7901f429e7ee2dc3a9a21f52010618b6e237fe42c10c375c39d823e", func := "fleuron/fleuronlaw16.FlatLimits", spec := "flatLimits", unfollowed := true, recurses := true, apart := false, narrowed := true }
def FlatLimitsUptoSaid : Prop := flatLimitsUptoRow.holds Try.pinned (OpenSpec.upto flatLimitsSpec)

/-- 'fleuronlaw16.FlatStraight', WHERE WHAT IT READS IS OF BULK AT MOST 1048576: true; the input reads as it did. -/
def flatStraightUptoRow : OpenClaim := { program := "ytdhdopmjaibggaa", sum := "2ead8e37b7901f429e7ee2dc3a9a21f52010618b6e237fe42c10c375c39d823e", func := "fleuron/fleuronlaw16.FlatStraight", spec := "flatStraight", unfollowed := true, recurses := true, apart := false, narrowed := true }
def FlatStraightUptoSaid : Prop := flatStraightUptoRow.holds Try.pinned (OpenSpec.upto flatStraightSpec)

/-- 'fleuronlaw16.FlatEnds', WHERE WHAT IT READS IS OF BULK AT MOST 1048576: true; the input reads as it did. -/
def flatEndsUptoRow : OpenClaim := { program := "ytdhdopmjaibggaa", sum := "2ead8e37b7901f429e7ee2dc3a9a21f52010618b6e237fe42c10c375c39d823e", func := "fleuron/fleuronlaw16.FlatEnds", spec := "flatEnds", unfollowed := true, recurses := true, apart := false, narrowed := true }
def FlatEndsUptoSaid : Prop := flatEndsUptoRow.holds Try.pinned (OpenSpec.upto flatEndsSpec)

/-- 'fleuronlaw16.FlatNear', WHERE WHAT IT READS IS OF BULK AT MOST 1048576: true; the input reads as it did. -/
def flatNearUptoRow : OpenClaim := { program := "ytdhdopmjaibggaa", sum := "2ead8e37b7901f429e7ee2dc3a9a21f52010618b6e237fe42c10c375c39d823e", func := "fleuron/fleuronlaw16.FlatNear", spec := "flatNear", unfollowed := true, recurses := true, apart := false, narrowed := true }
def FlatNearUptoSaid : Prop := flatNearUptoRow.holds Try.pinned (OpenSpec.upto flatNearSpec)

/-- 'fleuronlaw16.FlatMoved', WHERE WHAT IT READS IS OF BULK AT MOST 1048576: true; the input reads as it did. -/
def flatMovedUptoRow : OpenClaim := { program := "ytdhdopmjaibggaa", sum := "2ead8e37b7901f429e7ee2dc3a9a21f52010618b6e237fe42c10c375c39d823e", func := "fleuron/fleuronlaw16.FlatMoved", spec := "flatMoved", unfollowed := true, recurses := true, apart := false, narrowed := true }
def FlatMovedUptoSaid : Prop := flatMovedUptoRow.holds Try.pinned (OpenSpec.upto flatMovedSpec)

/-- 'fleuronlaw16.FlatBox', WHERE WHAT IT READS IS OF BULK AT MOST 1048576: true; the input reads as it did. -/
def flatBoxUptoRow : OpenClaim := { program := "ytdhdopmjaibggaa", sum := "2ead8e37b7901f429e7ee2dc3a9a21f52010618b6e237fe42c10c375c39d823e", func := "fleuron/fleuronlaw16.FlatBox", spec := "flatBox", unfollowed := true, recurses := true, apart := false, narrowed := true }
def FlatBoxUptoSaid : Prop := flatBoxUptoRow.holds Try.pinned (OpenSpec.upto flatBoxSpec)

/-- 'fleuronlaw16.FlatPaths', WHERE WHAT IT READS IS OF BULK AT MOST 1048576: true; the input reads as it did. -/
def flatPathsUptoRow : OpenClaim := { program := "ytdhdopmjaibggaa", sum := "2ead8e37b7901f429e7ee2dc3a9a21f52010618b6e237fe42c10c375c39d823e", func := "fleuron/fleuronlaw16.FlatPaths", spec := "flatPaths", unfollowed := true, recurses := true, apart := false, narrowed := true }
def FlatPathsUptoSaid : Prop := flatPathsUptoRow.holds Try.pinned (OpenSpec.upto flatPathsSpec)

end Rows
end Go.Proofs.Ytdhdopmjaibggaa
