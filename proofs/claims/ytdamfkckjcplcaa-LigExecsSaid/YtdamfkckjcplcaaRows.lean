/-
  No cell of these rows narrows 'for every input' (looked for: loops, veiled, ifaces, maps, wideKeys, modest, calm, conditions, laid).
  DERIVED. THE GIVEN ROWS OF THIS SEAT. 8 by the template 'for every input the law returns true; each argument reads behind the call as it read before'; 0 by the template 'total and deterministic' (their statements: YtdamfkckjcplcaaTotals.lean).
  GIVEN WITH THE SEED: the statements are not yours to turn. If you find one false, say at which input.
  Laid BY PROGRAM, IN A SANDBOX (cutbox-rows.mjs): the forced cells as the released guide's own fill.sh prints them over the translation 620da842e7a040ad… (all of the seat's roots in one cut). By AI agents, Wed Nov 11 2026. No macro, syntax, notation, axiom, sorry.
-/
import Derived.Test.YtdamfkckjcplcaaChecked
import GoSem.Claim
import GoSem.ClaimJoined
import GoSem.ClaimMapViews
import Derived.JoinedTies
import Derived.KernelRfl
namespace Go.Proofs.Ytdamfkckjcplcaa
/- THE CELL 'sum', in the pinned program and in every row, IS THE sha256 OF THE DUMP (.gsa) THAT YtdamfkckjcplcaaProg.lean LOADS. Nothing in Lean hashes anything: it is a label: what it is worth is what the hold of that sum in a sandbox is worth. -/
noncomputable def Try.pinned : Pinned := { name := "ytdamfkckjcplcaa", sum := "620da842e7a040ad9357ee7583ba19f5881952244badc660a365d9664f20a314", checked := Try.checked }
namespace Rows
def none {H : Type} : Left H := { results := [], args := [] }

/-- 'fleuronlaw28.LigTells': WHATEVER THE INPUT: true; the input reads as it did. -/
def ligTellsSpec : ChangeSpec := { name := "ligTells", fn := fun _ => fun
  | [d1, d2, d3] => { results := [.lit (.bool true)], args := [d1, d2, d3] }
  | _ => none }
def ligTellsRow : OpenClaim := { program := "ytdamfkckjcplcaa", sum := "620da842e7a040ad9357ee7583ba19f5881952244badc660a365d9664f20a314", func := "fleuron/fleuronlaw28.LigTells", spec := "ligTells", unfollowed := true, recurses := true, plainKeys := false, apart := false }
def LigTellsSaid : Prop := ligTellsRow.holds Try.pinned (OpenSpec.ofChange ligTellsSpec)

/-- ITS FALSE NEIGHBOUR: 'it returns false'. Refute it at one input. -/
def ligTellsWrong : ChangeSpec := { name := "ligTells", fn := fun _ => fun
  | [d1, d2, d3] => { results := [.lit (.bool false)], args := [d1, d2, d3] }
  | _ => none }
def LigTellsWrongFalsely : Prop := ligTellsRow.holds Try.pinned (OpenSpec.ofChange ligTellsWrong)

/-- 'fleuronlaw28.LigRuns': WHATEVER THE INPUT: true; the input reads as it did. -/
def ligRunsSpec : ChangeSpec := { name := "ligRuns", fn := fun _ => fun
  | [d1, d2] => { results := [.lit (.bool true)], args := [d1, d2] }
  | _ => none }
def ligRunsRow : OpenClaim := { program := "ytdamfkckjcplcaa", sum := "620da842e7a040ad9357ee7583ba19f5881952244badc660a365d9664f20a314", func := "fleuron/fleuronlaw28.LigRuns", spec := "ligRuns", unfollowed := true, recurses := true, plainKeys := false, apart := false }
def LigRunsSaid : Prop := ligRunsRow.holds Try.pinned (OpenSpec.ofChange ligRunsSpec)

/-- ITS FALSE NEIGHBOUR: 'it returns false'. Refute it at one input. -/
def ligRunsWrong : ChangeSpec := { name := "ligRuns", fn := fun _ => fun
  | [d1, d2] => { results := [.lit (.bool false)], args := [d1, d2] }
  | _ => none }
def LigRunsWrongFalsely : Prop := ligRunsRow.holds Try.pinned (OpenSpec.ofChange ligRunsWrong)

/-- 'fleuronlaw28.LigCompiles': WHATEVER THE INPUT: true; the input reads as it did. -/
def ligCompilesSpec : ChangeSpec := { name := "ligCompiles", fn := fun _ => fun
  | [d] => { results := [.lit (.bool true)], args := [d] }
  | _ => none }
def ligCompilesRow : OpenClaim := { program := "ytdamfkckjcplcaa", sum := "620da842e7a040ad9357ee7583ba19f5881952244badc660a365d9664f20a314", func := "fleuron/fleuronlaw28.LigCompiles", spec := "ligCompiles", unfollowed := true, recurses := true, plainKeys := false, apart := false }
def LigCompilesSaid : Prop := ligCompilesRow.holds Try.pinned (OpenSpec.ofChange ligCompilesSpec)

/-- ITS FALSE NEIGHBOUR: 'it returns false'. Refute it at one input. -/
def ligCompilesWrong : ChangeSpec := { name := "ligCompiles", fn := fun _ => fun
  | [d] => { results := [.lit (.bool false)], args := [d] }
  | _ => none }
def LigCompilesWrongFalsely : Prop := ligCompilesRow.holds Try.pinned (OpenSpec.ofChange ligCompilesWrong)

/-- 'fleuronlaw28.LigExecs': WHATEVER THE INPUT: true; the input reads as it did. -/
def ligExecsSpec : ChangeSpec := { name := "ligExecs", fn := fun _ => fun
  | [d1, d2, d3] => { results := [.lit (.bool true)], args := [d1, d2, d3] }
  | _ => none }
def ligExecsRow : OpenClaim := { program := "ytdamfkckjcplcaa", sum := "620da842e7a040ad9357ee7583ba19f5881952244badc660a365d9664f20a314", func := "fleuron/fleuronlaw28.LigExecs", spec := "ligExecs", unfollowed := true, recurses := true, plainKeys := false, apart := false }
def LigExecsSaid : Prop := ligExecsRow.holds Try.pinned (OpenSpec.ofChange ligExecsSpec)

/-- ITS FALSE NEIGHBOUR: 'it returns false'. Refute it at one input. -/
def ligExecsWrong : ChangeSpec := { name := "ligExecs", fn := fun _ => fun
  | [d1, d2, d3] => { results := [.lit (.bool false)], args := [d1, d2, d3] }
  | _ => none }
def LigExecsWrongFalsely : Prop := ligExecsRow.holds Try.pinned (OpenSpec.ofChange ligExecsWrong)

/-- 'fleuronlaw28.LigRoads': WHATEVER THE INPUT: true; the input reads as it did. -/
def ligRoadsSpec : ChangeSpec := { name := "ligRoads", fn := fun _ => fun
  | [d1, d2] => { results := [.lit (.bool true)], args := [d1, d2] }
  | _ => none }
def ligRoadsRow : OpenClaim := { program := "ytdamfkckjcplcaa", sum := "620da842e7a040ad9357ee7583ba19f5881952244badc660a365d9664f20a314", func := "fleuron/fleuronlaw28.LigRoads", spec := "ligRoads", unfollowed := true, recurses := true, plainKeys := false, apart := false }
def LigRoadsSaid : Prop := ligRoadsRow.holds Try.pinned (OpenSpec.ofChange ligRoadsSpec)

/-- ITS FALSE NEIGHBOUR: 'it returns false'. Refute it at one input. -/
def ligRoadsWrong : ChangeSpec := { name := "ligRoads", fn := fun _ => fun
  | [d1, d2] => { results := [.lit (.bool false)], args := [d1, d2] }
  | _ => none }
def LigRoadsWrongFalsely : Prop := ligRoadsRow.holds Try.pinned (OpenSpec.ofChange ligRoadsWrong)

/-- 'fleuronlaw28.LigEnds': WHATEVER THE INPUT: true; the input reads as it did. -/
def ligEndsSpec : ChangeSpec := { name := "ligEnds", fn := fun _ => fun
  | [d] => { results := [.lit (.bool true)], args := [d] }
  | _ => none }
def ligEndsRow : OpenClaim := { program := "ytdamfkckjcplcaa", sum := "620da842e7a040ad9357ee7583ba19f5881952244badc660a365d9664f20a314", func := "fleuron/fleuronlaw28.LigEnds", spec := "ligEnds", unfollowed := true, recurses := true, plainKeys := false, apart := false }
def LigEndsSaid : Prop := ligEndsRow.holds Try.pinned (OpenSpec.ofChange ligEndsSpec)

/-- ITS FALSE NEIGHBOUR: 'it returns false'. Refute it at one input. -/
def ligEndsWrong : ChangeSpec := { name := "ligEnds", fn := fun _ => fun
  | [d] => { results := [.lit (.bool false)], args := [d] }
  | _ => none }
def LigEndsWrongFalsely : Prop := ligEndsRow.holds Try.pinned (OpenSpec.ofChange ligEndsWrong)

/-- 'fleuronlaw28.LigLasts': WHATEVER THE INPUT: true; the input reads as it did. -/
def ligLastsSpec : ChangeSpec := { name := "ligLasts", fn := fun _ => fun
  | [d1, d2] => { results := [.lit (.bool true)], args := [d1, d2] }
  | _ => none }
def ligLastsRow : OpenClaim := { program := "ytdamfkckjcplcaa", sum := "620da842e7a040ad9357ee7583ba19f5881952244badc660a365d9664f20a314", func := "fleuron/fleuronlaw28.LigLasts", spec := "ligLasts", unfollowed := true, recurses := true, plainKeys := false, apart := false }
def LigLastsSaid : Prop := ligLastsRow.holds Try.pinned (OpenSpec.ofChange ligLastsSpec)

/-- ITS FALSE NEIGHBOUR: 'it returns false'. Refute it at one input. -/
def ligLastsWrong : ChangeSpec := { name := "ligLasts", fn := fun _ => fun
  | [d1, d2] => { results := [.lit (.bool false)], args := [d1, d2] }
  | _ => none }
def LigLastsWrongFalsely : Prop := ligLastsRow.holds Try.pinned (OpenSpec.ofChange ligLastsWrong)

/-- 'fleuronlaw28.LigCodes': WHATEVER THE INPUT: true; the input reads as it did. -/
def ligCodesSpec : ChangeSpec := { name := "ligCodes", fn := fun _ => fun
  | [d1, d2] => { results := [.lit (.bool true)], args := [d1, d2] }
  | _ => none }
def ligCodesRow : OpenClaim := { program := "ytdamfkckjcplcaa", sum := "620da842e7a040ad9357ee7583ba19f5881952244badc660a365d9664f20a314", func := "fleuron/fleuronlaw28.LigCodes", spec := "ligCodes", unfollowed := true, recurses := true, plainKeys := false, apart := false }
def LigCodesSaid : Prop := ligCodesRow.holds Try.pinned (OpenSpec.ofChange ligCodesSpec)

/-- ITS FALSE NEIGHBOUR: 'it returns false'. Refute it at one input. -/
def ligCodesWrong : ChangeSpec := { name := "ligCodes", fn := fun _ => fun
  | [d1, d2] => { results := [.lit (.bool false)], args := [d1, d2] }
  | _ => none }
def LigCodesWrongFalsely : Prop := ligCodesRow.holds Try.pinned (OpenSpec.ofChange ligCodesWrong)

/- THE SECOND FORM. 'bulk': how many values and letters a reading holds, each counted each time it is reached (what is shared counts as often as it is met; a slice's spare places count too). A statement '..UptoSaid' is the law's where the arguments, and the package variables that the reading takes, are together of bulk at most 1048576: NARROWER than '..Said'. Prove '..Said' where nothing that the law and all that it calls make is longer than what came in: it says more and counts as full. Else prove '..UptoSaid'. A law counts once. -/
mutual
def uptoBulk {H : Type} : DataW H → Nat
  | .lit (.string bytes) => bytes.length + 1
  | .lit _ => 1
  | .nil => 1
  | .ptr d => uptoBulk d + 1
  | .slice elems spare => uptoBulkAll elems + uptoBulkAll spare + 1
  | .agg parts => uptoBulkAll parts + 1
  | .iface _ d => uptoBulk d + 1
  | .map entries => uptoBulkEntries entries + 1
  | .held _ => 1
def uptoBulkAll {H : Type} : List (DataW H) → Nat
  | [] => 0
  | d :: r => uptoBulk d + uptoBulkAll r
def uptoBulkEntries {H : Type} : List (Lit × DataW H) → Nat
  | [] => 0
  | x :: r => uptoBulkEntry x + uptoBulkEntries r
def uptoBulkEntry {H : Type} : Lit × DataW H → Nat
  | (.string bytes, d) => bytes.length + uptoBulk d + 1
  | (_, d) => uptoBulk d + 1
 end
def uptoSmall : (H : Type) → List (DataW H) → Bool := fun _ ds => decide (uptoBulkAll ds ≤ 1048576)
def OpenSpec.upto (s : _root_.Go.ChangeSpec) : _root_.Go.OpenSpec := { _root_.Go.OpenSpec.ofChange s with cond := some uptoSmall }

/-- 'fleuronlaw28.LigTells', WHERE WHAT IT READS IS OF BULK AT MOST 1048576: true; the input reads as it did. -/
def ligTellsUptoRow : OpenClaim := { program := "ytdamfkckjcplcaa", sum := "620da842e7a040ad9357ee7583ba19f5881952244badc660a365d9664f20a314", func := "fleuron/fleuronlaw28.LigTells", spec := "ligTells", unfollowed := true, recurses := true, plainKeys := false, apart := false, narrowed := true }
def LigTellsUptoSaid : Prop := ligTellsUptoRow.holds Try.pinned (OpenSpec.upto ligTellsSpec)

/-- 'fleuronlaw28.LigRuns', WHERE WHAT IT READS IS OF BULK AT MOST 1048576: true; the input reads as it did. -/
def ligRunsUptoRow : OpenClaim := { program := "ytdamfkckjcplcaa", sum := "620da842e7a040ad9357ee7583ba19f5881952244badc660a365d9664f20a314", func := "fleuron/fleuronlaw28.LigRuns", spec := "ligRuns", unfollowed := true, recurses := true, plainKeys := false, apart := false, narrowed := true }
def LigRunsUptoSaid : Prop := ligRunsUptoRow.holds Try.pinned (OpenSpec.upto ligRunsSpec)

/-- 'fleuronlaw28.LigCompiles', WHERE WHAT IT READS IS OF BULK AT MOST 1048576: true; the input reads as it did. -/
def ligCompilesUptoRow : OpenClaim := { program := "ytdamfkckjcplcaa", sum := "620da842e7a040ad9357ee7583ba19f5881952244badc660a365d9664f20a314", func := "fleuron/fleuronlaw28.LigCompiles", spec := "ligCompiles", unfollowed := true, recurses := true, plainKeys := false, apart := false, narrowed := true }
def LigCompilesUptoSaid : Prop := ligCompilesUptoRow.holds Try.pinned (OpenSpec.upto ligCompilesSpec)

/-- 'fleuronlaw28.LigExecs', WHERE WHAT IT READS IS OF BULK AT MOST 1048576: true; the input reads as it did. -/
def ligExecsUptoRow : OpenClaim := { program := "ytdamfkckjcplcaa", sum := "620da842e7a040ad9357ee7583ba19f5881952244badc660a365d9664f20a314", func := "fleuron/fleuronlaw28.LigExecs", spec := "ligExecs", unfollowed := true, recurses := true, plainKeys := false, apart := false, narrowed := true }
def LigExecsUptoSaid : Prop := ligExecsUptoRow.holds Try.pinned (OpenSpec.upto ligExecsSpec)

/-- 'fleuronlaw28.LigRoads', WHERE WHAT IT READS IS OF BULK AT MOST 1048576: true; the input reads as it did. -/
def ligRoadsUptoRow : OpenClaim := { program := "ytdamfkckjcplcaa", sum := "620da842e7a040ad9357ee7583ba19f5881952244badc660a365d9664f20a314", func := "fleuron/fleuronlaw28.LigRoads", spec := "ligRoads", unfollowed := true, recurses := true, plainKeys := false, apart := false, narrowed := true }
def LigRoadsUptoSaid : Prop := ligRoadsUptoRow.holds Try.pinned (OpenSpec.upto ligRoadsSpec)

/-- 'fleuronlaw28.LigEnds', WHERE WHAT IT READS IS OF BULK AT MOST 1048576: true; the input reads as it did. -/
def ligEndsUptoRow : OpenClaim := { program := "ytdamfkckjcplcaa", sum := "620da842e7a040ad9357ee7583ba19f5881952244badc660a365d9664f20a314", func := "fleuron/fleuronlaw28.LigEnds", spec := "ligEnds", unfollowed := true, recurses := true, plainKeys := false, apart := false, narrowed := true }
def LigEndsUptoSaid : Prop := ligEndsUptoRow.holds Try.pinned (OpenSpec.upto ligEndsSpec)

/-- 'fleuronlaw28.LigLasts', WHERE WHAT IT READS IS OF BULK AT MOST 1048576: true; the input reads as it did. -/
def ligLastsUptoRow : OpenClaim := { program := "ytdamfkckjcplcaa", sum := "620da842e7a040ad9357ee7583ba19f5881952244badc660a365d9664f20a314", func := "fleuron/fleuronlaw28.LigLasts", spec := "ligLasts", unfollowed := true, recurses := true, plainKeys := false, apart := false, narrowed := true }
def LigLastsUptoSaid : Prop := ligLastsUptoRow.holds Try.pinned (OpenSpec.upto ligLastsSpec)

/-- 'fleuronlaw28.LigCodes', WHERE WHAT IT READS IS OF BULK AT MOST 1048576: true; the input reads as it did. -/
def ligCodesUptoRow : OpenClaim := { program := "ytdamfkckjcplcaa", sum := "620da842e7a040ad9357ee7583ba19f5881952244badc660a365d9664f20a314", func := "fleuron/fleuronlaw28.LigCodes", spec := "ligCodes", unfollowed := true, recurses := true, plainKeys := false, apart := false, narrowed := true }
def LigCodesUptoSaid : Prop := ligCodesUptoRow.holds Try.pinned (OpenSpec.upto ligCodesSpec)

end Rows
end Go.Proofs.Ytdamfkckjcplcaa
