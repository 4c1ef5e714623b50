/-
  No cell of these rows narrows 'for every input' (looked for: loops, veiled, ifaces, maps, wideKeys, modest, calm, conditions, laid).
  DERIVED. THE GIVEN ROWS OF THIS SEAT. 7 by the template 'for every input the law returns true; each argument reads behind the call as it read before'; 0 by the template 'total and deterministic' (their statements: YtckbchkkjnahlaaTotals.lean).
  GIVEN WITH THE SEED: the statements are not yours to turn. If you find one false, say at which input.
  Laid BY PROGRAM, IN A SANDBOX (cutbox-rows.mjs): the forced cells as the released guide's own fill.sh prints them over the translation 896f3e7358e17923… (all of the seat's roots in one cut). By AI agents, Wed Nov 11 2026. No macro, syntax, notation, axiom, sorry.
-/
import Derived.Test.YtckbchkkjnahlaaChecked
import GoSem.Claim
import GoSem.ClaimJoined
import GoSem.ClaimMapViews
import Derived.JoinedTies
import Derived.KernelRfl
namespace Go.Proofs.Ytckbchkkjnahlaa
/- THE CELL 'sum', in the pinned program and in every row, IS THE sha256 OF THE DUMP (.gsa) THAT YtckbchkkjnahlaaProg.lean LOADS. Nothing in Lean hashes anything: it is a label: what it is worth is what the hold of that sum in a sandbox is worth. -/
noncomputable def Try.pinned : Pinned := { name := "ytckbchkkjnahlaa", sum := "896f3e7358e17923096be18c10f760fb3be235420e608401d72cf7acc8e8427a", checked := Try.checked }
namespace Rows
def none {H : Type} : Left H := { results := [], args := [] }

/-- 'fleuronlaw11.HobbyStraight': WHATEVER THE INPUT: true; the input reads as it did. -/
def hobbyStraightSpec : ChangeSpec := { name := "hobbyStraight", fn := fun _ => fun
  | [d1, d2, d3] => { results := [.lit (.bool true)], args := [d1, d2, d3] }
  | _ => none }
def hobbyStraightRow : OpenClaim := { program := "ytckbchkkjnahlaa", sum := "896f3e7358e17923096be18c10f760fb3be235420e608401d72cf7acc8e8427a", func := "fleuron/fleuronlaw11.HobbyStraight", spec := "hobbyStraight", unfollowed := true, recurses := true, apart := false }
def HobbyStraightSaid : Prop := hobbyStraightRow.holds Try.pinned (OpenSpec.ofChange hobbyStraightSpec)

/-- ITS FALSE NEIGHBOUR: 'it returns false'. Refute it at one input. -/
def hobbyStraightWrong : ChangeSpec := { name := "hobbyStraight", fn := fun _ => fun
  | [d1, d2, d3] => { results := [.lit (.bool false)], args := [d1, d2, d3] }
  | _ => none }
def HobbyStraightWrongFalsely : Prop := hobbyStraightRow.holds Try.pinned (OpenSpec.ofChange hobbyStraightWrong)

/-- 'fleuronlaw11.HobbyKeeps': WHATEVER THE INPUT: true; the input reads as it did. -/
def hobbyKeepsSpec : ChangeSpec := { name := "hobbyKeeps", fn := fun _ => fun
  | [d1, d2] => { results := [.lit (.bool true)], args := [d1, d2] }
  | _ => none }
def hobbyKeepsRow : OpenClaim := { program := "ytckbchkkjnahlaa", sum := "896f3e7358e17923096be18c10f760fb3be235420e608401d72cf7acc8e8427a", func := "fleuron/fleuronlaw11.HobbyKeeps", spec := "hobbyKeeps", unfollowed := true, recurses := true, apart := false }
def HobbyKeepsSaid : Prop := hobbyKeepsRow.holds Try.pinned (OpenSpec.ofChange hobbyKeepsSpec)

/-- ITS FALSE NEIGHBOUR: 'it returns false'. Refute it at one input. -/
def hobbyKeepsWrong : ChangeSpec := { name := "hobbyKeeps", fn := fun _ => fun
  | [d1, d2] => { results := [.lit (.bool false)], args := [d1, d2] }
  | _ => none }
def HobbyKeepsWrongFalsely : Prop := hobbyKeepsRow.holds Try.pinned (OpenSpec.ofChange hobbyKeepsWrong)

/-- 'fleuronlaw11.HobbyValid': WHATEVER THE INPUT: true; the input reads as it did. -/
def hobbyValidSpec : ChangeSpec := { name := "hobbyValid", fn := fun _ => fun
  | [d1, d2] => { results := [.lit (.bool true)], args := [d1, d2] }
  | _ => none }
def hobbyValidRow : OpenClaim := { program := "ytckbchkkjnahlaa", sum := "896f3e7358e17923096be18c10f760fb3be235420e608401d72cf7acc8e8427a", func := "fleuron/fleuronlaw11.HobbyValid", spec := "hobbyValid", unfollowed := true, recurses := true, apart := false }
def HobbyValidSaid : Prop := hobbyValidRow.holds Try.pinned (OpenSpec.ofChange hobbyValidSpec)

/-- ITS FALSE NEIGHBOUR: 'it returns false'. Refute it at one input. -/
def hobbyValidWrong : ChangeSpec := { name := "hobbyValid", fn := fun _ => fun
  | [d1, d2] => { results := [.lit (.bool false)], args := [d1, d2] }
  | _ => none }
def HobbyValidWrongFalsely : Prop := hobbyValidRow.holds Try.pinned (OpenSpec.ofChange hobbyValidWrong)

/-- 'fleuronlaw11.HobbySpeeds': WHATEVER THE INPUT: true; the input reads as it did. -/
def hobbySpeedsSpec : ChangeSpec := { name := "hobbySpeeds", fn := fun _ => fun
  | [d1, d2] => { results := [.lit (.bool true)], args := [d1, d2] }
  | _ => none }
def hobbySpeedsRow : OpenClaim := { program := "ytckbchkkjnahlaa", sum := "896f3e7358e17923096be18c10f760fb3be235420e608401d72cf7acc8e8427a", func := "fleuron/fleuronlaw11.HobbySpeeds", spec := "hobbySpeeds", unfollowed := true, recurses := true, apart := false }
def HobbySpeedsSaid : Prop := hobbySpeedsRow.holds Try.pinned (OpenSpec.ofChange hobbySpeedsSpec)

/-- ITS FALSE NEIGHBOUR: 'it returns false'. Refute it at one input. -/
def hobbySpeedsWrong : ChangeSpec := { name := "hobbySpeeds", fn := fun _ => fun
  | [d1, d2] => { results := [.lit (.bool false)], args := [d1, d2] }
  | _ => none }
def HobbySpeedsWrongFalsely : Prop := hobbySpeedsRow.holds Try.pinned (OpenSpec.ofChange hobbySpeedsWrong)

/-- 'fleuronlaw11.HobbyControls': WHATEVER THE INPUT: true; the input reads as it did. -/
def hobbyControlsSpec : ChangeSpec := { name := "hobbyControls", fn := fun _ => fun
  | [d1, d2, d3] => { results := [.lit (.bool true)], args := [d1, d2, d3] }
  | _ => none }
def hobbyControlsRow : OpenClaim := { program := "ytckbchkkjnahlaa", sum := "896f3e7358e17923096be18c10f760fb3be235420e608401d72cf7acc8e8427a", func := "fleuron/fleuronlaw11.HobbyControls", spec := "hobbyControls", unfollowed := true, recurses := true, apart := false }
def HobbyControlsSaid : Prop := hobbyControlsRow.holds Try.pinned (OpenSpec.ofChange hobbyControlsSpec)

/-- ITS FALSE NEIGHBOUR: 'it returns false'. Refute it at one input. -/
def hobbyControlsWrong : ChangeSpec := { name := "hobbyControls", fn := fun _ => fun
  | [d1, d2, d3] => { results := [.lit (.bool false)], args := [d1, d2, d3] }
  | _ => none }
def HobbyControlsWrongFalsely : Prop := hobbyControlsRow.holds Try.pinned (OpenSpec.ofChange hobbyControlsWrong)

/-- 'fleuronlaw11.HobbyShifts': WHATEVER THE INPUT: true; the input reads as it did. -/
def hobbyShiftsSpec : ChangeSpec := { name := "hobbyShifts", fn := fun _ => fun
  | [d1, d2, d3] => { results := [.lit (.bool true)], args := [d1, d2, d3] }
  | _ => none }
def hobbyShiftsRow : OpenClaim := { program := "ytckbchkkjnahlaa", sum := "896f3e7358e17923096be18c10f760fb3be235420e608401d72cf7acc8e8427a", func := "fleuron/fleuronlaw11.HobbyShifts", spec := "hobbyShifts", unfollowed := true, recurses := true, apart := false }
def HobbyShiftsSaid : Prop := hobbyShiftsRow.holds Try.pinned (OpenSpec.ofChange hobbyShiftsSpec)

/-- ITS FALSE NEIGHBOUR: 'it returns false'. Refute it at one input. -/
def hobbyShiftsWrong : ChangeSpec := { name := "hobbyShifts", fn := fun _ => fun
  | [d1, d2, d3] => { results := [.lit (.bool false)], args := [d1, d2, d3] }
  | _ => none }
def HobbyShiftsWrongFalsely : Prop := hobbyShiftsRow.holds Try.pinned (OpenSpec.ofChange hobbyShiftsWrong)

/-- 'fleuronlaw11.HobbyParts': WHATEVER THE INPUT: true; the input reads as it did. -/
def hobbyPartsSpec : ChangeSpec := { name := "hobbyParts", fn := fun _ => fun
  | [d1, d2] => { results := [.lit (.bool true)], args := [d1, d2] }
  | _ => none }
def hobbyPartsRow : OpenClaim := { program := "ytckbchkkjnahlaa", sum := "896f3e7358e17923096be18c10f760fb3be235420e608401d72cf7acc8e8427a", func := "fleuron/fleuronlaw11.HobbyParts", spec := "hobbyParts", unfollowed := true, recurses := true, apart := false }
def HobbyPartsSaid : Prop := hobbyPartsRow.holds Try.pinned (OpenSpec.ofChange hobbyPartsSpec)

/-- ITS FALSE NEIGHBOUR: 'it returns false'. Refute it at one input. -/
def hobbyPartsWrong : ChangeSpec := { name := "hobbyParts", fn := fun _ => fun
  | [d1, d2] => { results := [.lit (.bool false)], args := [d1, d2] }
  | _ => none }
def HobbyPartsWrongFalsely : Prop := hobbyPartsRow.holds Try.pinned (OpenSpec.ofChange hobbyPartsWrong)

/- THE SECOND FORM. 'bulk': how many values and letters a reading holds, each counted each time it is reached (what is shared counts as often as it is met; a slice's spare places count too). A statement '..UptoSaid' is the law's where the arguments, and the package variables that the reading takes, are together of bulk at most 1048576: NARROWER than '..Said'. Prove '..Said' where nothing that the law and all that it calls make is longer than what came in: it says more and counts as full. Else prove '..UptoSaid'. A law counts once. -/
mutual
def uptoBulk {H : Type} : DataW H → Nat
  | .lit (.string bytes) => bytes.length + 1
  | .lit _ => 1
  | .nil => 1
  | .ptr d => uptoBulk d + 1
  | .slice elems spare => uptoBulkAll elems + uptoBulkAll spare + 1
  | .agg parts => uptoBulkAll parts + 1
  | .iface _ d => uptoBulk d + 1
  | .map entries => uptoBulkEntries entries + 1
  | .held _ => 1
def uptoBulkAll {H : Type} : List (DataW H) → Nat
  | [] => 0
  | d :: r => uptoBulk d + uptoBulkAll r
def uptoBulkEntries {H : Type} : List (Lit × DataW H) → Nat
  | [] => 0
  | x :: r => uptoBulkEntry x + uptoBulkEntries r
def uptoBulkEntry {H : Type} : Lit × DataW H → Nat
  | (.string bytes, d) => bytes.length + uptoBulk d + 1
  | (_, d) => uptoBulk d + 1
 end
def uptoSmall : (H : Type) → List (DataW H) → Bool := fun _ ds => decide (uptoBulkAll ds ≤ 1048576)
def OpenSpec.upto (s : _root_.Go.ChangeSpec) : _root_.Go.OpenSpec := { _root_.Go.OpenSpec.ofChange s with cond := some uptoSmall }

/-- 'fleuronlaw11.HobbyStraight', WHERE WHAT IT READS IS OF BULK AT MOST 1048576: true; the input reads as it did. -/
def hobbyStraightUptoRow : OpenClaim := { program := "ytckbchkkjnahlaa", sum := "896f3e7358e17923096be18c10f760fb3be235420e608401d72cf7acc8e8427a", func := "fleuron/fleuronlaw11.HobbyStraight", spec := "hobbyStraight", unfollowed := true, recurses := true, apart := false, narrowed := true }
def HobbyStraightUptoSaid : Prop := hobbyStraightUptoRow.holds Try.pinned (OpenSpec.upto hobbyStraightSpec)

/-- 'fleuronlaw11.HobbyKeeps', WHERE WHAT IT READS IS OF BULK AT MOST 1048576: true; the input reads as it did. -/
def hobbyKeepsUptoRow : OpenClaim := { program := "ytckbchkkjnahlaa", sum := "896f3e7358e17923096be18c10f760fb3be235420e608401d72cf7acc8e8427a", func := "fleuron/fleuronlaw11.HobbyKeeps", spec := "hobbyKeeps", unfollowed := true, recurses := true, apart := false, narrowed := true }
def HobbyKeepsUptoSaid : Prop := hobbyKeepsUptoRow.holds Try.pinned (OpenSpec.upto hobbyKeepsSpec)

/-- 'fleuronlaw11.HobbyValid', WHERE WHAT IT READS IS OF BULK AT MOST 1048576: true; the input reads as it did. -/
def hobbyValidUptoRow : OpenClaim := { program := "ytckbchkkjnahlaa", sum := "896f3e7358e17923096be18c10f760fb3be235420e608401d72cf7acc8e8427a", func := "fleuron/fleuronlaw11.HobbyValid", spec := "hobbyValid", unfollowed := true, recurses := true, apart := false, narrowed := true }
def HobbyValidUptoSaid : Prop := hobbyValidUptoRow.holds Try.pinned (OpenSpec.upto hobbyValidSpec)

/-- 'fleuronlaw11.HobbySpeeds', WHERE WHAT IT READS IS OF BULK AT MOST 1048576: true; the input reads as it did. -/
def hobbySpeedsUptoRow : OpenClaim := { program := "ytckbchkkjnahlaa", sum := "896f3e7358e17923096be18c10f760fb3be235420e608401d72cf7acc8e8427a", func := "fleuron/fleuronlaw11.HobbySpeeds", spec := "hobbySpeeds", unfollowed := true, recurses := true, apart := false, narrowed := true }
def HobbySpeedsUptoSaid : Prop := hobbySpeedsUptoRow.holds Try.pinned (OpenSpec.upto hobbySpeedsSpec)

/-- 'fleuronlaw11.HobbyControls', WHERE WHAT IT READS IS OF BULK AT MOST 1048576: true; the input reads as it did. -/
def hobbyControlsUptoRow : OpenClaim := { program := "ytckbchkkjnahlaa", sum := "896f3e7358e17923096be18c10f760fb3be235420e608401d72cf7acc8e8427a", func := "fleuron/fleuronlaw11.HobbyControls", spec := "hobbyControls", unfollowed := true, recurses := true, apart := false, narrowed := true }
def HobbyControlsUptoSaid : Prop := hobbyControlsUptoRow.holds Try.pinned (OpenSpec.upto hobbyControlsSpec)

/-- 'fleuronlaw11.HobbyShifts', WHERE WHAT IT READS IS OF BULK AT MOST 1048576: true; the input reads as it did. -/
def hobbyShiftsUptoRow : OpenClaim := { program := "ytckbchkkjnahlaa", sum := "896f3e7358e17923096be18c10f760fb3be235420e608401d72cf7acc8e8427a", func := "fleuron/fleuronlaw11.HobbyShifts", spec := "hobbyShifts", unfollowed := true, recurses := true, apart := false, narrowed := true }
def HobbyShiftsUptoSaid : Prop := hobbyShiftsUptoRow.holds Try.pinned (OpenSpec.upto hobbyShiftsSpec)

/-- 'fleuronlaw11.HobbyParts', WHERE WHAT IT READS IS OF BULK AT MOST 1048576: true; the input reads as it did. -/
def hobbyPartsUptoRow : OpenClaim := { program := "ytckbchkkjnahlaa", sum := "896f3e7358e17923096be18c10f760fb3be235420e608401d72cf7acc8e8427a", func := "fleuron/fleuronlaw11.HobbyParts", spec := "hobbyParts", unfollowed := true, recurses := true, apart := false, narrowed := true }
def HobbyPartsUptoSaid : Prop := hobbyPartsUptoRow.holds Try.pinned (OpenSpec.upto hobbyPartsSpec)

end Rows
end Go.Proofs.Ytckbchkkjnahlaa
