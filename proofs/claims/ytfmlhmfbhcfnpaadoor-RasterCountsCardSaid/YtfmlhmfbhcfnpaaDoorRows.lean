/-
  NARROWER THAN 'FOR EVERY INPUT', by the rows' own cells (each row's printed sentence says how): RasterReads: laid · RasterTells: laid · RasterShifts: laid · RasterPairs: laid · RasterOver: laid · RasterPixels: laid · RasterCounts: laid · RasterTurns: laid · RasterRows: laid · RasterBack: laid.
  DERIVED. THE GIVEN ROWS OF THIS SEAT. 10 by the template 'for every input the law returns true; each argument reads behind the call as it read before'; 0 by the template 'total and deterministic' (their statements: YtfmlhmfbhcfnpaaDoorTotals.lean).
  GIVEN WITH THE SEED: the statements are not yours to turn. If you find one false, say at which input.
  Laid BY PROGRAM, IN A SANDBOX (cutbox-rows.mjs): the forced cells as the released guide's own fill.sh prints them over the translation 63f5ca05283881d2… (all of the seat's roots in one cut). By AI agents, Wed Nov 11 2026. No macro, syntax, notation, axiom, sorry.
-/
import Derived.Test.YtfmlhmfbhcfnpaaDoorChecked
import GoSem.PinnedTables
import GoSem.Claim
import GoSem.ClaimJoined
import GoSem.ClaimMapViews
import Derived.JoinedTies
import Derived.KernelRfl
namespace Go.Proofs.YtfmlhmfbhcfnpaaDoor
/- THE CELL 'sum', in the pinned program and in every row, IS THE sha256 OF THE DUMP (.gsa) THAT YtfmlhmfbhcfnpaaDoorProg.lean LOADS. Nothing in Lean hashes anything: it is a label: what it is worth is what the hold of that sum in a sandbox is worth. -/
noncomputable def Tryd.pinned : Pinned := { name := "ytfmlhmfbhcfnpaadoor", sum := "63f5ca05283881d23f68b59cb2112becb2b536979a395e997f2710b44643b171", checked := Tryd.checked }
namespace Rows
def none {H : Type} : Left H := { results := [], args := [] }

/- WHAT THE LISTED PACKAGE-LEVEL VARIABLES READ AS WHEN THE CALL BEGINS. Each datum BY PROGRAM (the guide's laid-datum.mjs) off the statement by which the dump's own 'gosem.cut.vars' lays the variable. In a bare row this is a premise. The card (YtfmlhmfbhcfnpaaDoorCards.lean) ties it to the program's text. -/
def laid_unicode_utf8_acceptRanges {H : Type} : DataW H := .agg [.agg [.lit (.int .u8 128), .lit (.int .u8 191)], .agg [.lit (.int .u8 160), .lit (.int .u8 191)], .agg [.lit (.int .u8 128), .lit (.int .u8 159)], .agg [.lit (.int .u8 144), .lit (.int .u8 191)], .agg [.lit (.int .u8 128), .lit (.int .u8 143)], .agg [.lit (.int .u8 0), .lit (.int .u8 0)], .agg [.lit (.int .u8 0), .lit (.int .u8 0)], .agg [.lit (.int .u8 0), .lit (.int .u8 0)], .agg [.lit (.int .u8 0), .lit (.int .u8 0)], .agg [.lit (.int .u8 0), .lit (.int .u8 0)], .agg [.lit (.int .u8 0), .lit (.int .u8 0)], .agg [.lit (.int .u8 0), .lit (.int .u8 0)], .agg [.lit (.int .u8 0), .lit (.int .u8 0)], .agg [.lit (.int .u8 0), .lit (.int .u8 0)], .agg [.lit (.int .u8 0), .lit (.int .u8 0)], .agg [.lit (.int .u8 0), .lit (.int .u8 0)]]
/-- One of Go's own tables, pinned by name: the form's constant. -/
def laid_unicode_utf8_first : DataW Unit := Go.Pinned.utf8First

/-- 'fleuronlaw20.RasterReads': WHATEVER THE INPUT: true; the input reads as it did. -/
def rasterReadsSpec : ChangeSpec := { name := "rasterReads", fn := fun _ => fun
  | [d] => { results := [.lit (.bool true)], args := [d] }
  | _ => none }
def rasterReadsRow : OpenClaim := { program := "ytfmlhmfbhcfnpaadoor", sum := "63f5ca05283881d23f68b59cb2112becb2b536979a395e997f2710b44643b171", func := "fleuron/fleuronlaw20.RasterReads", spec := "rasterReads", inPlace := ["internal/abi.NoEscape", "internal/bytealg.CountString", "internal/bytealg.IndexByteString", "internal/bytealg.IndexString"], unfollowed := true, recurses := true, named := ["unicode/utf8.first", "unicode/utf8.acceptRanges", "internal/bytealg.MaxLen"], apart := false, laid := [("unicode/utf8.acceptRanges", laid_unicode_utf8_acceptRanges), ("unicode/utf8.first", laid_unicode_utf8_first)] }
def RasterReadsSaid : Prop := rasterReadsRow.holds Tryd.pinned (OpenSpec.ofChange rasterReadsSpec)

/-- ITS FALSE NEIGHBOUR: 'it returns false'. Refute it at one input. -/
def rasterReadsWrong : ChangeSpec := { name := "rasterReads", fn := fun _ => fun
  | [d] => { results := [.lit (.bool false)], args := [d] }
  | _ => none }
def RasterReadsWrongFalsely : Prop := rasterReadsRow.holds Tryd.pinned (OpenSpec.ofChange rasterReadsWrong)

/-- 'fleuronlaw20.RasterTells': WHATEVER THE INPUT: true; the input reads as it did. -/
def rasterTellsSpec : ChangeSpec := { name := "rasterTells", fn := fun _ => fun
  | [d1, d2] => { results := [.lit (.bool true)], args := [d1, d2] }
  | _ => none }
def rasterTellsRow : OpenClaim := { program := "ytfmlhmfbhcfnpaadoor", sum := "63f5ca05283881d23f68b59cb2112becb2b536979a395e997f2710b44643b171", func := "fleuron/fleuronlaw20.RasterTells", spec := "rasterTells", inPlace := ["internal/abi.NoEscape", "internal/bytealg.CountString", "internal/bytealg.IndexByteString", "internal/bytealg.IndexString"], unfollowed := true, recurses := true, named := ["unicode/utf8.first", "unicode/utf8.acceptRanges", "internal/bytealg.MaxLen"], apart := false, laid := [("unicode/utf8.acceptRanges", laid_unicode_utf8_acceptRanges), ("unicode/utf8.first", laid_unicode_utf8_first)] }
def RasterTellsSaid : Prop := rasterTellsRow.holds Tryd.pinned (OpenSpec.ofChange rasterTellsSpec)

/-- ITS FALSE NEIGHBOUR: 'it returns false'. Refute it at one input. -/
def rasterTellsWrong : ChangeSpec := { name := "rasterTells", fn := fun _ => fun
  | [d1, d2] => { results := [.lit (.bool false)], args := [d1, d2] }
  | _ => none }
def RasterTellsWrongFalsely : Prop := rasterTellsRow.holds Tryd.pinned (OpenSpec.ofChange rasterTellsWrong)

/-- 'fleuronlaw20.RasterShifts': WHATEVER THE INPUT: true; the input reads as it did. -/
def rasterShiftsSpec : ChangeSpec := { name := "rasterShifts", fn := fun _ => fun
  | [d1, d2] => { results := [.lit (.bool true)], args := [d1, d2] }
  | _ => none }
def rasterShiftsRow : OpenClaim := { program := "ytfmlhmfbhcfnpaadoor", sum := "63f5ca05283881d23f68b59cb2112becb2b536979a395e997f2710b44643b171", func := "fleuron/fleuronlaw20.RasterShifts", spec := "rasterShifts", inPlace := ["internal/abi.NoEscape", "internal/bytealg.CountString", "internal/bytealg.IndexByteString", "internal/bytealg.IndexString"], unfollowed := true, recurses := true, named := ["unicode/utf8.first", "unicode/utf8.acceptRanges", "internal/bytealg.MaxLen"], apart := false, laid := [("unicode/utf8.acceptRanges", laid_unicode_utf8_acceptRanges), ("unicode/utf8.first", laid_unicode_utf8_first)] }
def RasterShiftsSaid : Prop := rasterShiftsRow.holds Tryd.pinned (OpenSpec.ofChange rasterShiftsSpec)

/-- ITS FALSE NEIGHBOUR: 'it returns false'. Refute it at one input. -/
def rasterShiftsWrong : ChangeSpec := { name := "rasterShifts", fn := fun _ => fun
  | [d1, d2] => { results := [.lit (.bool false)], args := [d1, d2] }
  | _ => none }
def RasterShiftsWrongFalsely : Prop := rasterShiftsRow.holds Tryd.pinned (OpenSpec.ofChange rasterShiftsWrong)

/-- 'fleuronlaw20.RasterPairs': WHATEVER THE INPUT: true; the input reads as it did. -/
def rasterPairsSpec : ChangeSpec := { name := "rasterPairs", fn := fun _ => fun
  | [d1, d2, d3] => { results := [.lit (.bool true)], args := [d1, d2, d3] }
  | _ => none }
def rasterPairsRow : OpenClaim := { program := "ytfmlhmfbhcfnpaadoor", sum := "63f5ca05283881d23f68b59cb2112becb2b536979a395e997f2710b44643b171", func := "fleuron/fleuronlaw20.RasterPairs", spec := "rasterPairs", inPlace := ["internal/abi.NoEscape", "internal/bytealg.CountString", "internal/bytealg.IndexByteString", "internal/bytealg.IndexString"], unfollowed := true, recurses := true, named := ["unicode/utf8.first", "unicode/utf8.acceptRanges", "internal/bytealg.MaxLen"], apart := false, laid := [("unicode/utf8.acceptRanges", laid_unicode_utf8_acceptRanges), ("unicode/utf8.first", laid_unicode_utf8_first)] }
def RasterPairsSaid : Prop := rasterPairsRow.holds Tryd.pinned (OpenSpec.ofChange rasterPairsSpec)

/-- ITS FALSE NEIGHBOUR: 'it returns false'. Refute it at one input. -/
def rasterPairsWrong : ChangeSpec := { name := "rasterPairs", fn := fun _ => fun
  | [d1, d2, d3] => { results := [.lit (.bool false)], args := [d1, d2, d3] }
  | _ => none }
def RasterPairsWrongFalsely : Prop := rasterPairsRow.holds Tryd.pinned (OpenSpec.ofChange rasterPairsWrong)

/-- 'fleuronlaw20.RasterOver': WHATEVER THE INPUT: true; the input reads as it did. -/
def rasterOverSpec : ChangeSpec := { name := "rasterOver", fn := fun _ => fun
  | [d1, d2, d3] => { results := [.lit (.bool true)], args := [d1, d2, d3] }
  | _ => none }
def rasterOverRow : OpenClaim := { program := "ytfmlhmfbhcfnpaadoor", sum := "63f5ca05283881d23f68b59cb2112becb2b536979a395e997f2710b44643b171", func := "fleuron/fleuronlaw20.RasterOver", spec := "rasterOver", inPlace := ["internal/abi.NoEscape", "internal/bytealg.CountString", "internal/bytealg.IndexByteString", "internal/bytealg.IndexString"], unfollowed := true, recurses := true, named := ["unicode/utf8.first", "unicode/utf8.acceptRanges", "internal/bytealg.MaxLen"], apart := false, laid := [("unicode/utf8.acceptRanges", laid_unicode_utf8_acceptRanges), ("unicode/utf8.first", laid_unicode_utf8_first)] }
def RasterOverSaid : Prop := rasterOverRow.holds Tryd.pinned (OpenSpec.ofChange rasterOverSpec)

/-- ITS FALSE NEIGHBOUR: 'it returns false'. Refute it at one input. -/
def rasterOverWrong : ChangeSpec := { name := "rasterOver", fn := fun _ => fun
  | [d1, d2, d3] => { results := [.lit (.bool false)], args := [d1, d2, d3] }
  | _ => none }
def RasterOverWrongFalsely : Prop := rasterOverRow.holds Tryd.pinned (OpenSpec.ofChange rasterOverWrong)

/-- 'fleuronlaw20.RasterPixels': WHATEVER THE INPUT: true; the input reads as it did. -/
def rasterPixelsSpec : ChangeSpec := { name := "rasterPixels", fn := fun _ => fun
  | [d1, d2, d3] => { results := [.lit (.bool true)], args := [d1, d2, d3] }
  | _ => none }
def rasterPixelsRow : OpenClaim := { program := "ytfmlhmfbhcfnpaadoor", sum := "63f5ca05283881d23f68b59cb2112becb2b536979a395e997f2710b44643b171", func := "fleuron/fleuronlaw20.RasterPixels", spec := "rasterPixels", inPlace := ["internal/abi.NoEscape", "internal/bytealg.CountString", "internal/bytealg.IndexByteString", "internal/bytealg.IndexString"], unfollowed := true, recurses := true, named := ["unicode/utf8.first", "unicode/utf8.acceptRanges", "internal/bytealg.MaxLen"], apart := false, laid := [("unicode/utf8.acceptRanges", laid_unicode_utf8_acceptRanges), ("unicode/utf8.first", laid_unicode_utf8_first)] }
def RasterPixelsSaid : Prop := rasterPixelsRow.holds Tryd.pinned (OpenSpec.ofChange rasterPixelsSpec)

/-- ITS FALSE NEIGHBOUR: 'it returns false'. Refute it at one input. -/
def rasterPixelsWrong : ChangeSpec := { name := "rasterPixels", fn := fun _ => fun
  | [d1, d2, d3] => { results := [.lit (.bool false)], args := [d1, d2, d3] }
  | _ => none }
def RasterPixelsWrongFalsely : Prop := rasterPixelsRow.holds Tryd.pinned (OpenSpec.ofChange rasterPixelsWrong)

/-- 'fleuronlaw20.RasterCounts': WHATEVER THE INPUT: true; the input reads as it did. -/
def rasterCountsSpec : ChangeSpec := { name := "rasterCounts", fn := fun _ => fun
  | [d] => { results := [.lit (.bool true)], args := [d] }
  | _ => none }
def rasterCountsRow : OpenClaim := { program := "ytfmlhmfbhcfnpaadoor", sum := "63f5ca05283881d23f68b59cb2112becb2b536979a395e997f2710b44643b171", func := "fleuron/fleuronlaw20.RasterCounts", spec := "rasterCounts", inPlace := ["internal/abi.NoEscape", "internal/bytealg.CountString", "internal/bytealg.IndexByteString", "internal/bytealg.IndexString"], unfollowed := true, recurses := true, named := ["unicode/utf8.first", "unicode/utf8.acceptRanges", "internal/bytealg.MaxLen"], apart := false, laid := [("unicode/utf8.acceptRanges", laid_unicode_utf8_acceptRanges), ("unicode/utf8.first", laid_unicode_utf8_first)] }
def RasterCountsSaid : Prop := rasterCountsRow.holds Tryd.pinned (OpenSpec.ofChange rasterCountsSpec)

/-- ITS FALSE NEIGHBOUR: 'it returns false'. Refute it at one input. -/
def rasterCountsWrong : ChangeSpec := { name := "rasterCounts", fn := fun _ => fun
  | [d] => { results := [.lit (.bool false)], args := [d] }
  | _ => none }
def RasterCountsWrongFalsely : Prop := rasterCountsRow.holds Tryd.pinned (OpenSpec.ofChange rasterCountsWrong)

/-- 'fleuronlaw20.RasterTurns': WHATEVER THE INPUT: true; the input reads as it did. -/
def rasterTurnsSpec : ChangeSpec := { name := "rasterTurns", fn := fun _ => fun
  | [d1, d2] => { results := [.lit (.bool true)], args := [d1, d2] }
  | _ => none }
def rasterTurnsRow : OpenClaim := { program := "ytfmlhmfbhcfnpaadoor", sum := "63f5ca05283881d23f68b59cb2112becb2b536979a395e997f2710b44643b171", func := "fleuron/fleuronlaw20.RasterTurns", spec := "rasterTurns", inPlace := ["internal/abi.NoEscape", "internal/bytealg.CountString", "internal/bytealg.IndexByteString", "internal/bytealg.IndexString"], unfollowed := true, recurses := true, named := ["unicode/utf8.first", "unicode/utf8.acceptRanges", "internal/bytealg.MaxLen"], apart := false, laid := [("unicode/utf8.acceptRanges", laid_unicode_utf8_acceptRanges), ("unicode/utf8.first", laid_unicode_utf8_first)] }
def RasterTurnsSaid : Prop := rasterTurnsRow.holds Tryd.pinned (OpenSpec.ofChange rasterTurnsSpec)

/-- ITS FALSE NEIGHBOUR: 'it returns false'. Refute it at one input. -/
def rasterTurnsWrong : ChangeSpec := { name := "rasterTurns", fn := fun _ => fun
  | [d1, d2] => { results := [.lit (.bool false)], args := [d1, d2] }
  | _ => none }
def RasterTurnsWrongFalsely : Prop := rasterTurnsRow.holds Tryd.pinned (OpenSpec.ofChange rasterTurnsWrong)

/-- 'fleuronlaw20.RasterRows': WHATEVER THE INPUT: true; the input reads as it did. -/
def rasterRowsSpec : ChangeSpec := { name := "rasterRows", fn := fun _ => fun
  | [d] => { results := [.lit (.bool true)], args := [d] }
  | _ => none }
def rasterRowsRow : OpenClaim := { program := "ytfmlhmfbhcfnpaadoor", sum := "63f5ca05283881d23f68b59cb2112becb2b536979a395e997f2710b44643b171", func := "fleuron/fleuronlaw20.RasterRows", spec := "rasterRows", inPlace := ["internal/abi.NoEscape", "internal/bytealg.CountString", "internal/bytealg.IndexByteString", "internal/bytealg.IndexString", "internal/bytealg.MakeNoZero"], unfollowed := true, recurses := true, named := ["unicode/utf8.first", "unicode/utf8.acceptRanges", "internal/bytealg.MaxLen"], apart := false, laid := [("unicode/utf8.acceptRanges", laid_unicode_utf8_acceptRanges), ("unicode/utf8.first", laid_unicode_utf8_first)] }
def RasterRowsSaid : Prop := rasterRowsRow.holds Tryd.pinned (OpenSpec.ofChange rasterRowsSpec)

/-- ITS FALSE NEIGHBOUR: 'it returns false'. Refute it at one input. -/
def rasterRowsWrong : ChangeSpec := { name := "rasterRows", fn := fun _ => fun
  | [d] => { results := [.lit (.bool false)], args := [d] }
  | _ => none }
def RasterRowsWrongFalsely : Prop := rasterRowsRow.holds Tryd.pinned (OpenSpec.ofChange rasterRowsWrong)

/-- 'fleuronlaw20.RasterBack': WHATEVER THE INPUT: true; the input reads as it did. -/
def rasterBackSpec : ChangeSpec := { name := "rasterBack", fn := fun _ => fun
  | [d] => { results := [.lit (.bool true)], args := [d] }
  | _ => none }
def rasterBackRow : OpenClaim := { program := "ytfmlhmfbhcfnpaadoor", sum := "63f5ca05283881d23f68b59cb2112becb2b536979a395e997f2710b44643b171", func := "fleuron/fleuronlaw20.RasterBack", spec := "rasterBack", inPlace := ["internal/abi.NoEscape", "internal/bytealg.CountString", "internal/bytealg.IndexByteString", "internal/bytealg.IndexString", "internal/bytealg.MakeNoZero"], unfollowed := true, recurses := true, named := ["unicode/utf8.first", "unicode/utf8.acceptRanges", "internal/bytealg.MaxLen"], apart := false, laid := [("unicode/utf8.acceptRanges", laid_unicode_utf8_acceptRanges), ("unicode/utf8.first", laid_unicode_utf8_first)] }
def RasterBackSaid : Prop := rasterBackRow.holds Tryd.pinned (OpenSpec.ofChange rasterBackSpec)

/-- ITS FALSE NEIGHBOUR: 'it returns false'. Refute it at one input. -/
def rasterBackWrong : ChangeSpec := { name := "rasterBack", fn := fun _ => fun
  | [d] => { results := [.lit (.bool false)], args := [d] }
  | _ => none }
def RasterBackWrongFalsely : Prop := rasterBackRow.holds Tryd.pinned (OpenSpec.ofChange rasterBackWrong)

/- THE SECOND FORM. 'bulk': how many values and letters a reading holds, each counted each time it is reached (what is shared counts as often as it is met; a slice's spare places count too). A statement '..UptoSaid' is the law's where the arguments, and the package variables that the reading takes, are together of bulk at most 1048576: NARROWER than '..Said'. Prove '..Said' where nothing that the law and all that it calls make is longer than what came in: it says more and counts as full. Else prove '..UptoSaid'. A law counts once. -/
mutual
def uptoBulk {H : Type} : DataW H → Nat
  | .lit (.string bytes) => bytes.length + 1
  | .lit _ => 1
  | .nil => 1
  | .ptr d => uptoBulk d + 1
  | .slice elems spare => uptoBulkAll elems + uptoBulkAll spare + 1
  | .agg parts => uptoBulkAll parts + 1
  | .iface _ d => uptoBulk d + 1
  | .map entries => uptoBulkEntries entries + 1
  | .held _ => 1
def uptoBulkAll {H : Type} : List (DataW H) → Nat
  | [] => 0
  | d :: r => uptoBulk d + uptoBulkAll r
def uptoBulkEntries {H : Type} : List (Lit × DataW H) → Nat
  | [] => 0
  | x :: r => uptoBulkEntry x + uptoBulkEntries r
def uptoBulkEntry {H : Type} : Lit × DataW H → Nat
  | (.string bytes, d) => bytes.length + uptoBulk d + 1
  | (_, d) => uptoBulk d + 1
 end
def uptoSmall : (H : Type) → List (DataW H) → Bool := fun _ ds => decide (uptoBulkAll ds ≤ 1048576)
def OpenSpec.upto (s : _root_.Go.ChangeSpec) : _root_.Go.OpenSpec := { _root_.Go.OpenSpec.ofChange s with cond := some uptoSmall }

/-- 'fleuronlaw20.RasterReads', WHERE WHAT IT READS IS OF BULK AT MOST 1048576: true; the input reads as it did. -/
def rasterReadsUptoRow : OpenClaim := { program := "ytfmlhmfbhcfnpaadoor", sum := "63f5ca05283881d23f68b59cb2112becb2b536979a395e997f2710b44643b171", func := "fleuron/fleuronlaw20.RasterReads", spec := "rasterReads", inPlace := ["internal/abi.NoEscape", "internal/bytealg.CountString", "internal/bytealg.IndexByteString", "internal/bytealg.IndexString"], unfollowed := true, recurses := true, named := ["unicode/utf8.first", "unicode/utf8.acceptRanges", "internal/bytealg.MaxLen"], apart := false, laid := [("unicode/utf8.acceptRanges", laid_unicode_utf8_acceptRanges), ("unicode/utf8.first", laid_unicode_utf8_first)], narrowed := true }
def RasterReadsUptoSaid : Prop := rasterReadsUptoRow.holds Tryd.pinned (OpenSpec.upto rasterReadsSpec)

/-- 'fleuronlaw20.RasterTells', WHERE WHAT IT READS IS OF BULK AT MOST 1048576: true; the input reads as it did. -/
def rasterTellsUptoRow : OpenClaim := { program := "ytfmlhmfbhcfnpaadoor", sum := "63f5ca05283881d23f68b59cb2112becb2b536979a395e997f2710b44643b171", func := "fleuron/fleuronlaw20.RasterTells", spec := "rasterTells", inPlace := ["internal/abi.NoEscape", "internal/bytealg.CountString", "internal/bytealg.IndexByteString", "internal/bytealg.IndexString"], unfollowed := true, recurses := true, named := ["unicode/utf8.first", "unicode/utf8.acceptRanges", "internal/bytealg.MaxLen"], apart := false, laid := [("unicode/utf8.acceptRanges", laid_unicode_utf8_acceptRanges), ("unicode/utf8.first", laid_unicode_utf8_first)], narrowed := true }
def RasterTellsUptoSaid : Prop := rasterTellsUptoRow.holds Tryd.pinned (OpenSpec.upto rasterTellsSpec)

/-- 'fleuronlaw20.RasterShifts', WHERE WHAT IT READS IS OF BULK AT MOST 1048576: true; the input reads as it did. -/
def rasterShiftsUptoRow : OpenClaim := { program := "ytfmlhmfbhcfnpaadoor", sum := "63f5ca05283881d23f68b59cb2112becb2b536979a395e997f2710b44643b171", func := "fleuron/fleuronlaw20.RasterShifts", spec := "rasterShifts", inPlace := ["internal/abi.NoEscape", "internal/bytealg.CountString", "internal/bytealg.IndexByteString", "internal/bytealg.IndexString"], unfollowed := true, recurses := true, named := ["unicode/utf8.first", "unicode/utf8.acceptRanges", "internal/bytealg.MaxLen"], apart := false, laid := [("unicode/utf8.acceptRanges", laid_unicode_utf8_acceptRanges), ("unicode/utf8.first", laid_unicode_utf8_first)], narrowed := true }
def RasterShiftsUptoSaid : Prop := rasterShiftsUptoRow.holds Tryd.pinned (OpenSpec.upto rasterShiftsSpec)

/-- 'fleuronlaw20.RasterPairs', WHERE WHAT IT READS IS OF BULK AT MOST 1048576: true; the input reads as it did. -/
def rasterPairsUptoRow : OpenClaim := { program := "ytfmlhmfbhcfnpaadoor", sum := "63f5ca05283881d23f68b59cb2112becb2b536979a395e997f2710b44643b171", func := "fleuron/fleuronlaw20.RasterPairs", spec := "rasterPairs", inPlace := ["internal/abi.NoEscape", "internal/bytealg.CountString", "internal/bytealg.IndexByteString", "internal/bytealg.IndexString"], unfollowed := true, recurses := true, named := ["unicode/utf8.first", "unicode/utf8.acceptRanges", "internal/bytealg.MaxLen"], apart := false, laid := [("unicode/utf8.acceptRanges", laid_unicode_utf8_acceptRanges), ("unicode/utf8.first", laid_unicode_utf8_first)], narrowed := true }
def RasterPairsUptoSaid : Prop := rasterPairsUptoRow.holds Tryd.pinned (OpenSpec.upto rasterPairsSpec)

/-- 'fleuronlaw20.RasterOver', WHERE WHAT IT READS IS OF BULK AT MOST 1048576: true; the input reads as it did. -/
def rasterOverUptoRow : OpenClaim := { program := "ytfmlhmfbhcfnpaadoor", sum := "63f5ca05283881d23f68b59cb2112becb2b536979a395e997f2710b44643b171", func := "fleuron/fleuronlaw20.RasterOver", spec := "rasterOver", inPlace := ["internal/abi.NoEscape", "internal/bytealg.CountString", "internal/bytealg.IndexByteString", "internal/bytealg.IndexString"], unfollowed := true, recurses := true, named := ["unicode/utf8.first", "unicode/utf8.acceptRanges", "internal/bytealg.MaxLen"], apart := false, laid := [("unicode/utf8.acceptRanges", laid_unicode_utf8_acceptRanges), ("unicode/utf8.first", laid_unicode_utf8_first)], narrowed := true }
def RasterOverUptoSaid : Prop := rasterOverUptoRow.holds Tryd.pinned (OpenSpec.upto rasterOverSpec)

/-- 'fleuronlaw20.RasterPixels', WHERE WHAT IT READS IS OF BULK AT MOST 1048576: true; the input reads as it did. -/
def rasterPixelsUptoRow : OpenClaim := { program := "ytfmlhmfbhcfnpaadoor", sum := "63f5ca05283881d23f68b59cb2112becb2b536979a395e997f2710b44643b171", func := "fleuron/fleuronlaw20.RasterPixels", spec := "rasterPixels", inPlace := ["internal/abi.NoEscape", "internal/bytealg.CountString", "internal/bytealg.IndexByteString", "internal/bytealg.IndexString"], unfollowed := true, recurses := true, named := ["unicode/utf8.first", "unicode/utf8.acceptRanges", "internal/bytealg.MaxLen"], apart := false, laid := [("unicode/utf8.acceptRanges", laid_unicode_utf8_acceptRanges), ("unicode/utf8.first", laid_unicode_utf8_first)], narrowed := true }
def RasterPixelsUptoSaid : Prop := rasterPixelsUptoRow.holds Tryd.pinned (OpenSpec.upto rasterPixelsSpec)

/-- 'fleuronlaw20.RasterCounts', WHERE WHAT IT READS IS OF BULK AT MOST 1048576: true; the input reads as it did. -/
def rasterCountsUptoRow : OpenClaim := { program := "ytfmlhmfbhcfnpaadoor", sum := "63f5ca05283881d23f68b59cb2112becb2b536979a395e997f2710b44643b171", func := "fleuron/fleuronlaw20.RasterCounts", spec := "rasterCounts", inPlace := ["internal/abi.NoEscape", "internal/bytealg.CountString", "internal/bytealg.IndexByteString", "internal/bytealg.IndexString"], unfollowed := true, recurses := true, named := ["unicode/utf8.first", "unicode/utf8.acceptRanges", "internal/bytealg.MaxLen"], apart := false, laid := [("unicode/utf8.acceptRanges", laid_unicode_utf8_acceptRanges), ("unicode/utf8.first", laid_unicode_utf8_first)], narrowed := true }
def RasterCountsUptoSaid : Prop := rasterCountsUptoRow.holds Tryd.pinned (OpenSpec.upto rasterCountsSpec)

/-- 'fleuronlaw20.RasterTurns', WHERE WHAT IT READS IS OF BULK AT MOST 1048576: true; the input reads as it did. -/
def rasterTurnsUptoRow : OpenClaim := { program := "ytfmlhmfbhcfnpaadoor", sum := "63f5ca05283881d23f68b59cb2112becb2b536979a395e997f2710b44643b171", func := "fleuron/fleuronlaw20.RasterTurns", spec := "rasterTurns", inPlace := ["internal/abi.NoEscape", "internal/bytealg.CountString", "internal/bytealg.IndexByteString", "internal/bytealg.IndexString"], unfollowed := true, recurses := true, named := ["unicode/utf8.first", "unicode/utf8.acceptRanges", "internal/bytealg.MaxLen"], apart := false, laid := [("unicode/utf8.acceptRanges", laid_unicode_utf8_acceptRanges), ("unicode/utf8.first", laid_unicode_utf8_first)], narrowed := true }
def RasterTurnsUptoSaid : Prop := rasterTurnsUptoRow.holds Tryd.pinned (OpenSpec.upto rasterTurnsSpec)

/-- 'fleuronlaw20.RasterRows', WHERE WHAT IT READS IS OF BULK AT MOST 1048576: true; the input reads as it did. -/
def rasterRowsUptoRow : OpenClaim := { program := "ytfmlhmfbhcfnpaadoor", sum := "63f5ca05283881d23f68b59cb2112becb2b536979a395e997f2710b44643b171", func := "fleuron/fleuronlaw20.RasterRows", spec := "rasterRows", inPlace := ["internal/abi.NoEscape", "internal/bytealg.CountString", "internal/bytealg.IndexByteString", "internal/bytealg.IndexString", "internal/bytealg.MakeNoZero"], unfollowed := true, recurses := true, named := ["unicode/utf8.first", "unicode/utf8.acceptRanges", "internal/bytealg.MaxLen"], apart := false, laid := [("unicode/utf8.acceptRanges", laid_unicode_utf8_acceptRanges), ("unicode/utf8.first", laid_unicode_utf8_first)], narrowed := true }
def RasterRowsUptoSaid : Prop := rasterRowsUptoRow.holds Tryd.pinned (OpenSpec.upto rasterRowsSpec)

/-- 'fleuronlaw20.RasterBack', WHERE WHAT IT READS IS OF BULK AT MOST 1048576: true; the input reads as it did. -/
def rasterBackUptoRow : OpenClaim := { program := "ytfmlhmfbhcfnpaadoor", sum := "63f5ca05283881d23f68b59cb2112becb2b536979a395e997f2710b44643b171", func := "fleuron/fleuronlaw20.RasterBack", spec := "rasterBack", inPlace := ["internal/abi.NoEscape", "internal/bytealg.CountString", "internal/bytealg.IndexByteString", "internal/bytealg.IndexString", "internal/bytealg.MakeNoZero"], unfollowed := true, recurses := true, named := ["unicode/utf8.first", "unicode/utf8.acceptRanges", "internal/bytealg.MaxLen"], apart := false, laid := [("unicode/utf8.acceptRanges", laid_unicode_utf8_acceptRanges), ("unicode/utf8.first", laid_unicode_utf8_first)], narrowed := true }
def RasterBackUptoSaid : Prop := rasterBackUptoRow.holds Tryd.pinned (OpenSpec.upto rasterBackSpec)

end Rows
end Go.Proofs.YtfmlhmfbhcfnpaaDoor
