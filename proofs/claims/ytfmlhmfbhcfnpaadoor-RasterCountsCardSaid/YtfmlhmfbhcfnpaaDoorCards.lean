/-
  DERIVED. GIVEN WITH THE SEED: THE CARDS: each row of YtfmlhmfbhcfnpaaDoorRows.lean that lists a variable, with what it lists TIED to the program's text (the seventh form; the later family's looks); each row that meets fmt, with fmt's text TOLD by the authors' own Lean function (tested against real Go, not proved from fmt's source: count such statements apart). THE CARD IS WHAT COUNTS. Prove the row's statement (the work); the ties are given (YtfmlhmfbhcfnpaaDoorTie.lean); close each card by the builder's one call (the guide's Derived/Test/ToyasCard.lean, 'card_holds'). Laid BY PROGRAM, IN A SANDBOX (cutbox-door.mjs). By AI agents, Wed Nov 11 2026. No macro, syntax, notation, axiom, sorry.
-/
import Derived.Test.YtfmlhmfbhcfnpaaDoorRows
import GoSem.ClaimSeven
namespace Go.Proofs.YtfmlhmfbhcfnpaaDoor
namespace Rows

/-- THE TIED CARD OF 'fleuronlaw20.RasterReads'. -/
def rasterReadsCard : Claim7 := { stood := { row := rasterReadsRow, standIns := [], harness := (true, "574faa45a3533286245555659c522e19a46158fe5192dc0d4b3e199697c6f072"), looks := false }, kinds := [], alts := [], laidByText := true, laidKinds := [.data, .pinned], laidTests := true, laidLooks := .later }
def RasterReadsCardSaid : Prop := Claim7.holds Tryd.pinned (.plain (OpenSpec.ofChange rasterReadsSpec)) rasterReadsCard

/-- THE TIED CARD OF 'fleuronlaw20.RasterTells'. -/
def rasterTellsCard : Claim7 := { stood := { row := rasterTellsRow, standIns := [], harness := (true, "574faa45a3533286245555659c522e19a46158fe5192dc0d4b3e199697c6f072"), looks := false }, kinds := [], alts := [], laidByText := true, laidKinds := [.data, .pinned], laidTests := true, laidLooks := .later }
def RasterTellsCardSaid : Prop := Claim7.holds Tryd.pinned (.plain (OpenSpec.ofChange rasterTellsSpec)) rasterTellsCard

/-- THE TIED CARD OF 'fleuronlaw20.RasterShifts'. -/
def rasterShiftsCard : Claim7 := { stood := { row := rasterShiftsRow, standIns := [], harness := (true, "574faa45a3533286245555659c522e19a46158fe5192dc0d4b3e199697c6f072"), looks := false }, kinds := [], alts := [], laidByText := true, laidKinds := [.data, .pinned], laidTests := true, laidLooks := .later }
def RasterShiftsCardSaid : Prop := Claim7.holds Tryd.pinned (.plain (OpenSpec.ofChange rasterShiftsSpec)) rasterShiftsCard

/-- THE TIED CARD OF 'fleuronlaw20.RasterPairs'. -/
def rasterPairsCard : Claim7 := { stood := { row := rasterPairsRow, standIns := [], harness := (true, "574faa45a3533286245555659c522e19a46158fe5192dc0d4b3e199697c6f072"), looks := false }, kinds := [], alts := [], laidByText := true, laidKinds := [.data, .pinned], laidTests := true, laidLooks := .later }
def RasterPairsCardSaid : Prop := Claim7.holds Tryd.pinned (.plain (OpenSpec.ofChange rasterPairsSpec)) rasterPairsCard

/-- THE TIED CARD OF 'fleuronlaw20.RasterOver'. -/
def rasterOverCard : Claim7 := { stood := { row := rasterOverRow, standIns := [], harness := (true, "574faa45a3533286245555659c522e19a46158fe5192dc0d4b3e199697c6f072"), looks := false }, kinds := [], alts := [], laidByText := true, laidKinds := [.data, .pinned], laidTests := true, laidLooks := .later }
def RasterOverCardSaid : Prop := Claim7.holds Tryd.pinned (.plain (OpenSpec.ofChange rasterOverSpec)) rasterOverCard

/-- THE TIED CARD OF 'fleuronlaw20.RasterPixels'. -/
def rasterPixelsCard : Claim7 := { stood := { row := rasterPixelsRow, standIns := [], harness := (true, "574faa45a3533286245555659c522e19a46158fe5192dc0d4b3e199697c6f072"), looks := false }, kinds := [], alts := [], laidByText := true, laidKinds := [.data, .pinned], laidTests := true, laidLooks := .later }
def RasterPixelsCardSaid : Prop := Claim7.holds Tryd.pinned (.plain (OpenSpec.ofChange rasterPixelsSpec)) rasterPixelsCard

/-- THE TIED CARD OF 'fleuronlaw20.RasterCounts'. -/
def rasterCountsCard : Claim7 := { stood := { row := rasterCountsRow, standIns := [], harness := (true, "574faa45a3533286245555659c522e19a46158fe5192dc0d4b3e199697c6f072"), looks := false }, kinds := [], alts := [], laidByText := true, laidKinds := [.data, .pinned], laidTests := true, laidLooks := .later }
def RasterCountsCardSaid : Prop := Claim7.holds Tryd.pinned (.plain (OpenSpec.ofChange rasterCountsSpec)) rasterCountsCard

/-- THE TIED CARD OF 'fleuronlaw20.RasterTurns'. -/
def rasterTurnsCard : Claim7 := { stood := { row := rasterTurnsRow, standIns := [], harness := (true, "574faa45a3533286245555659c522e19a46158fe5192dc0d4b3e199697c6f072"), looks := false }, kinds := [], alts := [], laidByText := true, laidKinds := [.data, .pinned], laidTests := true, laidLooks := .later }
def RasterTurnsCardSaid : Prop := Claim7.holds Tryd.pinned (.plain (OpenSpec.ofChange rasterTurnsSpec)) rasterTurnsCard

/-- THE TIED CARD OF 'fleuronlaw20.RasterRows'. -/
def rasterRowsCard : Claim7 := { stood := { row := rasterRowsRow, standIns := [], harness := (true, "574faa45a3533286245555659c522e19a46158fe5192dc0d4b3e199697c6f072"), looks := false }, kinds := [], alts := [], laidByText := true, laidKinds := [.data, .pinned], laidTests := true, laidLooks := .later }
def RasterRowsCardSaid : Prop := Claim7.holds Tryd.pinned (.plain (OpenSpec.ofChange rasterRowsSpec)) rasterRowsCard

/-- THE TIED CARD OF 'fleuronlaw20.RasterBack'. -/
def rasterBackCard : Claim7 := { stood := { row := rasterBackRow, standIns := [], harness := (true, "574faa45a3533286245555659c522e19a46158fe5192dc0d4b3e199697c6f072"), looks := false }, kinds := [], alts := [], laidByText := true, laidKinds := [.data, .pinned], laidTests := true, laidLooks := .later }
def RasterBackCardSaid : Prop := Claim7.holds Tryd.pinned (.plain (OpenSpec.ofChange rasterBackSpec)) rasterBackCard

/-- THE SECOND FORM's CARD OF 'fleuronlaw20.RasterReads'. -/
def rasterReadsUptoCard : Claim7 := { stood := { row := rasterReadsUptoRow, standIns := [], harness := (true, "574faa45a3533286245555659c522e19a46158fe5192dc0d4b3e199697c6f072"), looks := false }, kinds := [], alts := [], laidByText := true, laidKinds := [.data, .pinned], laidTests := true, laidLooks := .later }
def RasterReadsUptoCardSaid : Prop := Claim7.holds Tryd.pinned (.plain (OpenSpec.upto rasterReadsSpec)) rasterReadsUptoCard

/-- THE SECOND FORM's CARD OF 'fleuronlaw20.RasterTells'. -/
def rasterTellsUptoCard : Claim7 := { stood := { row := rasterTellsUptoRow, standIns := [], harness := (true, "574faa45a3533286245555659c522e19a46158fe5192dc0d4b3e199697c6f072"), looks := false }, kinds := [], alts := [], laidByText := true, laidKinds := [.data, .pinned], laidTests := true, laidLooks := .later }
def RasterTellsUptoCardSaid : Prop := Claim7.holds Tryd.pinned (.plain (OpenSpec.upto rasterTellsSpec)) rasterTellsUptoCard

/-- THE SECOND FORM's CARD OF 'fleuronlaw20.RasterShifts'. -/
def rasterShiftsUptoCard : Claim7 := { stood := { row := rasterShiftsUptoRow, standIns := [], harness := (true, "574faa45a3533286245555659c522e19a46158fe5192dc0d4b3e199697c6f072"), looks := false }, kinds := [], alts := [], laidByText := true, laidKinds := [.data, .pinned], laidTests := true, laidLooks := .later }
def RasterShiftsUptoCardSaid : Prop := Claim7.holds Tryd.pinned (.plain (OpenSpec.upto rasterShiftsSpec)) rasterShiftsUptoCard

/-- THE SECOND FORM's CARD OF 'fleuronlaw20.RasterPairs'. -/
def rasterPairsUptoCard : Claim7 := { stood := { row := rasterPairsUptoRow, standIns := [], harness := (true, "574faa45a3533286245555659c522e19a46158fe5192dc0d4b3e199697c6f072"), looks := false }, kinds := [], alts := [], laidByText := true, laidKinds := [.data, .pinned], laidTests := true, laidLooks := .later }
def RasterPairsUptoCardSaid : Prop := Claim7.holds Tryd.pinned (.plain (OpenSpec.upto rasterPairsSpec)) rasterPairsUptoCard

/-- THE SECOND FORM's CARD OF 'fleuronlaw20.RasterOver'. -/
def rasterOverUptoCard : Claim7 := { stood := { row := rasterOverUptoRow, standIns := [], harness := (true, "574faa45a3533286245555659c522e19a46158fe5192dc0d4b3e199697c6f072"), looks := false }, kinds := [], alts := [], laidByText := true, laidKinds := [.data, .pinned], laidTests := true, laidLooks := .later }
def RasterOverUptoCardSaid : Prop := Claim7.holds Tryd.pinned (.plain (OpenSpec.upto rasterOverSpec)) rasterOverUptoCard

/-- THE SECOND FORM's CARD OF 'fleuronlaw20.RasterPixels'. -/
def rasterPixelsUptoCard : Claim7 := { stood := { row := rasterPixelsUptoRow, standIns := [], harness := (true, "574faa45a3533286245555659c522e19a46158fe5192dc0d4b3e199697c6f072"), looks := false }, kinds := [], alts := [], laidByText := true, laidKinds := [.data, .pinned], laidTests := true, laidLooks := .later }
def RasterPixelsUptoCardSaid : Prop := Claim7.holds Tryd.pinned (.plain (OpenSpec.upto rasterPixelsSpec)) rasterPixelsUptoCard

/-- THE SECOND FORM's CARD OF 'fleuronlaw20.RasterCounts'. -/
def rasterCountsUptoCard : Claim7 := { stood := { row := rasterCountsUptoRow, standIns := [], harness := (true, "574faa45a3533286245555659c522e19a46158fe5192dc0d4b3e199697c6f072"), looks := false }, kinds := [], alts := [], laidByText := true, laidKinds := [.data, .pinned], laidTests := true, laidLooks := .later }
def RasterCountsUptoCardSaid : Prop := Claim7.holds Tryd.pinned (.plain (OpenSpec.upto rasterCountsSpec)) rasterCountsUptoCard

/-- THE SECOND FORM's CARD OF 'fleuronlaw20.RasterTurns'. -/
def rasterTurnsUptoCard : Claim7 := { stood := { row := rasterTurnsUptoRow, standIns := [], harness := (true, "574faa45a3533286245555659c522e19a46158fe5192dc0d4b3e199697c6f072"), looks := false }, kinds := [], alts := [], laidByText := true, laidKinds := [.data, .pinned], laidTests := true, laidLooks := .later }
def RasterTurnsUptoCardSaid : Prop := Claim7.holds Tryd.pinned (.plain (OpenSpec.upto rasterTurnsSpec)) rasterTurnsUptoCard

/-- THE SECOND FORM's CARD OF 'fleuronlaw20.RasterRows'. -/
def rasterRowsUptoCard : Claim7 := { stood := { row := rasterRowsUptoRow, standIns := [], harness := (true, "574faa45a3533286245555659c522e19a46158fe5192dc0d4b3e199697c6f072"), looks := false }, kinds := [], alts := [], laidByText := true, laidKinds := [.data, .pinned], laidTests := true, laidLooks := .later }
def RasterRowsUptoCardSaid : Prop := Claim7.holds Tryd.pinned (.plain (OpenSpec.upto rasterRowsSpec)) rasterRowsUptoCard

/-- THE SECOND FORM's CARD OF 'fleuronlaw20.RasterBack'. -/
def rasterBackUptoCard : Claim7 := { stood := { row := rasterBackUptoRow, standIns := [], harness := (true, "574faa45a3533286245555659c522e19a46158fe5192dc0d4b3e199697c6f072"), looks := false }, kinds := [], alts := [], laidByText := true, laidKinds := [.data, .pinned], laidTests := true, laidLooks := .later }
def RasterBackUptoCardSaid : Prop := Claim7.holds Tryd.pinned (.plain (OpenSpec.upto rasterBackSpec)) rasterBackUptoCard
end Rows
end Go.Proofs.YtfmlhmfbhcfnpaaDoor
