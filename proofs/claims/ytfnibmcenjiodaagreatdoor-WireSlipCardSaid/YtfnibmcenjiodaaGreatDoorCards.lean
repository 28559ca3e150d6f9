/-
  DERIVED. GIVEN WITH THE SEED: THE CARDS: each row of YtfnibmcenjiodaaGreatDoorRows.lean that lists a variable, with what it lists TIED to the program's text (the seventh form; the later family's looks); each row that meets fmt, with fmt's text TOLD by the authors' own Lean function (tested against real Go, not proved from fmt's source: count such statements apart). THE CARD IS WHAT COUNTS. Prove the row's statement (the work); the ties are given (YtfnibmcenjiodaaGreatDoorTie.lean); close each card by the builder's one call (the guide's Derived/Test/ToyasCard.lean, 'card_holds'). Laid BY PROGRAM, IN A SANDBOX (cutbox-door.mjs). By AI agents, Wed Nov 11 2026. No macro, syntax, notation, axiom, sorry.
-/
import Derived.Test.YtfnibmcenjiodaaGreatDoorRows
import GoSem.ClaimSeven
namespace Go.Proofs.YtfnibmcenjiodaaGreatDoor
namespace Rows

/-- THE TIED CARD OF 'oilcakelaw11.WireSigns'. -/
def wireSignsCard : Claim7 := { stood := { row := wireSignsRow, standIns := [], harness := (true, "dd50f2fd2a0f7d0ec0591e6486cdea736b921c92d43645cd63fede005a2da2ff"), looks := true }, kinds := [], alts := [], laidByText := true, laidKinds := [.data, .pinned], laidTests := true, laidLooks := .later }
def WireSignsCardSaid : Prop := Claim7.holds Tryz.pinned (.plain (OpenSpec.ofChange wireSignsSpec)) wireSignsCard

/-- THE TIED CARD OF 'oilcakelaw11.WireSent'. -/
def wireSentCard : Claim7 := { stood := { row := wireSentRow, standIns := [], harness := (true, "dd50f2fd2a0f7d0ec0591e6486cdea736b921c92d43645cd63fede005a2da2ff"), looks := true }, kinds := [], alts := [], laidByText := true, laidKinds := [.data, .pinned], laidTests := true, laidLooks := .later }
def WireSentCardSaid : Prop := Claim7.holds Tryz.pinned (.plain (OpenSpec.ofChange wireSentSpec)) wireSentCard

/-- THE TIED CARD OF 'oilcakelaw11.WireCost'. -/
def wireCostCard : Claim7 := { stood := { row := wireCostRow, standIns := [], harness := (true, "dd50f2fd2a0f7d0ec0591e6486cdea736b921c92d43645cd63fede005a2da2ff"), looks := true }, kinds := [], alts := [], laidByText := true, laidKinds := [.data, .pinned], laidTests := true, laidLooks := .later }
def WireCostCardSaid : Prop := Claim7.holds Tryz.pinned (.plain (OpenSpec.ofChange wireCostSpec)) wireCostCard

/-- THE TIED CARD OF 'oilcakelaw11.WireMend'. -/
def wireMendCard : Claim7 := { stood := { row := wireMendRow, standIns := [], harness := (true, "dd50f2fd2a0f7d0ec0591e6486cdea736b921c92d43645cd63fede005a2da2ff"), looks := true }, kinds := [], alts := [], laidByText := true, laidKinds := [.data, .pinned], laidTests := true, laidLooks := .later }
def WireMendCardSaid : Prop := Claim7.holds Tryz.pinned (.plain (OpenSpec.ofChange wireMendSpec)) wireMendCard

/-- THE TIED CARD OF 'oilcakelaw11.WireSlip'. -/
def wireSlipCard : Claim7 := { stood := { row := wireSlipRow, standIns := [], harness := (true, "dd50f2fd2a0f7d0ec0591e6486cdea736b921c92d43645cd63fede005a2da2ff"), looks := true }, kinds := [], alts := [], laidByText := true, laidKinds := [.data, .pinned], laidTests := true, laidLooks := .later }
def WireSlipCardSaid : Prop := Claim7.holds Tryz.pinned (.plain (OpenSpec.ofChange wireSlipSpec)) wireSlipCard

/-- THE TIED CARD OF 'oilcakelaw11.WireNumbers'. -/
def wireNumbersCard : Claim7 := { stood := { row := wireNumbersRow, standIns := [], harness := (true, "dd50f2fd2a0f7d0ec0591e6486cdea736b921c92d43645cd63fede005a2da2ff"), looks := true }, kinds := [], alts := [], laidByText := true, laidKinds := [.data, .pinned], laidTests := true, laidLooks := .later }
def WireNumbersCardSaid : Prop := Claim7.holds Tryz.pinned (.plain (OpenSpec.ofChange wireNumbersSpec)) wireNumbersCard

/-- THE TIED CARD OF 'oilcakelaw11.WireHeads'. -/
def wireHeadsCard : Claim7 := { stood := { row := wireHeadsRow, standIns := [], harness := (true, "dd50f2fd2a0f7d0ec0591e6486cdea736b921c92d43645cd63fede005a2da2ff"), looks := true }, kinds := [], alts := [], laidByText := true, laidKinds := [.data, .pinned], laidTests := true, laidLooks := .later }
def WireHeadsCardSaid : Prop := Claim7.holds Tryz.pinned (.plain (OpenSpec.ofChange wireHeadsSpec)) wireHeadsCard

/-- THE TIED CARD OF 'oilcakelaw11.WireDouble'. -/
def wireDoubleCard : Claim7 := { stood := { row := wireDoubleRow, standIns := [], harness := (true, "dd50f2fd2a0f7d0ec0591e6486cdea736b921c92d43645cd63fede005a2da2ff"), looks := true }, kinds := [], alts := [], laidByText := true, laidKinds := [.data, .pinned], laidTests := true, laidLooks := .later }
def WireDoubleCardSaid : Prop := Claim7.holds Tryz.pinned (.plain (OpenSpec.ofChange wireDoubleSpec)) wireDoubleCard

/-- THE TIED CARD OF 'oilcakelaw11.WireExamples'. -/
def wireExamplesCard : Claim7 := { stood := { row := wireExamplesRow, standIns := [], harness := (true, "dd50f2fd2a0f7d0ec0591e6486cdea736b921c92d43645cd63fede005a2da2ff"), looks := true }, kinds := [], alts := [], laidByText := true, laidKinds := [.data, .pinned], laidTests := true, laidLooks := .later }
def WireExamplesCardSaid : Prop := Claim7.holds Tryz.pinned (.plain (OpenSpec.ofChange wireExamplesSpec)) wireExamplesCard

/-- THE TIED CARD OF 'oilcakelaw11.WirePress'. -/
def wirePressCard : Claim7 := { stood := { row := wirePressRow, standIns := [], harness := (true, "dd50f2fd2a0f7d0ec0591e6486cdea736b921c92d43645cd63fede005a2da2ff"), looks := true }, kinds := [], alts := [], laidByText := true, laidKinds := [.data, .pinned], laidTests := true, laidLooks := .later }
def WirePressCardSaid : Prop := Claim7.holds Tryz.pinned (.plain (OpenSpec.ofChange wirePressSpec)) wirePressCard

/-- THE TIED CARD OF 'oilcakelaw11.WireRoll'. -/
def wireRollCard : Claim7 := { stood := { row := wireRollRow, standIns := [], harness := (true, "dd50f2fd2a0f7d0ec0591e6486cdea736b921c92d43645cd63fede005a2da2ff"), looks := true }, kinds := [], alts := [], laidByText := true, laidKinds := [.data, .pinned], laidTests := true, laidLooks := .later }
def WireRollCardSaid : Prop := Claim7.holds Tryz.pinned (.plain (OpenSpec.ofChange wireRollSpec)) wireRollCard

/-- THE SECOND FORM's CARD OF 'oilcakelaw11.WireSigns'. -/
def wireSignsUptoCard : Claim7 := { stood := { row := wireSignsUptoRow, standIns := [], harness := (true, "dd50f2fd2a0f7d0ec0591e6486cdea736b921c92d43645cd63fede005a2da2ff"), looks := true }, kinds := [], alts := [], laidByText := true, laidKinds := [.data, .pinned], laidTests := true, laidLooks := .later }
def WireSignsUptoCardSaid : Prop := Claim7.holds Tryz.pinned (.plain (OpenSpec.upto wireSignsSpec)) wireSignsUptoCard

/-- THE SECOND FORM's CARD OF 'oilcakelaw11.WireSent'. -/
def wireSentUptoCard : Claim7 := { stood := { row := wireSentUptoRow, standIns := [], harness := (true, "dd50f2fd2a0f7d0ec0591e6486cdea736b921c92d43645cd63fede005a2da2ff"), looks := true }, kinds := [], alts := [], laidByText := true, laidKinds := [.data, .pinned], laidTests := true, laidLooks := .later }
def WireSentUptoCardSaid : Prop := Claim7.holds Tryz.pinned (.plain (OpenSpec.upto wireSentSpec)) wireSentUptoCard

/-- THE SECOND FORM's CARD OF 'oilcakelaw11.WireCost'. -/
def wireCostUptoCard : Claim7 := { stood := { row := wireCostUptoRow, standIns := [], harness := (true, "dd50f2fd2a0f7d0ec0591e6486cdea736b921c92d43645cd63fede005a2da2ff"), looks := true }, kinds := [], alts := [], laidByText := true, laidKinds := [.data, .pinned], laidTests := true, laidLooks := .later }
def WireCostUptoCardSaid : Prop := Claim7.holds Tryz.pinned (.plain (OpenSpec.upto wireCostSpec)) wireCostUptoCard

/-- THE SECOND FORM's CARD OF 'oilcakelaw11.WireMend'. -/
def wireMendUptoCard : Claim7 := { stood := { row := wireMendUptoRow, standIns := [], harness := (true, "dd50f2fd2a0f7d0ec0591e6486cdea736b921c92d43645cd63fede005a2da2ff"), looks := true }, kinds := [], alts := [], laidByText := true, laidKinds := [.data, .pinned], laidTests := true, laidLooks := .later }
def WireMendUptoCardSaid : Prop := Claim7.holds Tryz.pinned (.plain (OpenSpec.upto wireMendSpec)) wireMendUptoCard

/-- THE SECOND FORM's CARD OF 'oilcakelaw11.WireSlip'. -/
def wireSlipUptoCard : Claim7 := { stood := { row := wireSlipUptoRow, standIns := [], harness := (true, "dd50f2fd2a0f7d0ec0591e6486cdea736b921c92d43645cd63fede005a2da2ff"), looks := true }, kinds := [], alts := [], laidByText := true, laidKinds := [.data, .pinned], laidTests := true, laidLooks := .later }
def WireSlipUptoCardSaid : Prop := Claim7.holds Tryz.pinned (.plain (OpenSpec.upto wireSlipSpec)) wireSlipUptoCard

/-- THE SECOND FORM's CARD OF 'oilcakelaw11.WireNumbers'. -/
def wireNumbersUptoCard : Claim7 := { stood := { row := wireNumbersUptoRow, standIns := [], harness := (true, "dd50f2fd2a0f7d0ec0591e6486cdea736b921c92d43645cd63fede005a2da2ff"), looks := true }, kinds := [], alts := [], laidByText := true, laidKinds := [.data, .pinned], laidTests := true, laidLooks := .later }
def WireNumbersUptoCardSaid : Prop := Claim7.holds Tryz.pinned (.plain (OpenSpec.upto wireNumbersSpec)) wireNumbersUptoCard

/-- THE SECOND FORM's CARD OF 'oilcakelaw11.WireHeads'. -/
def wireHeadsUptoCard : Claim7 := { stood := { row := wireHeadsUptoRow, standIns := [], harness := (true, "dd50f2fd2a0f7d0ec0591e6486cdea736b921c92d43645cd63fede005a2da2ff"), looks := true }, kinds := [], alts := [], laidByText := true, laidKinds := [.data, .pinned], laidTests := true, laidLooks := .later }
def WireHeadsUptoCardSaid : Prop := Claim7.holds Tryz.pinned (.plain (OpenSpec.upto wireHeadsSpec)) wireHeadsUptoCard

/-- THE SECOND FORM's CARD OF 'oilcakelaw11.WireDouble'. -/
def wireDoubleUptoCard : Claim7 := { stood := { row := wireDoubleUptoRow, standIns := [], harness := (true, "dd50f2fd2a0f7d0ec0591e6486cdea736b921c92d43645cd63fede005a2da2ff"), looks := true }, kinds := [], alts := [], laidByText := true, laidKinds := [.data, .pinned], laidTests := true, laidLooks := .later }
def WireDoubleUptoCardSaid : Prop := Claim7.holds Tryz.pinned (.plain (OpenSpec.upto wireDoubleSpec)) wireDoubleUptoCard

/-- THE SECOND FORM's CARD OF 'oilcakelaw11.WireExamples'. -/
def wireExamplesUptoCard : Claim7 := { stood := { row := wireExamplesUptoRow, standIns := [], harness := (true, "dd50f2fd2a0f7d0ec0591e6486cdea736b921c92d43645cd63fede005a2da2ff"), looks := true }, kinds := [], alts := [], laidByText := true, laidKinds := [.data, .pinned], laidTests := true, laidLooks := .later }
def WireExamplesUptoCardSaid : Prop := Claim7.holds Tryz.pinned (.plain (OpenSpec.upto wireExamplesSpec)) wireExamplesUptoCard

/-- THE SECOND FORM's CARD OF 'oilcakelaw11.WirePress'. -/
def wirePressUptoCard : Claim7 := { stood := { row := wirePressUptoRow, standIns := [], harness := (true, "dd50f2fd2a0f7d0ec0591e6486cdea736b921c92d43645cd63fede005a2da2ff"), looks := true }, kinds := [], alts := [], laidByText := true, laidKinds := [.data, .pinned], laidTests := true, laidLooks := .later }
def WirePressUptoCardSaid : Prop := Claim7.holds Tryz.pinned (.plain (OpenSpec.upto wirePressSpec)) wirePressUptoCard

/-- THE SECOND FORM's CARD OF 'oilcakelaw11.WireRoll'. -/
def wireRollUptoCard : Claim7 := { stood := { row := wireRollUptoRow, standIns := [], harness := (true, "dd50f2fd2a0f7d0ec0591e6486cdea736b921c92d43645cd63fede005a2da2ff"), looks := true }, kinds := [], alts := [], laidByText := true, laidKinds := [.data, .pinned], laidTests := true, laidLooks := .later }
def WireRollUptoCardSaid : Prop := Claim7.holds Tryz.pinned (.plain (OpenSpec.upto wireRollSpec)) wireRollUptoCard
end Rows
end Go.Proofs.YtfnibmcenjiodaaGreatDoor
