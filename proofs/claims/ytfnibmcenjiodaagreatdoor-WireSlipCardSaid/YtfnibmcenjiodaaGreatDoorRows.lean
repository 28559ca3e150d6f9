/-
  NARROWER THAN 'FOR EVERY INPUT', by the rows' own cells (each row's printed sentence says how): WireSigns: laid · WireSent: laid · WireCost: laid · WireMend: laid · WireSlip: laid · WireNumbers: laid · WireHeads: laid · WireDouble: laid · WireExamples: laid · WirePress: laid · WireRoll: laid.
  DERIVED. THE GIVEN ROWS OF THIS SEAT. 11 by the template 'for every input the law returns true; each argument reads behind the call as it read before'; 0 by the template 'total and deterministic' (their statements: YtfnibmcenjiodaaGreatDoorTotals.lean).
  GIVEN WITH THE SEED: the statements are not yours to turn. If you find one false, say at which input.
  Laid BY PROGRAM, IN A SANDBOX (cutbox-rows.mjs): the forced cells as the released guide's own fill.sh prints them over the translation 94f29051744f476a… (all of the seat's roots in one cut). By AI agents, Wed Nov 11 2026. No macro, syntax, notation, axiom, sorry.
-/
import Derived.Test.YtfnibmcenjiodaaGreatDoorChecked
import GoSem.PinnedTables
import GoSem.Claim
import GoSem.ClaimJoined
import GoSem.ClaimMapViews
import Derived.JoinedTies
import Derived.KernelRfl
namespace Go.Proofs.YtfnibmcenjiodaaGreatDoor
/- THE CELL 'sum', in the pinned program and in every row, IS THE sha256 OF THE DUMP (.gsa) THAT YtfnibmcenjiodaaGreatDoorProg.lean LOADS. Nothing in Lean hashes anything: it is a label: what it is worth is what the hold of that sum in a sandbox is worth. -/
noncomputable def Tryz.pinned : Pinned := { name := "ytfnibmcenjiodaagreatdoor", sum := "94f29051744f476a024ce47384ff68eec47a913fa234ed926250a01c0d486884", checked := Tryz.checked }
namespace Rows
def none {H : Type} : Left H := { results := [], args := [] }

/- WHAT THE LISTED PACKAGE-LEVEL VARIABLES READ AS WHEN THE CALL BEGINS. Each datum BY PROGRAM (the guide's laid-datum.mjs) off the statement by which the dump's own 'gosem.cut.vars' lays the variable. In a bare row this is a premise. The card (YtfnibmcenjiodaaGreatDoorCards.lean) ties it to the program's text. -/
def laid_unicode_utf8_acceptRanges {H : Type} : DataW H := .agg [.agg [.lit (.int .u8 128), .lit (.int .u8 191)], .agg [.lit (.int .u8 160), .lit (.int .u8 191)], .agg [.lit (.int .u8 128), .lit (.int .u8 159)], .agg [.lit (.int .u8 144), .lit (.int .u8 191)], .agg [.lit (.int .u8 128), .lit (.int .u8 143)], .agg [.lit (.int .u8 0), .lit (.int .u8 0)], .agg [.lit (.int .u8 0), .lit (.int .u8 0)], .agg [.lit (.int .u8 0), .lit (.int .u8 0)], .agg [.lit (.int .u8 0), .lit (.int .u8 0)], .agg [.lit (.int .u8 0), .lit (.int .u8 0)], .agg [.lit (.int .u8 0), .lit (.int .u8 0)], .agg [.lit (.int .u8 0), .lit (.int .u8 0)], .agg [.lit (.int .u8 0), .lit (.int .u8 0)], .agg [.lit (.int .u8 0), .lit (.int .u8 0)], .agg [.lit (.int .u8 0), .lit (.int .u8 0)], .agg [.lit (.int .u8 0), .lit (.int .u8 0)]]
/-- One of Go's own tables, pinned by name: the form's constant. -/
def laid_unicode_utf8_first : DataW Unit := Go.Pinned.utf8First

/-- 'oilcakelaw11.WireSigns': WHATEVER THE INPUT: true; the input reads as it did. -/
def wireSignsSpec : ChangeSpec := { name := "wireSigns", fn := fun _ => fun
  | [d1, d2, d3] => { results := [.lit (.bool true)], args := [d1, d2, d3] }
  | _ => none }
def wireSignsRow : OpenClaim := { program := "ytfnibmcenjiodaagreatdoor", sum := "94f29051744f476a024ce47384ff68eec47a913fa234ed926250a01c0d486884", func := "oilcake/oilcakelaw11.WireSigns", spec := "wireSigns", inPlace := ["internal/bytealg.IndexByteString", "internal/bytealg.IndexString", "internal/abi.NoEscape"], unfollowed := true, recurses := true, named := ["unicode/utf8.first", "unicode/utf8.acceptRanges", "internal/bytealg.MaxLen"], plainKeys := false, apart := false, laid := [("unicode/utf8.acceptRanges", laid_unicode_utf8_acceptRanges), ("unicode/utf8.first", laid_unicode_utf8_first)] }
def WireSignsSaid : Prop := wireSignsRow.holds Tryz.pinned (OpenSpec.ofChange wireSignsSpec)

/-- ITS FALSE NEIGHBOUR: 'it returns false'. Refute it at one input. -/
def wireSignsWrong : ChangeSpec := { name := "wireSigns", fn := fun _ => fun
  | [d1, d2, d3] => { results := [.lit (.bool false)], args := [d1, d2, d3] }
  | _ => none }
def WireSignsWrongFalsely : Prop := wireSignsRow.holds Tryz.pinned (OpenSpec.ofChange wireSignsWrong)

/-- 'oilcakelaw11.WireSent': WHATEVER THE INPUT: true; the input reads as it did. -/
def wireSentSpec : ChangeSpec := { name := "wireSent", fn := fun _ => fun
  | [d1, d2, d3] => { results := [.lit (.bool true)], args := [d1, d2, d3] }
  | _ => none }
def wireSentRow : OpenClaim := { program := "ytfnibmcenjiodaagreatdoor", sum := "94f29051744f476a024ce47384ff68eec47a913fa234ed926250a01c0d486884", func := "oilcake/oilcakelaw11.WireSent", spec := "wireSent", inPlace := ["internal/bytealg.IndexByteString", "internal/bytealg.IndexString", "internal/abi.NoEscape", "internal/bytealg.MakeNoZero"], unfollowed := true, recurses := true, named := ["unicode/utf8.first", "unicode/utf8.acceptRanges", "internal/bytealg.MaxLen"], plainKeys := false, apart := false, laid := [("unicode/utf8.acceptRanges", laid_unicode_utf8_acceptRanges), ("unicode/utf8.first", laid_unicode_utf8_first)] }
def WireSentSaid : Prop := wireSentRow.holds Tryz.pinned (OpenSpec.ofChange wireSentSpec)

/-- ITS FALSE NEIGHBOUR: 'it returns false'. Refute it at one input. -/
def wireSentWrong : ChangeSpec := { name := "wireSent", fn := fun _ => fun
  | [d1, d2, d3] => { results := [.lit (.bool false)], args := [d1, d2, d3] }
  | _ => none }
def WireSentWrongFalsely : Prop := wireSentRow.holds Tryz.pinned (OpenSpec.ofChange wireSentWrong)

/-- 'oilcakelaw11.WireCost': WHATEVER THE INPUT: true; the input reads as it did. -/
def wireCostSpec : ChangeSpec := { name := "wireCost", fn := fun _ => fun
  | [d1, d2] => { results := [.lit (.bool true)], args := [d1, d2] }
  | _ => none }
def wireCostRow : OpenClaim := { program := "ytfnibmcenjiodaagreatdoor", sum := "94f29051744f476a024ce47384ff68eec47a913fa234ed926250a01c0d486884", func := "oilcake/oilcakelaw11.WireCost", spec := "wireCost", inPlace := ["internal/bytealg.IndexByteString", "internal/bytealg.IndexString", "internal/abi.NoEscape", "internal/bytealg.MakeNoZero"], unfollowed := true, recurses := true, named := ["unicode/utf8.first", "unicode/utf8.acceptRanges", "internal/bytealg.MaxLen"], plainKeys := false, apart := false, laid := [("unicode/utf8.acceptRanges", laid_unicode_utf8_acceptRanges), ("unicode/utf8.first", laid_unicode_utf8_first)] }
def WireCostSaid : Prop := wireCostRow.holds Tryz.pinned (OpenSpec.ofChange wireCostSpec)

/-- ITS FALSE NEIGHBOUR: 'it returns false'. Refute it at one input. -/
def wireCostWrong : ChangeSpec := { name := "wireCost", fn := fun _ => fun
  | [d1, d2] => { results := [.lit (.bool false)], args := [d1, d2] }
  | _ => none }
def WireCostWrongFalsely : Prop := wireCostRow.holds Tryz.pinned (OpenSpec.ofChange wireCostWrong)

/-- 'oilcakelaw11.WireMend': WHATEVER THE INPUT: true; the input reads as it did. -/
def wireMendSpec : ChangeSpec := { name := "wireMend", fn := fun _ => fun
  | [d1, d2, d3] => { results := [.lit (.bool true)], args := [d1, d2, d3] }
  | _ => none }
def wireMendRow : OpenClaim := { program := "ytfnibmcenjiodaagreatdoor", sum := "94f29051744f476a024ce47384ff68eec47a913fa234ed926250a01c0d486884", func := "oilcake/oilcakelaw11.WireMend", spec := "wireMend", inPlace := ["internal/bytealg.IndexByteString", "internal/bytealg.IndexString", "internal/abi.NoEscape", "internal/bytealg.MakeNoZero"], unfollowed := true, recurses := true, named := ["unicode/utf8.first", "unicode/utf8.acceptRanges", "internal/bytealg.MaxLen"], plainKeys := false, apart := false, laid := [("unicode/utf8.acceptRanges", laid_unicode_utf8_acceptRanges), ("unicode/utf8.first", laid_unicode_utf8_first)] }
def WireMendSaid : Prop := wireMendRow.holds Tryz.pinned (OpenSpec.ofChange wireMendSpec)

/-- ITS FALSE NEIGHBOUR: 'it returns false'. Refute it at one input. -/
def wireMendWrong : ChangeSpec := { name := "wireMend", fn := fun _ => fun
  | [d1, d2, d3] => { results := [.lit (.bool false)], args := [d1, d2, d3] }
  | _ => none }
def WireMendWrongFalsely : Prop := wireMendRow.holds Tryz.pinned (OpenSpec.ofChange wireMendWrong)

/-- 'oilcakelaw11.WireSlip': WHATEVER THE INPUT: true; the input reads as it did. -/
def wireSlipSpec : ChangeSpec := { name := "wireSlip", fn := fun _ => fun
  | [d1, d2, d3] => { results := [.lit (.bool true)], args := [d1, d2, d3] }
  | _ => none }
def wireSlipRow : OpenClaim := { program := "ytfnibmcenjiodaagreatdoor", sum := "94f29051744f476a024ce47384ff68eec47a913fa234ed926250a01c0d486884", func := "oilcake/oilcakelaw11.WireSlip", spec := "wireSlip", inPlace := ["internal/bytealg.IndexByteString", "internal/bytealg.IndexString", "internal/abi.NoEscape", "internal/bytealg.MakeNoZero"], unfollowed := true, recurses := true, named := ["unicode/utf8.first", "unicode/utf8.acceptRanges", "internal/bytealg.MaxLen"], plainKeys := false, apart := false, laid := [("unicode/utf8.acceptRanges", laid_unicode_utf8_acceptRanges), ("unicode/utf8.first", laid_unicode_utf8_first)] }
def WireSlipSaid : Prop := wireSlipRow.holds Tryz.pinned (OpenSpec.ofChange wireSlipSpec)

/-- ITS FALSE NEIGHBOUR: 'it returns false'. Refute it at one input. -/
def wireSlipWrong : ChangeSpec := { name := "wireSlip", fn := fun _ => fun
  | [d1, d2, d3] => { results := [.lit (.bool false)], args := [d1, d2, d3] }
  | _ => none }
def WireSlipWrongFalsely : Prop := wireSlipRow.holds Tryz.pinned (OpenSpec.ofChange wireSlipWrong)

/-- 'oilcakelaw11.WireNumbers': WHATEVER THE INPUT: true; the input reads as it did. -/
def wireNumbersSpec : ChangeSpec := { name := "wireNumbers", fn := fun _ => fun
  | [d1, d2, d3] => { results := [.lit (.bool true)], args := [d1, d2, d3] }
  | _ => none }
def wireNumbersRow : OpenClaim := { program := "ytfnibmcenjiodaagreatdoor", sum := "94f29051744f476a024ce47384ff68eec47a913fa234ed926250a01c0d486884", func := "oilcake/oilcakelaw11.WireNumbers", spec := "wireNumbers", inPlace := ["internal/bytealg.IndexByteString", "internal/bytealg.IndexString", "internal/abi.NoEscape", "internal/bytealg.MakeNoZero"], unfollowed := true, recurses := true, named := ["unicode/utf8.first", "unicode/utf8.acceptRanges", "internal/bytealg.MaxLen"], plainKeys := false, apart := false, laid := [("unicode/utf8.acceptRanges", laid_unicode_utf8_acceptRanges), ("unicode/utf8.first", laid_unicode_utf8_first)] }
def WireNumbersSaid : Prop := wireNumbersRow.holds Tryz.pinned (OpenSpec.ofChange wireNumbersSpec)

/-- ITS FALSE NEIGHBOUR: 'it returns false'. Refute it at one input. -/
def wireNumbersWrong : ChangeSpec := { name := "wireNumbers", fn := fun _ => fun
  | [d1, d2, d3] => { results := [.lit (.bool false)], args := [d1, d2, d3] }
  | _ => none }
def WireNumbersWrongFalsely : Prop := wireNumbersRow.holds Tryz.pinned (OpenSpec.ofChange wireNumbersWrong)

/-- 'oilcakelaw11.WireHeads': WHATEVER THE INPUT: true; the input reads as it did. -/
def wireHeadsSpec : ChangeSpec := { name := "wireHeads", fn := fun _ => fun
  | [d1, d2] => { results := [.lit (.bool true)], args := [d1, d2] }
  | _ => none }
def wireHeadsRow : OpenClaim := { program := "ytfnibmcenjiodaagreatdoor", sum := "94f29051744f476a024ce47384ff68eec47a913fa234ed926250a01c0d486884", func := "oilcake/oilcakelaw11.WireHeads", spec := "wireHeads", inPlace := ["internal/bytealg.IndexByteString", "internal/bytealg.IndexString", "internal/abi.NoEscape", "internal/bytealg.MakeNoZero"], unfollowed := true, recurses := true, named := ["unicode/utf8.first", "unicode/utf8.acceptRanges", "internal/bytealg.MaxLen"], plainKeys := false, apart := false, laid := [("unicode/utf8.acceptRanges", laid_unicode_utf8_acceptRanges), ("unicode/utf8.first", laid_unicode_utf8_first)] }
def WireHeadsSaid : Prop := wireHeadsRow.holds Tryz.pinned (OpenSpec.ofChange wireHeadsSpec)

/-- ITS FALSE NEIGHBOUR: 'it returns false'. Refute it at one input. -/
def wireHeadsWrong : ChangeSpec := { name := "wireHeads", fn := fun _ => fun
  | [d1, d2] => { results := [.lit (.bool false)], args := [d1, d2] }
  | _ => none }
def WireHeadsWrongFalsely : Prop := wireHeadsRow.holds Tryz.pinned (OpenSpec.ofChange wireHeadsWrong)

/-- 'oilcakelaw11.WireDouble': WHATEVER THE INPUT: true; the input reads as it did. -/
def wireDoubleSpec : ChangeSpec := { name := "wireDouble", fn := fun _ => fun
  | [d1, d2] => { results := [.lit (.bool true)], args := [d1, d2] }
  | _ => none }
def wireDoubleRow : OpenClaim := { program := "ytfnibmcenjiodaagreatdoor", sum := "94f29051744f476a024ce47384ff68eec47a913fa234ed926250a01c0d486884", func := "oilcake/oilcakelaw11.WireDouble", spec := "wireDouble", inPlace := ["internal/bytealg.IndexByteString", "internal/bytealg.IndexString", "internal/abi.NoEscape", "internal/bytealg.MakeNoZero"], unfollowed := true, recurses := true, named := ["unicode/utf8.first", "unicode/utf8.acceptRanges", "internal/bytealg.MaxLen"], plainKeys := false, apart := false, laid := [("unicode/utf8.acceptRanges", laid_unicode_utf8_acceptRanges), ("unicode/utf8.first", laid_unicode_utf8_first)] }
def WireDoubleSaid : Prop := wireDoubleRow.holds Tryz.pinned (OpenSpec.ofChange wireDoubleSpec)

/-- ITS FALSE NEIGHBOUR: 'it returns false'. Refute it at one input. -/
def wireDoubleWrong : ChangeSpec := { name := "wireDouble", fn := fun _ => fun
  | [d1, d2] => { results := [.lit (.bool false)], args := [d1, d2] }
  | _ => none }
def WireDoubleWrongFalsely : Prop := wireDoubleRow.holds Tryz.pinned (OpenSpec.ofChange wireDoubleWrong)

/-- 'oilcakelaw11.WireExamples': WHATEVER THE INPUT: true; the input reads as it did. -/
def wireExamplesSpec : ChangeSpec := { name := "wireExamples", fn := fun _ => fun
  | [] => { results := [.lit (.bool true)], args := [] }
  | _ => none }
def wireExamplesRow : OpenClaim := { program := "ytfnibmcenjiodaagreatdoor", sum := "94f29051744f476a024ce47384ff68eec47a913fa234ed926250a01c0d486884", func := "oilcake/oilcakelaw11.WireExamples", spec := "wireExamples", inPlace := ["internal/bytealg.IndexByteString", "internal/bytealg.IndexString", "internal/abi.NoEscape", "internal/bytealg.MakeNoZero"], unfollowed := true, recurses := true, named := ["unicode/utf8.first", "unicode/utf8.acceptRanges", "internal/bytealg.MaxLen"], plainKeys := false, apart := false, laid := [("unicode/utf8.acceptRanges", laid_unicode_utf8_acceptRanges), ("unicode/utf8.first", laid_unicode_utf8_first)] }
def WireExamplesSaid : Prop := wireExamplesRow.holds Tryz.pinned (OpenSpec.ofChange wireExamplesSpec)

/-- ITS FALSE NEIGHBOUR: 'it returns false'. Refute it at one input. -/
def wireExamplesWrong : ChangeSpec := { name := "wireExamples", fn := fun _ => fun
  | [] => { results := [.lit (.bool false)], args := [] }
  | _ => none }
def WireExamplesWrongFalsely : Prop := wireExamplesRow.holds Tryz.pinned (OpenSpec.ofChange wireExamplesWrong)

/-- 'oilcakelaw11.WirePress': WHATEVER THE INPUT: true; the input reads as it did. -/
def wirePressSpec : ChangeSpec := { name := "wirePress", fn := fun _ => fun
  | [d1, d2, d3] => { results := [.lit (.bool true)], args := [d1, d2, d3] }
  | _ => none }
def wirePressRow : OpenClaim := { program := "ytfnibmcenjiodaagreatdoor", sum := "94f29051744f476a024ce47384ff68eec47a913fa234ed926250a01c0d486884", func := "oilcake/oilcakelaw11.WirePress", spec := "wirePress", inPlace := ["internal/bytealg.IndexByteString", "internal/bytealg.IndexString", "internal/abi.NoEscape", "internal/bytealg.MakeNoZero"], unfollowed := true, recurses := true, named := ["unicode/utf8.first", "unicode/utf8.acceptRanges", "internal/bytealg.MaxLen"], plainKeys := false, apart := false, laid := [("unicode/utf8.acceptRanges", laid_unicode_utf8_acceptRanges), ("unicode/utf8.first", laid_unicode_utf8_first)] }
def WirePressSaid : Prop := wirePressRow.holds Tryz.pinned (OpenSpec.ofChange wirePressSpec)

/-- ITS FALSE NEIGHBOUR: 'it returns false'. Refute it at one input. -/
def wirePressWrong : ChangeSpec := { name := "wirePress", fn := fun _ => fun
  | [d1, d2, d3] => { results := [.lit (.bool false)], args := [d1, d2, d3] }
  | _ => none }
def WirePressWrongFalsely : Prop := wirePressRow.holds Tryz.pinned (OpenSpec.ofChange wirePressWrong)

/-- 'oilcakelaw11.WireRoll': WHATEVER THE INPUT: true; the input reads as it did. -/
def wireRollSpec : ChangeSpec := { name := "wireRoll", fn := fun _ => fun
  | [d1, d2] => { results := [.lit (.bool true)], args := [d1, d2] }
  | _ => none }
def wireRollRow : OpenClaim := { program := "ytfnibmcenjiodaagreatdoor", sum := "94f29051744f476a024ce47384ff68eec47a913fa234ed926250a01c0d486884", func := "oilcake/oilcakelaw11.WireRoll", spec := "wireRoll", inPlace := ["internal/bytealg.IndexByteString", "internal/bytealg.IndexString", "internal/abi.NoEscape", "internal/bytealg.MakeNoZero"], unfollowed := true, recurses := true, named := ["unicode/utf8.first", "unicode/utf8.acceptRanges", "internal/bytealg.MaxLen"], plainKeys := false, apart := false, laid := [("unicode/utf8.acceptRanges", laid_unicode_utf8_acceptRanges), ("unicode/utf8.first", laid_unicode_utf8_first)] }
def WireRollSaid : Prop := wireRollRow.holds Tryz.pinned (OpenSpec.ofChange wireRollSpec)

/-- ITS FALSE NEIGHBOUR: 'it returns false'. Refute it at one input. -/
def wireRollWrong : ChangeSpec := { name := "wireRoll", fn := fun _ => fun
  | [d1, d2] => { results := [.lit (.bool false)], args := [d1, d2] }
  | _ => none }
def WireRollWrongFalsely : Prop := wireRollRow.holds Tryz.pinned (OpenSpec.ofChange wireRollWrong)

/- THE SECOND FORM. 'bulk': how many values and letters a reading holds, each counted each time it is reached (what is shared counts as often as it is met; a slice's spare places count too). A statement '..UptoSaid' is the law's where the arguments, and the package variables that the reading takes, are together of bulk at most 1048576: NARROWER than '..Said'. Prove '..Said' where nothing that the law and all that it calls make is longer than what came in: it says more and counts as full. Else prove '..UptoSaid'. A law counts once. -/
mutual
def uptoBulk {H : Type} : DataW H → Nat
  | .lit (.string bytes) => bytes.length + 1
  | .lit _ => 1
  | .nil => 1
  | .ptr d => uptoBulk d + 1
  | .slice elems spare => uptoBulkAll elems + uptoBulkAll spare + 1
  | .agg parts => uptoBulkAll parts + 1
  | .iface _ d => uptoBulk d + 1
  | .map entries => uptoBulkEntries entries + 1
  | .held _ => 1
def uptoBulkAll {H : Type} : List (DataW H) → Nat
  | [] => 0
  | d :: r => uptoBulk d + uptoBulkAll r
def uptoBulkEntries {H : Type} : List (Lit × DataW H) → Nat
  | [] => 0
  | x :: r => uptoBulkEntry x + uptoBulkEntries r
def uptoBulkEntry {H : Type} : Lit × DataW H → Nat
  | (.string bytes, d) => bytes.length + uptoBulk d + 1
  | (_, d) => uptoBulk d + 1
 end
def uptoSmall : (H : Type) → List (DataW H) → Bool := fun _ ds => decide (uptoBulkAll ds ≤ 1048576)
def OpenSpec.upto (s : _root_.Go.ChangeSpec) : _root_.Go.OpenSpec := { _root_.Go.OpenSpec.ofChange s with cond := some uptoSmall }

/-- 'oilcakelaw11.WireSigns', WHERE WHAT IT READS IS OF BULK AT MOST 1048576: true; the input reads as it did. -/
def wireSignsUptoRow : OpenClaim := { program := "ytfnibmcenjiodaagreatdoor", sum := "94f29051744f476a024ce47384ff68eec47a913fa234ed926250a01c0d486884", func := "oilcake/oilcakelaw11.WireSigns", spec := "wireSigns", inPlace := ["internal/bytealg.IndexByteString", "internal/bytealg.IndexString", "internal/abi.NoEscape"], unfollowed := true, recurses := true, named := ["unicode/utf8.first", "unicode/utf8.acceptRanges", "internal/bytealg.MaxLen"], plainKeys := false, apart := false, laid := [("unicode/utf8.acceptRanges", laid_unicode_utf8_acceptRanges), ("unicode/utf8.first", laid_unicode_utf8_first)], narrowed := true }
def WireSignsUptoSaid : Prop := wireSignsUptoRow.holds Tryz.pinned (OpenSpec.upto wireSignsSpec)

/-- 'oilcakelaw11.WireSent', WHERE WHAT IT READS IS OF BULK AT MOST 1048576: true; the input reads as it did. -/
def wireSentUptoRow : OpenClaim := { program := "ytfnibmcenjiodaagreatdoor", sum := "94f29051744f476a024ce47384ff68eec47a913fa234ed926250a01c0d486884", func := "oilcake/oilcakelaw11.WireSent", spec := "wireSent", inPlace := ["internal/bytealg.IndexByteString", "internal/bytealg.IndexString", "internal/abi.NoEscape", "internal/bytealg.MakeNoZero"], unfollowed := true, recurses := true, named := ["unicode/utf8.first", "unicode/utf8.acceptRanges", "internal/bytealg.MaxLen"], plainKeys := false, apart := false, laid := [("unicode/utf8.acceptRanges", laid_unicode_utf8_acceptRanges), ("unicode/utf8.first", laid_unicode_utf8_first)], narrowed := true }
def WireSentUptoSaid : Prop := wireSentUptoRow.holds Tryz.pinned (OpenSpec.upto wireSentSpec)

/-- 'oilcakelaw11.WireCost', WHERE WHAT IT READS IS OF BULK AT MOST 1048576: true; the input reads as it did. -/
def wireCostUptoRow : OpenClaim := { program := "ytfnibmcenjiodaagreatdoor", sum := "94f29051744f476a024ce47384ff68eec47a913fa234ed926250a01c0d486884", func := "oilcake/oilcakelaw11.WireCost", spec := "wireCost", inPlace := ["internal/bytealg.IndexByteString", "internal/bytealg.IndexString", "internal/abi.NoEscape", "internal/bytealg.MakeNoZero"], unfollowed := true, recurses := true, named := ["unicode/utf8.first", "unicode/utf8.acceptRanges", "internal/bytealg.MaxLen"], plainKeys := false, apart := false, laid := [("unicode/utf8.acceptRanges", laid_unicode_utf8_acceptRanges), ("unicode/utf8.first", laid_unicode_utf8_first)], narrowed := true }
def WireCostUptoSaid : Prop := wireCostUptoRow.holds Tryz.pinned (OpenSpec.upto wireCostSpec)

/-- 'oilcakelaw11.WireMend', WHERE WHAT IT READS IS OF BULK AT MOST 1048576: true; the input reads as it did. -/
def wireMendUptoRow : OpenClaim := { program := "ytfnibmcenjiodaagreatdoor", sum := "94f29051744f476a024ce47384ff68eec47a913fa234ed926250a01c0d486884", func := "oilcake/oilcakelaw11.WireMend", spec := "wireMend", inPlace := ["internal/bytealg.IndexByteString", "internal/bytealg.IndexString", "internal/abi.NoEscape", "internal/bytealg.MakeNoZero"], unfollowed := true, recurses := true, named := ["unicode/utf8.first", "unicode/utf8.acceptRanges", "internal/bytealg.MaxLen"], plainKeys := false, apart := false, laid := [("unicode/utf8.acceptRanges", laid_unicode_utf8_acceptRanges), ("unicode/utf8.first", laid_unicode_utf8_first)], narrowed := true }
def WireMendUptoSaid : Prop := wireMendUptoRow.holds Tryz.pinned (OpenSpec.upto wireMendSpec)

/-- 'oilcakelaw11.WireSlip', WHERE WHAT IT READS IS OF BULK AT MOST 1048576: true; the input reads as it did. -/
def wireSlipUptoRow : OpenClaim := { program := "ytfnibmcenjiodaagreatdoor", sum := "94f29051744f476a024ce47384ff68eec47a913fa234ed926250a01c0d486884", func := "oilcake/oilcakelaw11.WireSlip", spec := "wireSlip", inPlace := ["internal/bytealg.IndexByteString", "internal/bytealg.IndexString", "internal/abi.NoEscape", "internal/bytealg.MakeNoZero"], unfollowed := true, recurses := true, named := ["unicode/utf8.first", "unicode/utf8.acceptRanges", "internal/bytealg.MaxLen"], plainKeys := false, apart := false, laid := [("unicode/utf8.acceptRanges", laid_unicode_utf8_acceptRanges), ("unicode/utf8.first", laid_unicode_utf8_first)], narrowed := true }
def WireSlipUptoSaid : Prop := wireSlipUptoRow.holds Tryz.pinned (OpenSpec.upto wireSlipSpec)

/-- 'oilcakelaw11.WireNumbers', WHERE WHAT IT READS IS OF BULK AT MOST 1048576: true; the input reads as it did. -/
def wireNumbersUptoRow : OpenClaim := { program := "ytfnibmcenjiodaagreatdoor", sum := "94f29051744f476a024ce47384ff68eec47a913fa234ed926250a01c0d486884", func := "oilcake/oilcakelaw11.WireNumbers", spec := "wireNumbers", inPlace := ["internal/bytealg.IndexByteString", "internal/bytealg.IndexString", "internal/abi.NoEscape", "internal/bytealg.MakeNoZero"], unfollowed := true, recurses := true, named := ["unicode/utf8.first", "unicode/utf8.acceptRanges", "internal/bytealg.MaxLen"], plainKeys := false, apart := false, laid := [("unicode/utf8.acceptRanges", laid_unicode_utf8_acceptRanges), ("unicode/utf8.first", laid_unicode_utf8_first)], narrowed := true }
def WireNumbersUptoSaid : Prop := wireNumbersUptoRow.holds Tryz.pinned (OpenSpec.upto wireNumbersSpec)

/-- 'oilcakelaw11.WireHeads', WHERE WHAT IT READS IS OF BULK AT MOST 1048576: true; the input reads as it did. -/
def wireHeadsUptoRow : OpenClaim := { program := "ytfnibmcenjiodaagreatdoor", sum := "94f29051744f476a024ce47384ff68eec47a913fa234ed926250a01c0d486884", func := "oilcake/oilcakelaw11.WireHeads", spec := "wireHeads", inPlace := ["internal/bytealg.IndexByteString", "internal/bytealg.IndexString", "internal/abi.NoEscape", "internal/bytealg.MakeNoZero"], unfollowed := true, recurses := true, named := ["unicode/utf8.first", "unicode/utf8.acceptRanges", "internal/bytealg.MaxLen"], plainKeys := false, apart := false, laid := [("unicode/utf8.acceptRanges", laid_unicode_utf8_acceptRanges), ("unicode/utf8.first", laid_unicode_utf8_first)], narrowed := true }
def WireHeadsUptoSaid : Prop := wireHeadsUptoRow.holds Tryz.pinned (OpenSpec.upto wireHeadsSpec)

/-- 'oilcakelaw11.WireDouble', WHERE WHAT IT READS IS OF BULK AT MOST 1048576: true; the input reads as it did. -/
def wireDoubleUptoRow : OpenClaim := { program := "ytfnibmcenjiodaagreatdoor", sum := "94f29051744f476a024ce47384ff68eec47a913fa234ed926250a01c0d486884", func := "oilcake/oilcakelaw11.WireDouble", spec := "wireDouble", inPlace := ["internal/bytealg.IndexByteString", "internal/bytealg.IndexString", "internal/abi.NoEscape", "internal/bytealg.MakeNoZero"], unfollowed := true, recurses := true, named := ["unicode/utf8.first", "unicode/utf8.acceptRanges", "internal/bytealg.MaxLen"], plainKeys := false, apart := false, laid := [("unicode/utf8.acceptRanges", laid_unicode_utf8_acceptRanges), ("unicode/utf8.first", laid_unicode_utf8_first)], narrowed := true }
def WireDoubleUptoSaid : Prop := wireDoubleUptoRow.holds Tryz.pinned (OpenSpec.upto wireDoubleSpec)

/-- 'oilcakelaw11.WireExamples', WHERE WHAT IT READS IS OF BULK AT MOST 1048576: true; the input reads as it did. -/
def wireExamplesUptoRow : OpenClaim := { program := "ytfnibmcenjiodaagreatdoor", sum := "94f29051744f476a024ce47384ff68eec47a913fa234ed926250a01c0d486884", func := "oilcake/oilcakelaw11.WireExamples", spec := "wireExamples", inPlace := ["internal/bytealg.IndexByteString", "internal/bytealg.IndexString", "internal/abi.NoEscape", "internal/bytealg.MakeNoZero"], unfollowed := true, recurses := true, named := ["unicode/utf8.first", "unicode/utf8.acceptRanges", "internal/bytealg.MaxLen"], plainKeys := false, apart := false, laid := [("unicode/utf8.acceptRanges", laid_unicode_utf8_acceptRanges), ("unicode/utf8.first", laid_unicode_utf8_first)], narrowed := true }
def WireExamplesUptoSaid : Prop := wireExamplesUptoRow.holds Tryz.pinned (OpenSpec.upto wireExamplesSpec)

/-- 'oilcakelaw11.WirePress', WHERE WHAT IT READS IS OF BULK AT MOST 1048576: true; the input reads as it did. -/
def wirePressUptoRow : OpenClaim := { program := "ytfnibmcenjiodaagreatdoor", sum := "94f29051744f476a024ce47384ff68eec47a913fa234ed926250a01c0d486884", func := "oilcake/oilcakelaw11.WirePress", spec := "wirePress", inPlace := ["internal/bytealg.IndexByteString", "internal/bytealg.IndexString", "internal/abi.NoEscape", "internal/bytealg.MakeNoZero"], unfollowed := true, recurses := true, named := ["unicode/utf8.first", "unicode/utf8.acceptRanges", "internal/bytealg.MaxLen"], plainKeys := false, apart := false, laid := [("unicode/utf8.acceptRanges", laid_unicode_utf8_acceptRanges), ("unicode/utf8.first", laid_unicode_utf8_first)], narrowed := true }
def WirePressUptoSaid : Prop := wirePressUptoRow.holds Tryz.pinned (OpenSpec.upto wirePressSpec)

/-- 'oilcakelaw11.WireRoll', WHERE WHAT IT READS IS OF BULK AT MOST 1048576: true; the input reads as it did. -/
def wireRollUptoRow : OpenClaim := { program := "ytfnibmcenjiodaagreatdoor", sum := "94f29051744f476a024ce47384ff68eec47a913fa234ed926250a01c0d486884", func := "oilcake/oilcakelaw11.WireRoll", spec := "wireRoll", inPlace := ["internal/bytealg.IndexByteString", "internal/bytealg.IndexString", "internal/abi.NoEscape", "internal/bytealg.MakeNoZero"], unfollowed := true, recurses := true, named := ["unicode/utf8.first", "unicode/utf8.acceptRanges", "internal/bytealg.MaxLen"], plainKeys := false, apart := false, laid := [("unicode/utf8.acceptRanges", laid_unicode_utf8_acceptRanges), ("unicode/utf8.first", laid_unicode_utf8_first)], narrowed := true }
def WireRollUptoSaid : Prop := wireRollUptoRow.holds Tryz.pinned (OpenSpec.upto wireRollSpec)

end Rows
end Go.Proofs.YtfnibmcenjiodaaGreatDoor
