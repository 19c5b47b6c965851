/-
  DERIVED. GIVEN WITH THE SEED: THE CARDS: each row of YtcoobajkgioflaaGreatDoorRows.lean that lists a variable, with what it lists TIED to the program's text (the seventh form; the later family's looks); each row that meets fmt, with fmt's text TOLD by the authors' own Lean function (tested against real Go, not proved from fmt's source: count such statements apart). THE CARD IS WHAT COUNTS. Prove the row's statement (the work); the ties are given (YtcoobajkgioflaaGreatDoorTie.lean); close each card by the builder's one call (the guide's Derived/Test/ToyasCard.lean, 'card_holds'). Laid BY PROGRAM, IN A SANDBOX (cutbox-door.mjs). By AI agents, Wed Nov 11 2026. No macro, syntax, notation, axiom, sorry.
-/
import Derived.Test.YtcoobajkgioflaaGreatDoorRows
import GoSem.ClaimSeven
namespace Go.Proofs.YtcoobajkgioflaaGreatDoor
namespace Rows

/-- THE TIED CARD OF 'letterboxlaw16.PopReads'. -/
def popReadsCard : Claim7 := { stood := { row := popReadsRow, standIns := [], harness := (true, "72eec47be9786b762d369c9e09f3c491a6e4afa7ec6ceeb96251264e01232477"), looks := true }, kinds := [], alts := [], laidByText := true, laidKinds := [.data, .data, .data, .data, .sentinel, .sentinel, .pinned], laidTests := true, laidLooks := .later }
def PopReadsCardSaid : Prop := Claim7.holds Tryz.pinned (.plain (OpenSpec.ofChange popReadsSpec)) popReadsCard

/-- THE TIED CARD OF 'letterboxlaw16.PopAlone'. -/
def popAloneCard : Claim7 := { stood := { row := popAloneRow, standIns := [], harness := (true, "72eec47be9786b762d369c9e09f3c491a6e4afa7ec6ceeb96251264e01232477"), looks := true }, kinds := [], alts := [], laidByText := true, laidKinds := [.data, .data, .data, .data, .sentinel, .sentinel, .pinned], laidTests := true, laidLooks := .later }
def PopAloneCardSaid : Prop := Claim7.holds Tryz.pinned (.plain (OpenSpec.ofChange popAloneSpec)) popAloneCard

/-- THE TIED CARD OF 'letterboxlaw16.PopNothing'. -/
def popNothingCard : Claim7 := { stood := { row := popNothingRow, standIns := [], harness := (true, "72eec47be9786b762d369c9e09f3c491a6e4afa7ec6ceeb96251264e01232477"), looks := true }, kinds := [], alts := [], laidByText := true, laidKinds := [.data, .data, .data, .data, .sentinel, .sentinel, .pinned], laidTests := true, laidLooks := .later }
def PopNothingCardSaid : Prop := Claim7.holds Tryz.pinned (.plain (OpenSpec.ofChange popNothingSpec)) popNothingCard

/-- THE TIED CARD OF 'letterboxlaw16.PopStats'. -/
def popStatsCard : Claim7 := { stood := { row := popStatsRow, standIns := [], harness := (true, "72eec47be9786b762d369c9e09f3c491a6e4afa7ec6ceeb96251264e01232477"), looks := true }, kinds := [], alts := [], laidByText := true, laidKinds := [.data, .data, .data, .data, .sentinel, .sentinel, .pinned], laidTests := true, laidLooks := .later }
def PopStatsCardSaid : Prop := Claim7.holds Tryz.pinned (.plain (OpenSpec.ofChange popStatsSpec)) popStatsCard

/-- THE TIED CARD OF 'letterboxlaw16.PopOfNothing'. -/
def popOfNothingCard : Claim7 := { stood := { row := popOfNothingRow, standIns := [], harness := (true, "72eec47be9786b762d369c9e09f3c491a6e4afa7ec6ceeb96251264e01232477"), looks := true }, kinds := [], alts := [], laidByText := true, laidKinds := [.data, .data, .data, .data, .sentinel, .sentinel, .pinned], laidTests := true, laidLooks := .later }
def PopOfNothingCardSaid : Prop := Claim7.holds Tryz.pinned (.plain (OpenSpec.ofChange popOfNothingSpec)) popOfNothingCard

/-- THE TIED CARD OF 'letterboxlaw16.PopWrong'. -/
def popWrongCard : Claim7 := { stood := { row := popWrongRow, standIns := [], harness := (true, "72eec47be9786b762d369c9e09f3c491a6e4afa7ec6ceeb96251264e01232477"), looks := true }, kinds := [], alts := [], laidByText := true, laidKinds := [.data, .data, .data, .data, .sentinel, .sentinel, .pinned], laidTests := true, laidLooks := .later }
def PopWrongCardSaid : Prop := Claim7.holds Tryz.pinned (.plain (OpenSpec.ofChange popWrongSpec)) popWrongCard

/-- THE TIED CARD OF 'letterboxlaw16.PopQuits'. -/
def popQuitsCard : Claim7 := { stood := { row := popQuitsRow, standIns := [], harness := (true, "72eec47be9786b762d369c9e09f3c491a6e4afa7ec6ceeb96251264e01232477"), looks := true }, kinds := [], alts := [], laidByText := true, laidKinds := [.data, .data, .data, .data, .sentinel, .sentinel, .pinned], laidTests := true, laidLooks := .later }
def PopQuitsCardSaid : Prop := Claim7.holds Tryz.pinned (.plain (OpenSpec.ofChange popQuitsSpec)) popQuitsCard

/-- THE SECOND FORM's CARD OF 'letterboxlaw16.PopReads'. -/
def popReadsUptoCard : Claim7 := { stood := { row := popReadsUptoRow, standIns := [], harness := (true, "72eec47be9786b762d369c9e09f3c491a6e4afa7ec6ceeb96251264e01232477"), looks := true }, kinds := [], alts := [], laidByText := true, laidKinds := [.data, .data, .data, .data, .sentinel, .sentinel, .pinned], laidTests := true, laidLooks := .later }
def PopReadsUptoCardSaid : Prop := Claim7.holds Tryz.pinned (.plain (OpenSpec.upto popReadsSpec)) popReadsUptoCard

/-- THE SECOND FORM's CARD OF 'letterboxlaw16.PopAlone'. -/
def popAloneUptoCard : Claim7 := { stood := { row := popAloneUptoRow, standIns := [], harness := (true, "72eec47be9786b762d369c9e09f3c491a6e4afa7ec6ceeb96251264e01232477"), looks := true }, kinds := [], alts := [], laidByText := true, laidKinds := [.data, .data, .data, .data, .sentinel, .sentinel, .pinned], laidTests := true, laidLooks := .later }
def PopAloneUptoCardSaid : Prop := Claim7.holds Tryz.pinned (.plain (OpenSpec.upto popAloneSpec)) popAloneUptoCard

/-- THE SECOND FORM's CARD OF 'letterboxlaw16.PopNothing'. -/
def popNothingUptoCard : Claim7 := { stood := { row := popNothingUptoRow, standIns := [], harness := (true, "72eec47be9786b762d369c9e09f3c491a6e4afa7ec6ceeb96251264e01232477"), looks := true }, kinds := [], alts := [], laidByText := true, laidKinds := [.data, .data, .data, .data, .sentinel, .sentinel, .pinned], laidTests := true, laidLooks := .later }
def PopNothingUptoCardSaid : Prop := Claim7.holds Tryz.pinned (.plain (OpenSpec.upto popNothingSpec)) popNothingUptoCard

/-- THE SECOND FORM's CARD OF 'letterboxlaw16.PopStats'. -/
def popStatsUptoCard : Claim7 := { stood := { row := popStatsUptoRow, standIns := [], harness := (true, "72eec47be9786b762d369c9e09f3c491a6e4afa7ec6ceeb96251264e01232477"), looks := true }, kinds := [], alts := [], laidByText := true, laidKinds := [.data, .data, .data, .data, .sentinel, .sentinel, .pinned], laidTests := true, laidLooks := .later }
def PopStatsUptoCardSaid : Prop := Claim7.holds Tryz.pinned (.plain (OpenSpec.upto popStatsSpec)) popStatsUptoCard

/-- THE SECOND FORM's CARD OF 'letterboxlaw16.PopOfNothing'. -/
def popOfNothingUptoCard : Claim7 := { stood := { row := popOfNothingUptoRow, standIns := [], harness := (true, "72eec47be9786b762d369c9e09f3c491a6e4afa7ec6ceeb96251264e01232477"), looks := true }, kinds := [], alts := [], laidByText := true, laidKinds := [.data, .data, .data, .data, .sentinel, .sentinel, .pinned], laidTests := true, laidLooks := .later }
def PopOfNothingUptoCardSaid : Prop := Claim7.holds Tryz.pinned (.plain (OpenSpec.upto popOfNothingSpec)) popOfNothingUptoCard

/-- THE SECOND FORM's CARD OF 'letterboxlaw16.PopWrong'. -/
def popWrongUptoCard : Claim7 := { stood := { row := popWrongUptoRow, standIns := [], harness := (true, "72eec47be9786b762d369c9e09f3c491a6e4afa7ec6ceeb96251264e01232477"), looks := true }, kinds := [], alts := [], laidByText := true, laidKinds := [.data, .data, .data, .data, .sentinel, .sentinel, .pinned], laidTests := true, laidLooks := .later }
def PopWrongUptoCardSaid : Prop := Claim7.holds Tryz.pinned (.plain (OpenSpec.upto popWrongSpec)) popWrongUptoCard

/-- THE SECOND FORM's CARD OF 'letterboxlaw16.PopQuits'. -/
def popQuitsUptoCard : Claim7 := { stood := { row := popQuitsUptoRow, standIns := [], harness := (true, "72eec47be9786b762d369c9e09f3c491a6e4afa7ec6ceeb96251264e01232477"), looks := true }, kinds := [], alts := [], laidByText := true, laidKinds := [.data, .data, .data, .data, .sentinel, .sentinel, .pinned], laidTests := true, laidLooks := .later }
def PopQuitsUptoCardSaid : Prop := Claim7.holds Tryz.pinned (.plain (OpenSpec.upto popQuitsSpec)) popQuitsUptoCard
end Rows
end Go.Proofs.YtcoobajkgioflaaGreatDoor
