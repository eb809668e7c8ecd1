/-
  DERIVED. GIVEN WITH THE SEED: THE CARDS: each row of YtogkdoooimcemaaGreatDoorRows.lean that lists a variable, with what it lists TIED to the program's text (the seventh form; the later family's looks); each row that meets fmt, with fmt's text TOLD by the authors' own Lean function (tested against real Go, not proved from fmt's source: count such statements apart). THE CARD IS WHAT COUNTS. Prove the row's statement (the work); the ties are given (YtogkdoooimcemaaGreatDoorTie.lean); close each card by the builder's one call (the guide's Derived/Test/ToyasCard.lean, 'card_holds'). Laid BY PROGRAM, IN A SANDBOX (cutbox-door.mjs). By AI agents, Wed Nov 11 2026. No macro, syntax, notation, axiom, sorry.
-/
import Derived.Test.YtogkdoooimcemaaGreatDoorRows
import GoSem.ClaimSeven
namespace Go.Proofs.YtogkdoooimcemaaGreatDoor
namespace Rows

/-- THE TIED CARD OF 'speculumlaw13.SegmentsNone'. -/
def segmentsNoneCard : Claim7 := { stood := { row := segmentsNoneRow, standIns := [], harness := (true, "cf38ee7f59704056a7cbd310c164ce7835a297e8b81f7fb64b18e6352d3b7c00"), looks := false }, kinds := [], alts := [], laidByText := true, laidKinds := [.data, .data], laidTests := true, laidLooks := .later }
def SegmentsNoneCardSaid : Prop := Claim7.holds Tryz.pinned (.plain (OpenSpec.ofChange segmentsNoneSpec)) segmentsNoneCard

/-- THE TIED CARD OF 'speculumlaw13.SegmentsOpen'. -/
def segmentsOpenCard : Claim7 := { stood := { row := segmentsOpenRow, standIns := [], harness := (true, "cf38ee7f59704056a7cbd310c164ce7835a297e8b81f7fb64b18e6352d3b7c00"), looks := false }, kinds := [], alts := [], laidByText := true, laidKinds := [.data, .data], laidTests := true, laidLooks := .later }
def SegmentsOpenCardSaid : Prop := Claim7.holds Tryz.pinned (.plain (OpenSpec.ofChange segmentsOpenSpec)) segmentsOpenCard

/-- THE TIED CARD OF 'speculumlaw13.SegmentsCut'. -/
def segmentsCutCard : Claim7 := { stood := { row := segmentsCutRow, standIns := [], harness := (true, "cf38ee7f59704056a7cbd310c164ce7835a297e8b81f7fb64b18e6352d3b7c00"), looks := false }, kinds := [], alts := [], laidByText := true, laidKinds := [.data, .data], laidTests := true, laidLooks := .later }
def SegmentsCutCardSaid : Prop := Claim7.holds Tryz.pinned (.plain (OpenSpec.ofChange segmentsCutSpec)) segmentsCutCard

/-- THE TIED CARD OF 'speculumlaw13.SegmentsSure'. -/
def segmentsSureCard : Claim7 := { stood := { row := segmentsSureRow, standIns := [], harness := (true, "cf38ee7f59704056a7cbd310c164ce7835a297e8b81f7fb64b18e6352d3b7c00"), looks := false }, kinds := [], alts := [], laidByText := true, laidKinds := [.data, .data], laidTests := true, laidLooks := .later }
def SegmentsSureCardSaid : Prop := Claim7.holds Tryz.pinned (.plain (OpenSpec.ofChange segmentsSureSpec)) segmentsSureCard

/-- THE SECOND FORM's CARD OF 'speculumlaw13.SegmentsNone'. -/
def segmentsNoneUptoCard : Claim7 := { stood := { row := segmentsNoneUptoRow, standIns := [], harness := (true, "cf38ee7f59704056a7cbd310c164ce7835a297e8b81f7fb64b18e6352d3b7c00"), looks := false }, kinds := [], alts := [], laidByText := true, laidKinds := [.data, .data], laidTests := true, laidLooks := .later }
def SegmentsNoneUptoCardSaid : Prop := Claim7.holds Tryz.pinned (.plain (OpenSpec.upto segmentsNoneSpec)) segmentsNoneUptoCard

/-- THE SECOND FORM's CARD OF 'speculumlaw13.SegmentsOpen'. -/
def segmentsOpenUptoCard : Claim7 := { stood := { row := segmentsOpenUptoRow, standIns := [], harness := (true, "cf38ee7f59704056a7cbd310c164ce7835a297e8b81f7fb64b18e6352d3b7c00"), looks := false }, kinds := [], alts := [], laidByText := true, laidKinds := [.data, .data], laidTests := true, laidLooks := .later }
def SegmentsOpenUptoCardSaid : Prop := Claim7.holds Tryz.pinned (.plain (OpenSpec.upto segmentsOpenSpec)) segmentsOpenUptoCard

/-- THE SECOND FORM's CARD OF 'speculumlaw13.SegmentsCut'. -/
def segmentsCutUptoCard : Claim7 := { stood := { row := segmentsCutUptoRow, standIns := [], harness := (true, "cf38ee7f59704056a7cbd310c164ce7835a297e8b81f7fb64b18e6352d3b7c00"), looks := false }, kinds := [], alts := [], laidByText := true, laidKinds := [.data, .data], laidTests := true, laidLooks := .later }
def SegmentsCutUptoCardSaid : Prop := Claim7.holds Tryz.pinned (.plain (OpenSpec.upto segmentsCutSpec)) segmentsCutUptoCard

/-- THE SECOND FORM's CARD OF 'speculumlaw13.SegmentsSure'. -/
def segmentsSureUptoCard : Claim7 := { stood := { row := segmentsSureUptoRow, standIns := [], harness := (true, "cf38ee7f59704056a7cbd310c164ce7835a297e8b81f7fb64b18e6352d3b7c00"), looks := false }, kinds := [], alts := [], laidByText := true, laidKinds := [.data, .data], laidTests := true, laidLooks := .later }
def SegmentsSureUptoCardSaid : Prop := Claim7.holds Tryz.pinned (.plain (OpenSpec.upto segmentsSureSpec)) segmentsSureUptoCard
end Rows
end Go.Proofs.YtogkdoooimcemaaGreatDoor
