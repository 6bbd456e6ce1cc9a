/-
  DERIVED. GIVEN WITH THE SEED: THE CARDS: each row of YtjmfknlbnnpbiaaGreatDoorRows.lean that lists a variable, with what it lists TIED to the program's text (the seventh form; the later family's looks); each row that meets fmt, with fmt's text TOLD by the authors' own Lean function (tested against real Go, not proved from fmt's source: count such statements apart). THE CARD IS WHAT COUNTS. Prove the row's statement (the work); the ties are given (YtjmfknlbnnpbiaaGreatDoorTie.lean); close each card by the builder's one call (the guide's Derived/Test/ToyasCard.lean, 'card_holds'). Laid BY PROGRAM, IN A SANDBOX (cutbox-door.mjs). By AI agents, Wed Nov 11 2026. No macro, syntax, notation, axiom, sorry.
-/
import Derived.Test.YtjmfknlbnnpbiaaGreatDoorRows
import GoSem.ClaimSeven
namespace Go.Proofs.YtjmfknlbnnpbiaaGreatDoor
namespace Rows

/-- THE TIED CARD OF 'jetsamlaw16.ScanAt'. -/
def scanAtCard : Claim7 := { stood := { row := scanAtRow, standIns := [], harness := (true, "13195d3674073950646bd1539d1bf05cfc046337bd96af0117bc889d6b8b239a"), looks := false }, kinds := [], alts := [], laidByText := true, laidKinds := [.data, .data, .data, .data, .widerDeep, .widerDeep, .widerDeep], laidTests := true, laidLooks := .later }
def ScanAtCardSaid : Prop := Claim7.holds Tryz.pinned (.plain (OpenSpec.ofChange scanAtSpec)) scanAtCard

/-- THE TIED CARD OF 'jetsamlaw16.ScanMoves'. -/
def scanMovesCard : Claim7 := { stood := { row := scanMovesRow, standIns := [], harness := (true, "13195d3674073950646bd1539d1bf05cfc046337bd96af0117bc889d6b8b239a"), looks := false }, kinds := [], alts := [], laidByText := true, laidKinds := [.data, .data, .data, .data, .widerDeep, .widerDeep, .widerDeep], laidTests := true, laidLooks := .later }
def ScanMovesCardSaid : Prop := Claim7.holds Tryz.pinned (.plain (OpenSpec.ofChange scanMovesSpec)) scanMovesCard

/-- THE TIED CARD OF 'jetsamlaw16.ScanNone'. -/
def scanNoneCard : Claim7 := { stood := { row := scanNoneRow, standIns := [], harness := (true, "13195d3674073950646bd1539d1bf05cfc046337bd96af0117bc889d6b8b239a"), looks := false }, kinds := [], alts := [], laidByText := true, laidKinds := [.data, .data, .data, .data, .widerDeep, .widerDeep, .widerDeep], laidTests := true, laidLooks := .later }
def ScanNoneCardSaid : Prop := Claim7.holds Tryz.pinned (.plain (OpenSpec.ofChange scanNoneSpec)) scanNoneCard

/-- THE TIED CARD OF 'jetsamlaw16.ScanAll'. -/
def scanAllCard : Claim7 := { stood := { row := scanAllRow, standIns := [], harness := (true, "13195d3674073950646bd1539d1bf05cfc046337bd96af0117bc889d6b8b239a"), looks := false }, kinds := [], alts := [], laidByText := true, laidKinds := [.data, .data, .data, .data, .widerDeep, .widerDeep, .widerDeep], laidTests := true, laidLooks := .later }
def ScanAllCardSaid : Prop := Claim7.holds Tryz.pinned (.plain (OpenSpec.ofChange scanAllSpec)) scanAllCard

/-- THE TIED CARD OF 'jetsamlaw16.ScanBegins'. -/
def scanBeginsCard : Claim7 := { stood := { row := scanBeginsRow, standIns := [], harness := (true, "13195d3674073950646bd1539d1bf05cfc046337bd96af0117bc889d6b8b239a"), looks := false }, kinds := [], alts := [], laidByText := true, laidKinds := [.data, .data, .data, .data, .widerDeep, .widerDeep, .widerDeep], laidTests := true, laidLooks := .later }
def ScanBeginsCardSaid : Prop := Claim7.holds Tryz.pinned (.plain (OpenSpec.ofChange scanBeginsSpec)) scanBeginsCard

/-- THE TIED CARD OF 'jetsamlaw16.ScanRaw'. -/
def scanRawCard : Claim7 := { stood := { row := scanRawRow, standIns := [], harness := (true, "13195d3674073950646bd1539d1bf05cfc046337bd96af0117bc889d6b8b239a"), looks := false }, kinds := [], alts := [], laidByText := true, laidKinds := [.data, .data, .data, .data, .widerDeep, .widerDeep, .widerDeep], laidTests := true, laidLooks := .later }
def ScanRawCardSaid : Prop := Claim7.holds Tryz.pinned (.plain (OpenSpec.ofChange scanRawSpec)) scanRawCard

/-- THE SECOND FORM's CARD OF 'jetsamlaw16.ScanAt'. -/
def scanAtUptoCard : Claim7 := { stood := { row := scanAtUptoRow, standIns := [], harness := (true, "13195d3674073950646bd1539d1bf05cfc046337bd96af0117bc889d6b8b239a"), looks := false }, kinds := [], alts := [], laidByText := true, laidKinds := [.data, .data, .data, .data, .widerDeep, .widerDeep, .widerDeep], laidTests := true, laidLooks := .later }
def ScanAtUptoCardSaid : Prop := Claim7.holds Tryz.pinned (.plain (OpenSpec.upto scanAtSpec)) scanAtUptoCard

/-- THE SECOND FORM's CARD OF 'jetsamlaw16.ScanMoves'. -/
def scanMovesUptoCard : Claim7 := { stood := { row := scanMovesUptoRow, standIns := [], harness := (true, "13195d3674073950646bd1539d1bf05cfc046337bd96af0117bc889d6b8b239a"), looks := false }, kinds := [], alts := [], laidByText := true, laidKinds := [.data, .data, .data, .data, .widerDeep, .widerDeep, .widerDeep], laidTests := true, laidLooks := .later }
def ScanMovesUptoCardSaid : Prop := Claim7.holds Tryz.pinned (.plain (OpenSpec.upto scanMovesSpec)) scanMovesUptoCard

/-- THE SECOND FORM's CARD OF 'jetsamlaw16.ScanNone'. -/
def scanNoneUptoCard : Claim7 := { stood := { row := scanNoneUptoRow, standIns := [], harness := (true, "13195d3674073950646bd1539d1bf05cfc046337bd96af0117bc889d6b8b239a"), looks := false }, kinds := [], alts := [], laidByText := true, laidKinds := [.data, .data, .data, .data, .widerDeep, .widerDeep, .widerDeep], laidTests := true, laidLooks := .later }
def ScanNoneUptoCardSaid : Prop := Claim7.holds Tryz.pinned (.plain (OpenSpec.upto scanNoneSpec)) scanNoneUptoCard

/-- THE SECOND FORM's CARD OF 'jetsamlaw16.ScanAll'. -/
def scanAllUptoCard : Claim7 := { stood := { row := scanAllUptoRow, standIns := [], harness := (true, "13195d3674073950646bd1539d1bf05cfc046337bd96af0117bc889d6b8b239a"), looks := false }, kinds := [], alts := [], laidByText := true, laidKinds := [.data, .data, .data, .data, .widerDeep, .widerDeep, .widerDeep], laidTests := true, laidLooks := .later }
def ScanAllUptoCardSaid : Prop := Claim7.holds Tryz.pinned (.plain (OpenSpec.upto scanAllSpec)) scanAllUptoCard

/-- THE SECOND FORM's CARD OF 'jetsamlaw16.ScanBegins'. -/
def scanBeginsUptoCard : Claim7 := { stood := { row := scanBeginsUptoRow, standIns := [], harness := (true, "13195d3674073950646bd1539d1bf05cfc046337bd96af0117bc889d6b8b239a"), looks := false }, kinds := [], alts := [], laidByText := true, laidKinds := [.data, .data, .data, .data, .widerDeep, .widerDeep, .widerDeep], laidTests := true, laidLooks := .later }
def ScanBeginsUptoCardSaid : Prop := Claim7.holds Tryz.pinned (.plain (OpenSpec.upto scanBeginsSpec)) scanBeginsUptoCard

/-- THE SECOND FORM's CARD OF 'jetsamlaw16.ScanRaw'. -/
def scanRawUptoCard : Claim7 := { stood := { row := scanRawUptoRow, standIns := [], harness := (true, "13195d3674073950646bd1539d1bf05cfc046337bd96af0117bc889d6b8b239a"), looks := false }, kinds := [], alts := [], laidByText := true, laidKinds := [.data, .data, .data, .data, .widerDeep, .widerDeep, .widerDeep], laidTests := true, laidLooks := .later }
def ScanRawUptoCardSaid : Prop := Claim7.holds Tryz.pinned (.plain (OpenSpec.upto scanRawSpec)) scanRawUptoCard
end Rows
end Go.Proofs.YtjmfknlbnnpbiaaGreatDoor
